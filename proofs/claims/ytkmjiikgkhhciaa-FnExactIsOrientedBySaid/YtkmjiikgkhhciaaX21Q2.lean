/- Contracts and plain mathematics for a law, merged. -/
import Derived.DeepKeys3
import Derived.Test.YtkmjiikgkhhciaaX21Q1
/- Contracts: even sets, both sides. -/
set_option linter.unusedVariables false
set_option linter.unusedSimpArgs false
set_option maxRecDepth 100000
namespace Go.Proofs
open Go.Abs

variable {H : AHeap} {v u f : Value} {l m c : List Int} {es fs : List (Int × Int)} {K : Value → AHeap → Prop}

theorem u64_sum {a b : Nat} (h : a + b < 2 ^ 64) : IntKind.u64.wrap (((a : Nat) : Int) + ((b : Nat) : Int)) = ((a + b : Nat) : Int) := by
  rw [← Int.natCast_add, u64_nat h]
theorem onesCount_ok {s : Nat} (hs : s < 2 ^ 64) (k : K (.int .i64 (popc s 64 : Nat)) H) : AC Try.prog T0 115 [.int .u64 (s : Nat)] H K := by
  have d64 : ∀ a k : Nat, a < 2 ^ 64 → a / k < 2 ^ 64 := fun a k h => Nat.lt_of_le_of_lt (Nat.div_le_self _ _) h
  apply F115.ac
  unfold F115.B8 F115.B7
  refine ⟨by decide, ?_⟩
  have ma : msk 85 8 = 6148914691236517205 := msk_a
  have mb : msk 51 8 = 3689348814741910323 := msk_b
  have mc : msk 15 8 = 1085102592571150095 := msk_c
  have la : ∀ x, x &&& msk 85 8 ≤ 6148914691236517205 := fun x => by rw [← ma]; exact Nat.and_le_right
  have lb : ∀ x, x &&& msk 51 8 ≤ 3689348814741910323 := fun x => by rw [← mb]; exact Nat.and_le_right
  rw [shr_nat, show min (Int.toNat 1) 64 = 1 from rfl, show (6148914691236517205 : Int) = ((msk 85 8 : Nat) : Int) by rw [ma]; rfl, bits_and (d64 _ _ hs) (by rw [ma]; decide), bits_and hs (by rw [ma]; decide),
    u64_sum (by have := la (s / 2 ^ 1); have := la s; omega), show (s / 2 ^ 1 &&& msk 85 8) + (s &&& msk 85 8) = stA 8 s from rfl]
  have hA : stA 8 s < 2 ^ 64 := by unfold stA; have := la (s / 2); have := la s; omega
  unfold F115.B6
  refine ⟨by decide, ?_⟩
  rw [shr_nat, show min (Int.toNat 2) 64 = 2 from rfl, show (3689348814741910323 : Int) = ((msk 51 8 : Nat) : Int) by rw [mb]; rfl, bits_and (d64 _ _ hA) (by rw [mb]; decide), bits_and hA (by rw [mb]; decide),
    u64_sum (by have := lb (stA 8 s / 2 ^ 2); have := lb (stA 8 s); omega), show (stA 8 s / 2 ^ 2 &&& msk 51 8) + (stA 8 s &&& msk 51 8) = byts 8 s from rfl]
  have hB : byts 8 s ≤ 7378697629483820646 := by unfold byts stB; have := lb (stA 8 s / 4); have := lb (stA 8 s); omega
  unfold F115.B5
  refine ⟨by decide, ?_⟩
  rw [shr_nat, show min (Int.toNat 4) 64 = 4 from rfl, show (1085102592571150095 : Int) = ((msk 15 8 : Nat) : Int) by rw [mc]; rfl, u64_sum (by omega), bits_and (by omega) (by rw [mc]; decide),
    show (byts 8 s / 2 ^ 4 + byts 8 s) &&& msk 15 8 = pops 8 s from rfl]
  have hC := pops_le (x := s)
  obtain ⟨a, ha⟩ : ∃ a, a = pops 8 s := ⟨_, rfl⟩
  rw [← ha] at hC ⊢
  unfold F115.B4
  refine ⟨by decide, ?_⟩
  rw [shr_nat, show min (Int.toNat 8) 64 = 8 from rfl, u64_sum (by omega)]
  obtain ⟨b, hb⟩ : ∃ b, b = a + a / 2 ^ 8 := ⟨_, rfl⟩
  rw [← hb]
  unfold F115.B3
  refine ⟨by decide, ?_⟩
  rw [shr_nat, show min (Int.toNat 16) 64 = 16 from rfl, u64_sum (by omega)]
  obtain ⟨c, hc⟩ : ∃ c, c = b + b / 2 ^ 16 := ⟨_, rfl⟩
  rw [← hc]
  unfold F115.B2
  refine ⟨by decide, ?_⟩
  rw [shr_nat, show min (Int.toNat 32) 64 = 32 from rfl, u64_sum (by omega)]
  obtain ⟨d, hd⟩ : ∃ d, d = c + c / 2 ^ 32 := ⟨_, rfl⟩
  rw [← hd]
  unfold F115.B1
  have hdl : d < 2 ^ 62 := by omega
  have hp := pops_sum ha hb hc hd
  have e1 : IntKind.i64.wrap ((d : Nat) : Int) = ((d : Nat) : Int) := wrap_id (by omega) (by omega)
  rw [e1, bv_nat, show (127 : Int) = ((127 : Nat) : Int) from rfl, bv_nat, BitVec.toNat_and, BitVec.toNat_ofNat, BitVec.toNat_ofNat, Nat.mod_eq_of_lt (by omega), Nat.mod_eq_of_lt (by decide), show (127 : Nat) = 2 ^ 7 - 1 from rfl, Nat.and_two_pow_sub_one_eq_mod,
    show d % 2 ^ 7 = popc s 64 from hp]
  have : popc s 64 ≤ 64 := bitsTo_length s 64
  rw [wrap_id (by omega) (by omega)]
  exact k
theorem size_ok {s : Nat} (hs : s < 2 ^ 64) (k : K (.int .i64 (popc s 64 : Nat)) H) : AC Try.prog T0 66 [.int .u64 (s : Nat)] H K := by
  apply F66.ac
  unfold F66.B2 F66.B1
  exact onesCount_ok hs (asI_mk k)

theorem at_range {es : List (Int × Int)} {w : Int} {x : Int} (hx : x ∈ atL es w) : 0 ≤ x ∧ x < es.length := by
  obtain ⟨i, rfl, h, _⟩ := mem_atL.1 hx
  exact ⟨by omega, by omega⟩
theorem popc_deg {es : List (Int × Int)} {s : Nat} {w : Int} (hm : es.length ≤ 64) : popc (setN (atL es w) &&& s) 64 = degB es (fun j => s.testBit j) w := by
  have hb : ∀ j, (setN (atL es w) &&& s).testBit j = decide (j < es.length ∧ on (es.getD j (0, 0)) w = true ∧ s.testBit j = true) := by
    intro j
    rw [Nat.testBit_and, setN_bit fun x hx => (at_range hx).1, Bool.eq_iff_iff, Bool.and_eq_true, decide_eq_true_iff, decide_eq_true_iff, mem_atL]
    constructor
    · rintro ⟨⟨i, hi, h1, h2⟩, h3⟩
      obtain rfl : j = i := by omega
      exact ⟨h1, h2, h3⟩
    · rintro ⟨h1, h2, h3⟩
      exact ⟨⟨j, rfl, h1, h2⟩, h3⟩
  unfold popc degB
  have e := bitsL_filt (s := setN (atL es w) &&& s) hm fun j hj => by
    rw [hb] at hj; exact (of_decide_eq_true hj).1
  unfold bitsL at e
  rw [e, filtB_congr fun j hj => ?_]
  show (setN (atL es w) &&& s).testBit j = (on (es.getD j (0, 0)) w && s.testBit j)
  rw [hb, Bool.eq_iff_iff, decide_eq_true_iff, Bool.and_eq_true]
  exact ⟨fun h => h.2, fun h => ⟨hj, h⟩⟩

theorem isEven_ok {n : Int} {s : Nat} (h : Edges H v es) (hg : IsG n es) (hs : s < 2 ^ 64) (k : ∀ G, H.le G → K (.bool (decide (EvenS n es (fun j => s.testBit j)))) G) :
    AC Try.prog T0 142 [.agg ⟨[.int .i64 n, v]⟩, .int .u64 (s : Nat)] H K := by
  have n0 := hg.ed.lo; have n1 := hg.ed.hi
  have h30 : es.length ≤ 30 := by have := hg.ed.len; omega
  apply F142.ac
  unfold F142.B9
  refine newK_f (all_iv (edges_one' h)) fun H1 l1 n1' o1 => ?_
  unfold F142.B8
  refine ldI_own o1 rfl ?_
  unfold F142.L2
  refine ⟨fun x1 x2 x7 x8 G => ((s : Nat) : Int) = x1 ∧ H.length = x2 ∧ n = x7 ∧ H1.le G ∧ ∃ w : Nat, x8 = w ∧ (w : Int) ≤ n ∧ ∀ w', w' < w → degB es (fun j => s.testBit j) w' % 2 = 0, fun _ _ _ x8 _ => (n - x8).toNat, ⟨rfl, rfl, rfl, AHeap.le_refl _, 0, rfl, by omega, fun w' h => absurd h (by omega)⟩, ?_⟩
  rintro x1 x2 x7 x8 G ⟨rfl, rfl, rfl, hG, w, rfl, hw, hp⟩
  have lG := AHeap.le_trans l1 hG
  have oG := o1.le hG
  unfold F142.B7
  refine pif_cases (fun hb => ?_) fun hb => ?_
  · have hlt := of_decide_eq_true hb
    unfold F142.B6 F142.B5
    refine ldI_own oG rfl (ld1_own oG rfl (at_ok (h.le lG) (by omega) fun q H2 l2 f2 => setOf_ok f2.ints (by have := hg.three (v := w) (by omega) hlt; omega) (fun x hx => by have := at_range hx; omega) (asI_mk ?_)))
    have h64 : setN (atL es w) < 2 ^ 64 := setN_lt fun x hx => by have := at_range hx; omega
    rw [bits_and h64 hs]
    have hz : setN (atL es w) &&& s < 2 ^ 64 := Nat.lt_of_le_of_lt Nat.and_le_left h64
    refine size_ok hz (asI_mk ?_)
    rw [popc_deg (by omega), show Int.tmod ((degB es (fun j => s.testBit j) w : Nat) : Int) 2 = ((degB es (fun j => s.testBit j) w % 2 : Nat) : Int) by rw [Int.tmod_eq_emod_of_nonneg (by omega)]; omega]
    refine pif_cases (fun hs => ?_) fun hs => ?_
    · unfold F142.B4
      have k := k _ (AHeap.le_trans lG l2)
      rw [decide_eq_false (fun he : EvenS n es (fun j => s.testBit j) => by
        have := he w hlt
        rw [this] at hs; simp at hs)] at k
      exact k
    · unfold F142.B3
      rw [wrap_id (by omega) (by omega)]
      refine ⟨⟨rfl, rfl, rfl, AHeap.le_trans hG l2, w + 1, by omega, by omega, fun w' hw' => ?_⟩, show (n - ((w : Int) + 1)).toNat < (n - (w : Int)).toNat by omega⟩
      by_cases e : w' = w
      · subst e
        have := bne_eq_false_iff_eq.1 hs
        omega
      · exact hp w' (by omega)
  · have hge := of_decide_eq_false hb
    unfold F142.B1
    have k := k _ lG
    rw [decide_eq_true (show EvenS n es (fun j => s.testBit j) from fun w' hw' => hp w' (by omega))] at k
    exact k

theorem kept_get {es : List (Int × Int)} {l : List Int} {i : Nat} (h : i < l.length) : keptL es (l.take (i + 1)) = keptL es (l.take i) ++ [es.getD (l[i]).toNat (0, 0)] := by
  unfold keptL; rw [List.take_succ_eq_append_getElem h, List.map_append]; rfl
theorem foldl_bump_le2 (k : List (Int × Int)) (n : Nat) : ∀ c ∈ k.foldl bump (List.replicate n 0), 0 ≤ c ∧ c ≤ 2 * k.length := by
  intro c hc
  have := foldl_bump_le k _ 0 (by intro c hc; rw [List.mem_replicate] at hc; omega) c hc
  omega
theorem IsS.short {l : List Int} {n : Nat} (h : IsS l n) : l.length ≤ n := by rw [h.filt]; exact filtB_length _ _

theorem l07Even_ok {n : Int} (h : Edges H v es) (hg : IsG n es) (hc : Ints H u l) (hs : IsS l es.length) (k : ∀ G, H.le G → K (.bool (decide (EvenS n es (bitB l)))) G) :
    AC Try.prog T0 137 [.agg ⟨[.int .i64 n, v]⟩, u] H K := by
  have n0 := hg.ed.lo; have n1 := hg.ed.hi
  have h30 : es.length ≤ 30 := by have := hg.ed.len; omega
  have hll := hs.short
  have hsr : ∀ x ∈ l, 0 ≤ x ∧ x < es.length := hs.range
  apply F137.ac
  unfold F137.B15
  refine newK_f (all_iv (edges_one' h)) fun H1 l1 n1' o1 => ?_
  unfold F137.B14
  refine ldI_own o1 rfl (mkR_int (by omega) (by omega) (by decide) fun H2 l2 n2 o2 => ?_)
  rw [rep_one] at o2
  let C : Nat → List Int := fun i => (keptL es (l.take i)).foldl bump (List.replicate n.toNat 0)
  have CL : ∀ i, (C i).length = n.toNat := fun i => by show (List.foldl bump _ _).length = _; rw [foldl_bump_length]; simp
  have CB : ∀ i, ∀ c ∈ C i, 0 ≤ c ∧ c ≤ 1000 := fun i c hc => by
    have := foldl_bump_le2 _ _ c hc
    have hk : (keptL es (l.take i)).length ≤ 30 := by unfold keptL; rw [List.length_map, List.length_take]; omega
    omega
  have hsl : ∀ cs : List Int, cs.length = n.toNat → (.slice (some ⟨H1.length, 0, none⟩) n.toNat (n.toNat + 1) : Value) = .slice (some ⟨H1.length, 0, none⟩) cs.length (cs.length + 1) := fun cs h => by rw [h]
  unfold F137.B13 F137.L8
  refine ⟨fun x1 x2 x5 x6 G => u = x1 ∧ H.length = x2 ∧ .slice (some ⟨H1.length, 0, none⟩) n.toNat (n.toNat + 1) = x5 ∧ H1.le G ∧ ∃ i : Nat, x6 = i ∧ i ≤ l.length ∧ Own G H1.length 2 (LI (C i)), fun _ _ _ x6 _ => l.length - x6.toNat, ⟨rfl, rfl, rfl, l2, 0, rfl, by omega, o2⟩, ?_⟩
  rintro x1 x2 x5 x6 G ⟨rfl, rfl, rfl, hG, i, rfl, hi, oC⟩
  have lG := AHeap.le_trans l1 hG
  have oG := o1.le hG
  unfold F137.B12
  refine (hc.le lG).len (pif_cases (fun hb => ?_) fun hb => ?_)
  · have hlt : i < l.length := by have := of_decide_eq_true hb; omega
    have hx := hsr l[i] (List.getElem_mem hlt)
    have hxl : (l[i]).toNat < es.length := by omega
    obtain ⟨d1, d2, d3, d4, d5⟩ := hg.ed.ends es[(l[i]).toNat] (List.getElem_mem hxl)
    rw [← getD_of (d := (0, 0)) hxl] at d1 d2 d3 d4 d5
    unfold F137.B11
    obtain ⟨b, o, hk, c1, c2⟩ := (h.le lG).idx hx.1 hx.2
    refine ld1_own oG rfl ((hc.le lG).rd (by omega) (by omega) ?_)
    rw [Int.toNat_natCast, getD_of hlt]
    refine hk _ (ldI_mk c1 ?_)
    rw [hsl _ (CL i)]
    refine bump_at oC d1 (by rw [CL]; omega) (fun c hc => by have := CB i c hc; omega) fun G2 b2 o2 => ?_
    rw [← hsl _ (CL i)]
    have hG2 := b2.le hG (Nat.le_refl _)
    have lG2 := AHeap.le_trans l1 hG2
    unfold F137.B10
    obtain ⟨b', o', hk', c1', c2'⟩ := (h.le lG2).idx hx.1 hx.2
    refine ld1_own (o1.le hG2) rfl ((hc.le lG2).rd (by omega) (by omega) ?_)
    rw [Int.toNat_natCast, getD_of hlt]
    refine hk' _ (ldI_mk c2' ?_)
    rw [hsl _ ((bump1_length _ _).trans (CL i))]
    refine bump_at o2 d3 (by rw [bump1_length, CL]; omega) (fun c hc => by have := bump1_le (CB i) _ c hc; omega) fun G3 b3 o3 => ?_
    rw [← hsl _ ((bump1_length _ _).trans (CL i))]
    unfold F137.B9
    rw [wrap_id (by omega) (by omega)]
    refine ⟨⟨rfl, rfl, rfl, b3.le hG2 (Nat.le_refl _), i + 1, by omega, by omega, ?_⟩, by simp; omega⟩
    have : C (i + 1) = bump (C i) (es.getD (l[i]).toNat (0, 0)) := by
      show List.foldl bump _ (keptL es (l.take (i + 1))) = _
      rw [kept_get hlt, List.foldl_append]; rfl
    rw [this]; exact o3
  · have hge : i = l.length := by have := of_decide_eq_false hb; omega
    subst hge
    have hC : ∀ w : Nat, (w : Int) < n → (C l.length).getD w 0 = (degB es (bitB l) w : Nat) := by
      intro w hw
      show (List.foldl bump _ (keptL es (l.take l.length))).getD w 0 = _
      rw [List.take_length, foldl_bump_at (n := n.toNat) (by omega) _ _ (by simp) fun e he => ?_, ← kept_deg es (bitB l) w, ← hs.filt]
      · simp [List.getD, show w < n.toNat by omega]
      · unfold keptL at he
        rw [List.mem_map] at he
        obtain ⟨x, hx, rfl⟩ := he
        have hx := hsr x hx
        have hxl : x.toNat < es.length := by omega
        obtain ⟨d1, d2, d3, d4, d5⟩ := hg.ed.ends es[x.toNat] (List.getElem_mem hxl)
        rw [getD_of hxl]; exact ⟨d1, d3, d5⟩
    have hCi := own_ints (c := n.toNat + 1) oC
    rw [CL] at hCi
    unfold F137.B7 F137.L2
    refine ⟨fun x5 x7 G' => .slice (some ⟨H1.length, 0, none⟩) n.toNat (n.toNat + 1) = x5 ∧ G = G' ∧ ∃ w : Nat, x7 = w ∧ w ≤ n.toNat ∧ ∀ w', w' < w → degB es (bitB l) w' % 2 = 0, fun _ x7 _ => (n - x7).toNat, ⟨rfl, rfl, 0, rfl, by omega, fun w' h => absurd h (by omega)⟩, ?_⟩
    rintro x5 x7 G' ⟨rfl, rfl, w, rfl, hw, hp⟩
    unfold F137.B6
    refine lenK_of (pif_cases (fun hb => ?_) fun hb => ?_)
    · have hwn : (w : Int) < n := by have := of_decide_eq_true hb; omega
      unfold F137.B5
      refine hCi.rd (by omega) (by rw [CL]; omega) ?_
      rw [Int.toNat_natCast, hC w hwn, show Int.tmod ((degB es (bitB l) w : Nat) : Int) 2 = ((degB es (bitB l) w % 2 : Nat) : Int) by rw [Int.tmod_eq_emod_of_nonneg (by omega)]; omega]
      refine pif_cases (fun hs' => ?_) fun hs' => ?_
      · unfold F137.B4
        have k := k _ lG
        rw [decide_eq_false (fun he : EvenS n es (bitB l) => by
          have := he w hwn
          rw [this] at hs'; simp at hs')] at k
        exact k
      · unfold F137.B3
        rw [wrap_id (by omega) (by omega)]
        refine ⟨⟨rfl, rfl, w + 1, by omega, by omega, fun w' hw' => ?_⟩, show (n - ((w : Int) + 1)).toNat < (n - (w : Int)).toNat by omega⟩
        by_cases e : w' = w
        · subst e
          have := bne_eq_false_iff_eq.1 hs'
          omega
        · exact hp w' (by omega)
    · have hge : ¬ (w : Int) < n := by have := of_decide_eq_false hb; omega
      unfold F137.B1
      have k := k _ lG
      rw [decide_eq_true (show EvenS n es (bitB l) from fun w' hw' => hp w' (by omega))] at k
      exact k

end Go.Proofs
/- Contracts: leaders of vertices. -/
set_option linter.unusedVariables false
set_option linter.unusedSimpArgs false
set_option maxRecDepth 100000
namespace Go.Proofs
open Go.Abs

variable {H : AHeap} {v u f : Value} {l m c : List Int} {es fs : List (Int × Int)} {K : Value → AHeap → Prop}

/-- Each vertex's number leads to it and is no greater. -/
def Led (n : Nat) (fs : List (Int × Int)) (D : List Int) : Prop := D.length = n ∧ ∀ w, w < n → ∃ k : Nat, D.getD w 0 = k ∧ k ≤ w ∧ Rch (vAdj fs) w k
/-- And joined vertices have the same. -/
structure Leads (n : Nat) (fs : List (Int × Int)) (D : List Int) : Prop where
  led : Led n fs D
  same : ∀ e ∈ fs, D.getD e.1.toNat 0 = D.getD e.2.toNat 0
theorem Leads.rch {n : Nat} {fs : List (Int × Int)} {D : List Int} (h : Leads n fs D) {a b : Nat} (hr : Rch (vAdj fs) a b) : D.getD a 0 = D.getD b 0 := by
  refine hr.keep (P := fun x => D.getD a 0 = D.getD x 0) (fun x y hxy hx => ?_) rfl
  rw [hx]
  rcases hxy with h1 | h1
  · simpa using h.same _ h1
  · simpa using (h.same _ h1).symm
theorem Leads.iff {n : Nat} {fs : List (Int × Int)} {D : List Int} (h : Leads n fs D) {a b : Nat} (ha : a < n) (hb : b < n) : D.getD a 0 = D.getD b 0 ↔ Rch (vAdj fs) a b := by
  refine ⟨fun he => ?_, h.rch⟩
  obtain ⟨k, h1, _, h2⟩ := h.led.2 a ha
  obtain ⟨k', h3, _, h4⟩ := h.led.2 b hb
  obtain rfl : k = k' := by omega
  exact h2.trans (h4.symm vAdj_symm)
def sumN (D : List Int) : Nat := (D.map Int.toNat).sum
theorem sumN_set {D : List Int} {i : Nat} {x : Int} (hi : i < D.length) : sumN (D.set i x) + (D.getD i 0).toNat = sumN D + x.toNat := by
  induction D generalizing i with
  | nil => simp at hi
  | cons a D ih =>
    cases i with
    | zero => simp [sumN]; omega
    | succ i =>
      have := ih (i := i) (by simpa using hi)
      simp [sumN] at this ⊢; omega
def rowSum (G : AHeap) (b : Nat) : Nat :=
  match G[b]? with
  | some (some (.row cs _ _)) => (cs.map fun | .int _ x => x.toNat | _ => 0).sum
  | _ => 0
theorem rowSum_own {G : AHeap} {b : Nat} {t : TypeId} {D : List Int} (h : Own G b t (LI D)) : rowSum G b = sumN D := by
  unfold rowSum sumN; rw [h]; simp [List.map_map]; rfl
theorem Led.merge {n : Nat} {fs : List (Int × Int)} {D : List Int} (h : Led n fs D) {a b : Nat} (he : ((a : Int), (b : Int)) ∈ fs) (ha : a < n) (hb : b < n) (hne : D.getD a 0 ≠ D.getD b 0) {x : Int} (hx : x = if D.getD b 0 < D.getD a 0 then D.getD b 0 else D.getD a 0) :
    Led n fs ((D.set a x).set b x) ∧ sumN ((D.set a x).set b x) < sumN D := by
  obtain ⟨hl, hp⟩ := h
  obtain ⟨k, h1, h2, h3⟩ := hp a ha
  obtain ⟨k', h4, h5, h6⟩ := hp b hb
  have hab : a ≠ b := fun e => by rw [e] at hne; exact hne rfl
  have adj : vAdj fs a b := .inl he
  have hxk : ∃ q : Nat, x = q ∧ q ≤ k ∧ q ≤ k' ∧ Rch (vAdj fs) a q ∧ Rch (vAdj fs) b q := by
    rw [hx, h1, h4]
    split
    · exact ⟨k', rfl, by omega, Nat.le_refl _, (Rch.step .refl adj).trans h6, h6⟩
    · exact ⟨k, rfl, Nat.le_refl _, by omega, h3, (Rch.step .refl (vAdj_symm _ _ adj)).trans h3⟩
  obtain ⟨q, hq, hq1, hq2, hq3, hq4⟩ := hxk
  refine ⟨⟨by simp [hl], fun w hw => ?_⟩, ?_⟩
  · by_cases e1 : b = w
    · subst e1
      refine ⟨q, ?_, by omega, hq4⟩
      simp [List.getD, hl, hw, hq]
    · by_cases e2 : a = w
      · subst e2
        refine ⟨q, ?_, by omega, hq3⟩
        simp [List.getD, List.getElem?_set, e1, hl, hw, hq]
      · obtain ⟨r, r1, r2⟩ := hp w hw
        refine ⟨r, ?_, r2⟩
        rw [← r1]
        simp [List.getD, List.getElem?_set, e1, e2]
  · have s1 := sumN_set (D := D.set a x) (i := b) (x := x) (by simp [hl, hb])
    have s2 := sumN_set (D := D) (i := a) (x := x) (by omega)
    have e : (D.set a x).getD b 0 = D.getD b 0 := by simp [List.getD, List.getElem?_set, hab]
    rw [e] at s1
    omega

theorem upto_succ (k : Nat) : upto (k + 1) = upto k ++ [(k : Int)] := by
  unfold upto; rw [List.range_succ, List.map_append]; rfl
theorem upto_length (k : Nat) : (upto k).length = k := by simp [upto]
theorem own_ne {b : Nat} {t : TypeId} {n : Nat} {cs : List Value} {G : AHeap} {m0 : Nat} (h : Fresh m0 G v t 1 cs) (hn : cs.length = n) (h0 : 0 < n) : ∃ b, m0 ≤ b ∧ v = .slice (some ⟨b, 0, none⟩) n (n + 1) ∧ Own G b t cs := by
  rcases h with ⟨rfl, _⟩ | ⟨b, k, h1, h2, h3, h4⟩
  · simp at hn; omega
  · obtain rfl : k = n := by omega
    exact ⟨b, h1, h2, h3⟩

theorem l01Leaders_ok {n : Int} (h : Edges H u fs) (hl : fs.length ≤ 1048576) (h0 : 0 < n) (h1 : n ≤ 20) (hf : ∀ e ∈ fs, 0 ≤ e.1 ∧ e.1 < n ∧ 0 ≤ e.2 ∧ e.2 < n)
    (k : ∀ b0 D G, H.le G → Own G b0 2 (LI D) → H.length ≤ b0 → Leads n.toNat fs D → K (.slice (some ⟨b0, 0, none⟩) n.toNat (n.toNat + 1)) G) :
    AC Try.prog T0 177 [.int .i64 n, u] H K := by
  apply F177.ac
  unfold F177.B21 F177.B20
  refine newK_f rfl fun H1 l1 n1 o1 => ?_
  unfold F177.B19 F177.L15
  refine ⟨fun x0 x1 x5 x6 G => n = x0 ∧ u = x1 ∧ H.le G ∧ ∃ i : Nat, x6 = i ∧ (i : Int) ≤ n ∧ Fresh H.length G x5 2 1 (LI (upto i)), fun x0 _ _ x6 _ => (x0 - x6).toNat, ⟨rfl, rfl, l1, 0, rfl, by omega, .inr ⟨_, 0, Nat.le_refl _, rfl, o1, rfl⟩⟩, ?_⟩
  rintro x0 x1 x5 x6 G ⟨rfl, rfl, hG, i, rfl, hi, hF⟩
  unfold F177.B18
  refine pif_cases (fun hb => ?_) fun hb => ?_
  · have hlt := of_decide_eq_true hb
    unfold F177.B17
    refine hF.sl.pushN E_int (by decide) hG.1 (n := 1) (ys := [.int .i64 i]) rfl rfl (by have := upto_length i; simp; omega) (by simp) fun v' G2 k2 _ _ f2 => ?_
    unfold F177.B16
    rw [wrap_id (by omega) (by omega)]
    refine ⟨⟨rfl, rfl, k2.le hG (Nat.le_refl _), i + 1, by omega, by omega, ?_⟩, show (n - ((i : Int) + 1)).toNat < (n - (i : Int)).toNat by omega⟩
    rw [upto_succ]; simpa using f2
  · have hge : (i : Int) = n := by have := of_decide_eq_false hb; omega
    obtain ⟨b0, hb0, rfl, oD⟩ := own_ne (b := 0) (n := n.toNat) hF (by rw [List.length_map, upto_length]; omega) (by omega)
    obtain rfl : i = n.toNat := by omega
    have ini : Led n.toNat fs (upto n.toNat) := by
      refine ⟨upto_length _, fun w hw => ⟨w, ?_, Nat.le_refl _, .refl⟩⟩
      unfold upto; simp [List.getD, hw]
    clear hb hge hi
    unfold F177.B14 F177.L2
    refine ⟨fun x1 x5 x7 G => u = x1 ∧ .slice (some ⟨b0, 0, none⟩) n.toNat (n.toNat + 1) = x5 ∧ H.le G ∧ ∃ D, Own G b0 2 (LI D) ∧ Led n.toNat fs D ∧ (x7 = false → ∀ e ∈ fs, D.getD e.1.toNat 0 = D.getD e.2.toNat 0), fun _ _ x7 G => 2 * rowSum G b0 + if x7 then 1 else 0,
      ⟨rfl, rfl, hG, _, oD, ini, fun h => by cases h⟩, ?_⟩
    clear hF oD ini
    rintro x1 x5 x7 G1 ⟨rfl, rfl, hG1, D, oD, hD, hS⟩
    unfold F177.B13
    refine pif_cases (fun hb => ?_) fun hb => ?_
    · subst hb
      have hsum := rowSum_own oD
      unfold F177.B12 F177.B11 F177.L3
      refine ⟨fun x1 x5 x7 x8 G => u = x1 ∧ .slice (some ⟨b0, 0, none⟩) n.toNat (n.toNat + 1) = x5 ∧ H.le G ∧ ∃ (i : Nat) (D' : List Int), x8 = i ∧ i ≤ fs.length ∧ Own G b0 2 (LI D') ∧ Led n.toNat fs D' ∧ ((x7 = true ∧ sumN D' < sumN D) ∨ (x7 = false ∧ D' = D ∧ ∀ j, j < i → D.getD (fs.getD j (0, 0)).1.toNat 0 = D.getD (fs.getD j (0, 0)).2.toNat 0)),
        fun _ _ _ x8 _ => fs.length - x8.toNat, ⟨rfl, rfl, hG1, 0, D, rfl, by omega, oD, hD, .inr ⟨rfl, rfl, fun j hj => absurd hj (by omega)⟩⟩, ?_⟩
      rintro x1 x5 x7 x8 G2 ⟨rfl, rfl, hG2, i, D', rfl, hi, oD', hD', hc⟩
      have hdl := hD'.1
      unfold F177.B10
      refine (h.le hG2).len (pif_cases (fun hb => ?_) fun hb => ?_)
      · have hlt : i < fs.length := by have := of_decide_eq_true hb; omega
        obtain ⟨d1, d2, d3, d4⟩ := hf fs[i] (List.getElem_mem hlt)
        obtain ⟨a, ha⟩ : ∃ a : Nat, (fs[i]).1 = a := ⟨(fs[i]).1.toNat, by omega⟩
        obtain ⟨b, hb'⟩ : ∃ b : Nat, (fs[i]).2 = b := ⟨(fs[i]).2.toNat, by omega⟩
        have hin : ((a : Int), (b : Int)) ∈ fs := by rw [← ha, ← hb']; exact List.getElem_mem hlt
        have hge : fs.getD i (0, 0) = ((a : Int), (b : Int)) := by rw [getD_of hlt, ← ha, ← hb']
        have hi64 := own_ints (c := n.toNat + 1) oD'
        rw [hdl] at hi64
        unfold F177.B9
        obtain ⟨bb, oo, hk, c1, c2⟩ := (h.le hG2).idx (show (0 : Int) ≤ i by omega) (by omega)
        simp only [Int.toNat_natCast, hge] at c1 c2
        refine hk _ (ldI_mk c1 (hi64.rd (by omega) (by omega) (hk _ (ldI_mk c2 (hi64.rd (by omega) (by omega) ?_)))))
        simp only [Int.toNat_natCast]
        unfold F177.B8
        refine pif_cases (fun hs => ?_) fun hs => ?_
        · have hne := bne_iff_ne.1 hs
          unfold F177.B7
          obtain ⟨x, hx⟩ : ∃ x, x = if D'.getD b 0 < D'.getD a 0 then D'.getD b 0 else D'.getD a 0 := ⟨_, rfl⟩
          rw [← hx]
          refine hk _ (ldI_mk c1 (own_idx (by omega) (by omega) (stK_1 oD' (by simp; omega) rfl fun G3 b3 o3 => ?_)))
          rw [Int.toNat_natCast, ← List.map_set] at o3
          unfold F177.B6
          have hG3 := b3.le hG2 (by have := l1.1; omega)
          obtain ⟨bb', oo', hk', c1', c2'⟩ := (h.le hG3).idx (show (0 : Int) ≤ i by omega) (by omega)
          simp only [Int.toNat_natCast, hge] at c1' c2'
          rw [← hx]
          refine hk' _ (ldI_mk c2' (own_idx (by omega) (by omega) (stK_1 o3 (by simp; omega) rfl fun G4 b4 o4 => ?_)))
          rw [Int.toNat_natCast, ← List.map_set] at o4
          obtain ⟨m1, m2⟩ := hD'.merge hin (by omega) (by omega) hne hx
          unfold F177.B5 F177.B4
          rw [wrap_id (by omega) (by omega)]
          refine ⟨⟨rfl, rfl, b4.le hG3 (by have := l1.1; omega), i + 1, _, by omega, by omega, o4, m1, .inl ⟨rfl, ?_⟩⟩, by simp; omega⟩
          rcases hc with ⟨_, hc⟩ | ⟨_, rfl, _⟩
          · omega
          · exact m2
        · have he := bne_eq_false_iff_eq.1 hs
          unfold F177.B4
          rw [wrap_id (by omega) (by omega)]
          refine ⟨⟨rfl, rfl, hG2, i + 1, D', by omega, by omega, oD', hD', ?_⟩, by simp; omega⟩
          rcases hc with hc | ⟨q1, rfl, q3⟩
          · exact .inl hc
          · refine .inr ⟨q1, rfl, fun j hj => ?_⟩
            by_cases e : j = i
            · subst e; rw [hge]; simpa using he
            · exact q3 j (by omega)
      · have hge : i = fs.length := by have := of_decide_eq_false hb; omega
        subst hge
        refine ⟨⟨rfl, rfl, hG2, D', oD', hD', fun hx e he => ?_⟩, ?_⟩
        · rcases hc with ⟨q, _⟩ | ⟨_, rfl, q3⟩
          · rw [hx] at q; cases q
          · obtain ⟨j, hj, rfl⟩ := List.getElem_of_mem he
            have := q3 j hj
            rwa [getD_of hj] at this
        · show 2 * rowSum G2 b0 + (if x7 = true then 1 else 0) < 2 * rowSum G1 b0 + (if true = true then 1 else 0)
          rw [rowSum_own oD', hsum]
          rcases hc with ⟨rfl, q⟩ | ⟨rfl, rfl, _⟩
          · simp; omega
          · simp
    · subst hb
      unfold F177.B1
      exact k b0 D G1 hG1 oD hb0 ⟨hD, hS rfl⟩
end Go.Proofs
/- Contracts: the cycles of a set of edges, the program's way. -/
set_option linter.unusedVariables false
set_option linter.unusedSimpArgs false
set_option maxRecDepth 100000
namespace Go.Proofs
open Go.Abs

variable {H G : AHeap} {v u f : Value} {l m c : List Int} {es fs : List (Int × Int)} {K : Value → AHeap → Prop} {A : Nat → Prop} {B : Nat} {ls : List (List Int)}

noncomputable def tiSet : TI := (T0 82).getD ⟨.bool, 0, 0, undef⟩
theorem E_set : Elem T0 82 1 := ⟨tiSet, by kernel_rfl, by kernel_rfl, of_decide_eq_true (by kernel_rfl), by kernel_rfl⟩
theorem LU_get {Z : List Nat} {i : Nat} (h : i < Z.length) : (LU Z)[i]? = some (.int .u64 (Z.getD i 0 : Nat)) := by simp [h]

theorem indexU_ok {p : Nat → Bool} {Z : List Nat} {m0 : Nat} (h : Sl m0 H v 82 1 (LU Z)) (hl : Z.length ≤ 4611686018427387904) (hf : ∀ e ∈ Z, Cl H f (.int .u64 (e : Nat)) (p e)) (k : ∀ r G, H.le G → decide (r ≥ 0) = Z.any p → K (.int .i64 r) G) :
    AC Try.prog T0 167 [v, f] H K := by
  apply F167.ac
  unfold F167.B9 F167.B8
  refine h.len (by decide) (n := Z.length) (by simp) ?_
  unfold F167.L2
  refine ⟨fun x0 x1 x7 x8 G => v = x0 ∧ f = x1 ∧ (Z.length : Int) = x7 ∧ H.le G ∧ ∃ n : Nat, x8 = n ∧ n ≤ Z.length ∧ ∀ i : Nat, i < n → p (Z.getD i 0) = false, fun _ _ _ x8 _ => Z.length - x8.toNat, ⟨rfl, rfl, rfl, AHeap.le_refl _, 0, rfl, by omega, fun i hi => absurd hi (by omega)⟩, ?_⟩
  rintro x0 x1 x7 x8 G ⟨rfl, rfl, rfl, hG, n, rfl, hn', hp⟩
  unfold F167.B7
  refine pif_cases (fun hb => ?_) fun hb => ?_
  · have hn : n < Z.length := by have := of_decide_eq_true hb; omega
    unfold F167.B6 F167.B5
    refine Sl_rdI (h.le hG) (by omega) (by simp; omega) (by rw [Int.toNat_natCast]; exact LU_get hn) ?_
    rw [getD_of hn]
    refine hf Z[n] (List.getElem_mem hn) G hG _ fun G2 hG2 => asB_mk (pif_cases (fun hb => ?_) fun hb => ?_)
    · unfold F167.B4
      refine k _ _ (AHeap.le_trans hG hG2) ?_
      rw [List.any_eq_true.2 ⟨Z[n], List.getElem_mem hn, hb⟩]; simp
    · unfold F167.B3
      rw [wrap_id (by omega) (by omega)]
      refine ⟨⟨rfl, rfl, rfl, AHeap.le_trans hG hG2, n + 1, by omega, by omega, fun i hi => ?_⟩, by simp; omega⟩
      by_cases he : i = n
      · subst he; rw [getD_of hn]; exact hb
      · exact hp i (by omega)
  · have hge : n = Z.length := by have := of_decide_eq_false hb; omega
    unfold F167.B1
    refine k _ _ hG ?_
    have : Z.any p = false := by
      rw [List.any_eq_false]
      intro e he
      obtain ⟨i, hi, rfl⟩ := List.getElem_of_mem he
      have := hp i (by omega)
      rw [getD_of hi] at this; simp [this]
    rw [this]; simp
theorem containsU_ok {p : Nat → Bool} {Z : List Nat} {m0 : Nat} (h : Sl m0 H v 82 1 (LU Z)) (hl : Z.length ≤ 4611686018427387904) (hf : ∀ e ∈ Z, Cl H f (.int .u64 (e : Nat)) (p e)) (k : ∀ G, H.le G → K (.bool (Z.any p)) G) :
    AC Try.prog T0 152 [v, f] H K := by
  apply F152.ac
  unfold F152.B2 F152.B1
  refine indexU_ok h hl hf fun r G hG hr => asI_mk ?_
  rw [hr]; exact k G hG

/-- A part as a number. -/
noncomputable def compN (es : List (Int × Int)) (p : Nat → Bool) (i : Nat) : Nat := setN (compL es p i)
noncomputable def cycN (es : List (Int × Int)) (p : Nat → Bool) (l : List Int) : List Nat := (l.filter fun x => cLeadB es p x.toNat).map fun x => compN es p x.toNat
theorem cycN_take {es : List (Int × Int)} {p : Nat → Bool} {l : List Int} {t : Nat} (h : t < l.length) : cycN es p (l.take (t + 1)) = cycN es p (l.take t) ++ if cLeadB es p (l[t]).toNat then [compN es p (l[t]).toNat] else [] := by
  unfold cycN
  rw [List.take_succ_eq_append_getElem h, List.filter_append, List.map_append]
  congr 1
  cases hl : cLeadB es p (l[t]).toNat <;> simp [hl]
theorem compL_range {es : List (Int × Int)} {p : Nat → Bool} {i : Nat} {x : Int} (h : x ∈ compL es p i) : 0 ≤ x ∧ x < es.length := by
  obtain ⟨j, rfl, h1, _⟩ := mem_compL.1 h
  omega
theorem compN_bit {es : List (Int × Int)} {p : Nat → Bool} {i j : Nat} : (compN es p i).testBit j = true ↔ j < es.length ∧ Rch (eAdj es p) i j := by
  unfold compN
  rw [setN_bit fun x hx => (compL_range hx).1, decide_eq_true_iff, mem_compL]
  constructor
  · rintro ⟨j', h1, h2⟩
    obtain rfl : j = j' := by omega
    exact h2
  · rintro ⟨h1, h2⟩
    exact ⟨j, rfl, h1, h2⟩
theorem compN_of {es : List (Int × Int)} {p : Nat → Bool} {i s : Nat} (h1 : ∀ j, s.testBit j = true → j < es.length) (h2 : ∀ j, s.testBit j = true ↔ Rch (eAdj es p) i j) : s = compN es p i := by
  apply Nat.eq_of_testBit_eq
  intro j
  rw [Bool.eq_iff_iff, compN_bit, ← h2]
  exact ⟨fun h => ⟨h1 j h, h⟩, fun h => h.2⟩
theorem compN_lt {es : List (Int × Int)} {p : Nat → Bool} {i : Nat} (hm : es.length ≤ 64) : compN es p i < 2 ^ 64 := setN_lt fun x hx => by have := compL_range hx; omega
theorem cycN_any {es : List (Int × Int)} {p : Nat → Bool} {l : List Int} (hl : l = filtB p es.length) {t x : Nat} (ht : t < l.length) (hx : l[t] = (x : Int)) (hm : x < es.length) : (cycN es p (l.take t)).any (fun z => z.testBit x) = !cLeadB es p x := by
  have h := met_iff (n := 0) hl ht
  rw [hx, Int.toNat_natCast] at h
  have : (cycN es p (l.take t)).any (fun z => z.testBit x) = true ↔ cLeadB es p x = false := by
    rw [← h, List.any_eq_true]
    constructor
    · rintro ⟨z, hz, hb⟩
      unfold cycN at hz
      rw [List.mem_map] at hz
      obtain ⟨y, hy, rfl⟩ := hz
      rw [List.mem_filter] at hy
      exact ⟨y, hy.1, hy.2, (compN_bit.1 hb).2⟩
    · rintro ⟨y, h1, h2, h3⟩
      refine ⟨compN es p y.toNat, ?_, compN_bit.2 ⟨hm, h3⟩⟩
      unfold cycN
      exact List.mem_map.2 ⟨y, List.mem_filter.2 ⟨h1, h2⟩, rfl⟩
  rw [Bool.eq_iff_iff, this]; simp

theorem has_cl {x b : Nat} {s : Nat} (hs : s < 2 ^ 64) (ho : Own H b 2 [.int .i64 (x : Nat)]) : Cl H (.func (.func 153) ⟨[]⟩ ⟨[.pointer (some ⟨b, 0, none⟩)]⟩) (.int .u64 (s : Nat)) (s.testBit x) := by
  intro G hG K k
  refine callV_mk ?_
  apply F153.ac
  unfold F153.B2 F153.B1
  refine asP_mk (ldI_own (ho.le hG) rfl (has_ok hs (by omega) (asB_mk ?_)))
  rw [Int.toNat_natCast]
  exact k _ (AHeap.le_refl _)

theorem cycles_ok {n : Int} {s : Nat} (h : Edges H v es) (hg : IsG n es) (hs : s < 2 ^ 64) (hsb : ∀ j, s.testBit j = true → j < es.length)
    (k : ∀ v' G, H.le G → Fresh H.length G v' 82 1 (LU (cycN es (fun j => s.testBit j) (filtB (fun j => s.testBit j) es.length))) → K v' G) : AC Try.prog T0 113 [.agg ⟨[.int .i64 n, v]⟩, .int .u64 (s : Nat)] H K := by
  have h30 : es.length ≤ 30 := by have := hg.ed.len; have := hg.ed.hi; omega
  apply F113.ac
  unfold F113.B28
  refine newK_f (all_iv (edges_one' h)) fun H1 l1 n1 o1 => ?_
  unfold F113.B27 F113.B26
  refine list_ok hs fun w H2 l2 f2 => ?_
  obtain ⟨p, hp⟩ : ∃ p : Nat → Bool, p = fun j => s.testBit j := ⟨_, rfl⟩
  rw [bitsL_filt (by omega) hsb, ← hp] at f2
  rw [← hp] at k
  obtain ⟨L, hL⟩ : ∃ L, L = filtB p es.length := ⟨_, rfl⟩
  rw [← hL] at f2 k
  have hLl : L.length ≤ es.length := by rw [hL]; exact filtB_length _ _
  have l12 := AHeap.le_trans l1 l2
  refine f2.ints.len ?_
  unfold F113.L2
  refine ⟨fun x1 x2 x5 x15 x16 x17 G => ((s : Nat) : Int) = x1 ∧ H.length = x2 ∧ w = x15 ∧ (L.length : Int) = x16 ∧ H2.le G ∧ ∃ t : Nat, x17 = t ∧ t ≤ L.length ∧ Fresh H2.length G x5 82 1 (LU (cycN es p (L.take t))), fun _ _ _ _ _ x17 _ => L.length - x17.toNat, ⟨rfl, rfl, rfl, rfl, AHeap.le_refl _, 0, rfl, by omega, .inl ⟨rfl, .inl rfl⟩⟩, ?_⟩
  rintro x1 x2 x5 x15 x16 x17 G ⟨rfl, rfl, rfl, rfl, hG, t, rfl, ht, hF⟩
  have lG := AHeap.le_trans l12 hG
  have oG := (o1.le l2).le hG
  unfold F113.B25
  refine pif_cases (fun hb => ?_) fun hb => ?_
  · have htl : t < L.length := by have := of_decide_eq_true hb; omega
    obtain ⟨e, he1, he2, he3⟩ : ∃ e : Nat, L[t] = (e : Int) ∧ e < es.length ∧ p e = true := by
      have hm : L[t] ∈ L := List.getElem_mem htl
      obtain ⟨j, h1, h2⟩ := mem_filtB.1 (show L[t] ∈ filtB p es.length by rw [← hL]; exact hm)
      exact ⟨j, h1, h2⟩
    have hany := cycN_any hL htl he1 he2
    have hzl : (cycN es p (L.take t)).length ≤ 30 := by
      unfold cycN; rw [List.length_map]
      exact Nat.le_trans (List.length_filter_le _ _) (by rw [List.length_take]; omega)
    unfold F113.B24
    refine (f2.ints.le hG).rd (by omega) (by omega) (newK_f rfl fun H3 l3 n3 o3 => stK_f o3 (by simp) (by simp [Value.oneCell']) rfl fun H4 b4 o4 => ?_)
    rw [Int.toNat_natCast, getD_of htl, he1] at o4
    have l4 : G.le H4 := b4.le l3 (Nat.le_refl _)
    have skip : cLeadB es p e = false → ∀ N2 : Int → Nat → Value → Value → Int → Int → AHeap → Prop, ∀ G', H4.le G' → (∀ x5' G'', H2.le G'' → Fresh H2.length G'' x5' 82 1 (LU (cycN es p (L.take (t + 1)))) → N2 s H.length x5' w L.length ((t : Int) + 1) G'') → F113.B3 K N2 s H.length x5 w L.length t G' := by
      intro hl N2 G' hG' hN
      unfold F113.B3
      rw [wrap_id (by omega) (by omega)]
      refine hN x5 G' (AHeap.le_trans hG (AHeap.le_trans l4 hG')) ?_
      rw [cycN_take htl, he1, Int.toNat_natCast, hl]
      simpa using hF.le (AHeap.le_trans l4 hG')
    have fin : ∀ x5' G'', H2.le G'' → Fresh H2.length G'' x5' 82 1 (LU (cycN es p (L.take (t + 1)))) → (((s : Nat) : Int) = s ∧ H.length = H.length ∧ w = w ∧ (L.length : Int) = L.length ∧ H2.le G'' ∧ ∃ t' : Nat, (t : Int) + 1 = t' ∧ t' ≤ L.length ∧ Fresh H2.length G'' x5' 82 1 (LU (cycN es p (L.take t')))) ∧ L.length - ((t : Int) + 1).toNat < L.length - (t : Int).toNat :=
      fun x5' G'' h1 h2 => ⟨⟨rfl, rfl, rfl, rfl, h1, t + 1, by omega, by omega, h2⟩, by omega⟩
    have bfs : cLeadB es p e = true → ∀ N2 : Int → Nat → Value → Value → Int → Int → AHeap → Prop, ∀ G0, H4.le G0 → (∀ x5' G'', H2.le G'' → Fresh H2.length G'' x5' 82 1 (LU (cycN es p (L.take (t + 1)))) → N2 s H.length x5' w L.length ((t : Int) + 1) G'') → F113.B22 K N2 s H.length x5 G.length w L.length t G0 := by
      intro hlead N2 G0 hG0 hN
      have lG0 := AHeap.le_trans lG (AHeap.le_trans l4 hG0)
      have l20 := AHeap.le_trans hG (AHeap.le_trans l4 hG0)
      have hF := hF.le (AHeap.le_trans l4 hG0)
      have oG := oG.le (AHeap.le_trans l4 hG0)
      unfold F113.B22
      refine ldI_own (o4.le hG0) rfl ⟨by omega, ?_⟩
      rw [one_shl (by omega) (by omega), Int.toNat_natCast]
      have p64 : 2 ^ e < 2 ^ 64 := Nat.pow_lt_pow_right (by decide) (by omega)
      unfold F113.B21
      refine ldI_own (o4.le hG0) rfl (newK_f rfl fun H5 l5 n5 o5 => ?_)
      unfold F113.L5
      refine ⟨fun x1 x2 x5' x8 x9 x15 x16 x17 G => ((s : Nat) : Int) = x1 ∧ H.length = x2 ∧ x5 = x5' ∧ w = x15 ∧ (L.length : Int) = x16 ∧ (t : Int) = x17 ∧ G0.le G ∧ BitQ G0.length (fun S Q => Ex (eAdj es p) e S Q ∧ (∀ y, S y = true → y < es.length) ∧ 2 * unseen S es.length + Q.length ≤ 61) x8 x9 G,
        fun _ _ _ x8 x9 _ _ _ _ => 2 * unseen (fun j => x8.toNat.testBit j) es.length + lenV x9, ⟨rfl, rfl, rfl, rfl, rfl, rfl, l5, 2 ^ e, [e], rfl, p64, ⟨.init fun x => ?_, fun y hy => ?_, by have := unseen_le (fun j => (2 ^ e).testBit j) es.length; simp; omega⟩, (Fresh.sl (.inr ⟨_, 1, Nat.le_refl _, rfl, o5, rfl⟩))⟩, ?_⟩
      · rw [Nat.testBit_two_pow]; simp [eq_comm]
      · have hy : (2 ^ e).testBit y = true := hy
        rw [Nat.testBit_two_pow] at hy; have := of_decide_eq_true hy; omega
      rintro x1 x2 x5' x8 x9 x15 x16 x17 G1 ⟨rfl, rfl, rfl, rfl, rfl, rfl, hG1, z, Q, rfl, hz, ⟨hE, hB, hU⟩, hQ⟩
      have lG1 := AHeap.le_trans lG0 hG1
      have oG1 := oG.le hG1
      unfold F113.B20
      refine hQ.len (by decide) (n := Q.length) (by simp) (pif_cases (fun hb => ?_) fun hb => ?_)
      · have hpos : 0 < Q.length := by have := of_decide_eq_true hb; omega
        cases Q with
        | nil => simp at hpos
        | cons x Q =>
        have hxl : x < es.length := hB x (hE.q x (by simp))
        obtain ⟨d1, d2, d3, d4, d5⟩ := hg.ed.ends es[x] (List.getElem_mem hxl)
        rw [← getD_of (d := (0, 0)) hxl] at d1 d2 d3 d4 d5
        have hmu : 2 * unseen (fun j => (((z : Nat) : Int).toNat).testBit j) es.length + lenV x9 = 2 * unseen (fun j => z.testBit j) es.length + (Q.length + 1) := by
          rw [Sl_lenV hQ]; simp
        have hU : 2 * unseen (fun j => z.testBit j) es.length + (Q.length + 1) ≤ 61 := hU
        unfold F113.B19
        refine ld1_own oG1 rfl (hQ.ints.rd (by decide) (by simp) ?_)
        rw [show (NI (x :: Q)).getD (0 : Int).toNat 0 = (x : Int) from rfl]
        obtain ⟨bb, oo, hk, c1, c2⟩ := (h.le lG1).idx (show (0 : Int) ≤ x by omega) (by omega)
        simp only [Int.toNat_natCast] at c1 c2
        refine hk _ (ldI_mk c1 (ldI_mk c2 ?_))
        unfold F113.L7
        refine ⟨fun x1 x2 x5' x8 x9 x15 x16 x17 x44a x44b x45 G => ((s : Nat) : Int) = x1 ∧ H.length = x2 ∧ x5 = x5' ∧ w = x15 ∧ (L.length : Int) = x16 ∧ (t : Int) = x17 ∧ (es.getD x (0, 0)).1 = x44a ∧ (es.getD x (0, 0)).2 = x44b ∧ G0.le G ∧ ∃ m : Nat, x45 = m ∧ m ≤ 2 ∧ BitQ G0.length (fun S Q' => ∃ R, Q' = x :: R ∧ InX es p e x (2 * unseen (fun j => z.testBit j) es.length + (Q.length + 1)) (PastE es p x m) S R) x8 x9 G,
          fun _ _ _ _ _ _ _ _ _ _ x45 _ => 2 - x45.toNat, ⟨rfl, rfl, rfl, rfl, rfl, rfl, rfl, rfl, hG1, 0, rfl, by omega, z, x :: Q, rfl, hz, ⟨Q, rfl, hE, hB, Nat.le_refl _, fun j ⟨_, _, m', h, _⟩ => absurd h (by omega)⟩, hQ⟩, ?_⟩
        clear hQ hE hB hG1 oG1 lG1 hk c1 c2
        rintro x1 x2 x5' x8 x9' x15 x16 x17 x44a x44b x45 G1 ⟨rfl, rfl, rfl, rfl, rfl, rfl, rfl, rfl, hG1, m, rfl, hm, z', _, rfl, hz', ⟨R, rfl, hX⟩, hQ⟩
        have lG1 := AHeap.le_trans lG0 hG1
        have oG1 := oG.le hG1
        unfold F113.B18
        refine pif_cases (fun hb => ?_) fun hb => ?_
        · have hm2 : m < 2 := by have := of_decide_eq_true hb; omega
          unfold F113.B17
          have hat : ([.int .i64 (es.getD x (0, 0)).1, .int .i64 (es.getD x (0, 0)).2] : List Value)[(m : Int).toNat * 1]? = some (.int .i64 (en (es.getD x (0, 0)) m)) := by
            rcases (by omega : m = 0 ∨ m = 1) with rfl | rfl <;> rfl
          refine bndK_iff.2 ⟨by omega, by omega, ?_⟩
          unfold atK
          rw [hat]
          refine asI_mk ?_
          unfold F113.B16
          refine ldI_own oG1 rfl (ld1_own oG1 rfl (at_ok (h.le lG1) (by omega) fun q H6 l6 f6 => ?_))
          have hv : 0 ≤ en (es.getD x (0, 0)) m ∧ en (es.getD x (0, 0)) m < n := by unfold en; split <;> omega
          have h3 := hg.three hv.1 hv.2
          refine f6.len (by decide) (n := 3) (by rw [List.length_map, h3]) ?_
          have lG6 := AHeap.le_trans hG1 l6
          unfold F113.L9
          refine ⟨fun x1 x2 x5' x8 x9 x15 x16 x17 x44a x44b x45 x50 x51 x52 G => ((s : Nat) : Int) = x1 ∧ H.length = x2 ∧ x5 = x5' ∧ w = x15 ∧ (L.length : Int) = x16 ∧ (t : Int) = x17 ∧ (es.getD x (0, 0)).1 = x44a ∧ (es.getD x (0, 0)).2 = x44b ∧ (m : Int) = x45 ∧ q = x50 ∧ 3 = x51 ∧ G0.le G ∧ Sl 0 G q 2 1 (LI (atL es (en (es.getD x (0, 0)) m))) ∧ (∀ b, bk q = some b → bk x9 ≠ some b) ∧
              ∃ y : Nat, x52 = y ∧ y ≤ 3 ∧ BitQ G0.length (fun S Q' => ∃ R, Q' = x :: R ∧ InX es p e x (2 * unseen (fun j => z.testBit j) es.length + (Q.length + 1)) (PastT es p x m y) S R) x8 x9 G,
            fun _ _ _ _ _ _ _ _ _ _ _ _ _ x52 _ => 3 - x52.toNat, ⟨rfl, rfl, rfl, rfl, rfl, rfl, rfl, rfl, rfl, rfl, rfl, lG6, f6.less (Nat.zero_le _), (fun b hb hb' => by have := (f6.lt hb).1; have := (hQ.lt hb').2; omega), 0, rfl, by omega, z', x :: R, rfl, hz', ⟨R, rfl, hX.more fun j hj => .inl ?_⟩, hQ.le l6⟩, ?_⟩
          · rcases hj with hj | ⟨_, t', h, _⟩
            · exact hj
            · exact absurd h (by omega)
          clear hX hQ f6 l6 lG6 oG1 lG1 hG1
          rintro x1 x2 x5' x8 x9' x15 x16 x17 x44a x44b x45 x50 x51 x52 G3 ⟨rfl, rfl, rfl, rfl, rfl, rfl, rfl, rfl, rfl, rfl, rfl, hG3, hW, hA, y, rfl, hy, z3, _, rfl, hz3, ⟨R3, rfl, hX⟩, hQ⟩
          unfold F113.B15
          refine pif_cases (fun hb => ?_) fun hb => ?_
          · have ht3 : y < 3 := by have := of_decide_eq_true hb; omega
            obtain ⟨i, hi1, hi2, hi3⟩ := at_get (es := es) (w := en (es.getD x (0, 0)) m) (t := y) (by omega)
            have hxi : share (es.getD x (0, 0)) (es.getD i (0, 0)) := ⟨_, on_en, hi3⟩
            have hpast : ∀ j, PastT es p x m (y + 1) j → PastT es p x m y j ∨ (p j = true ∧ j = i) := fun j hj => (PastT.step hj).imp id fun ⟨h1, h2⟩ => ⟨h1, by omega⟩
            have pi' : p i = s.testBit i := by rw [hp]
            unfold F113.B14
            refine hW.ints.rd (by omega) (by omega) ?_
            simp only [Int.toNat_natCast, hi1]
            unfold F113.B13
            refine has_ok hs (by omega) (asB_mk ?_)
            simp only [Int.toNat_natCast]
            rw [← pi']
            refine pif_cases (fun hpi => ?_) fun hpi => ?_
            · refine has_ok hz3 (by omega) (asB_mk ?_)
              simp only [Int.toNat_natCast]
              refine pif_cases (fun hb => ?_) fun hb => ?_
              · have hn : z3.testBit i = false := by simpa using hb
                have pi : 2 ^ i < 2 ^ 64 := Nat.pow_lt_pow_right (by decide) (by omega)
                unfold F113.B12
                refine ⟨by omega, ?_⟩
                rw [one_shl (by omega) (by omega), Int.toNat_natCast, bits_or hz3 pi]
                unfold F113.B11
                refine hQ.pushN E_int (by decide) hG3.1 (n := 1) (ys := [.int .i64 i]) rfl rfl (by have := hX.mu; simp; omega) (by simp) fun v' G4 k4 ot4 nb4 f4 => ?_
                unfold F113.B10
                rw [wrap_id (by omega) (by omega)]
                refine ⟨⟨rfl, rfl, rfl, rfl, rfl, rfl, rfl, rfl, rfl, rfl, rfl, k4.le hG3 (Nat.le_refl _), hW.oth ot4 hA, (fun b hb hb' => by have := (hW.lt hb).2; have := nb4 b hb'; omega), y + 1, by omega, by omega, z3 ||| 2 ^ i, x :: (R3 ++ [i]), rfl, or_lt hz3 pi, ⟨R3 ++ [i], rfl, hX.push ⟨hi2, hpi, hxi⟩ hn or_bit fun j hj => ?_⟩, ?_⟩, by simp; omega⟩
                · exact (hpast j hj).imp id fun h => h.2
                · have := f4.sl
                  simpa using this
              · have hn : z3.testBit i = true := by simpa using hb
                unfold F113.B10
                rw [wrap_id (by omega) (by omega)]
                refine ⟨⟨rfl, rfl, rfl, rfl, rfl, rfl, rfl, rfl, rfl, rfl, rfl, hG3, hW, hA, y + 1, by omega, by omega, z3, x :: R3, rfl, hz3, ⟨R3, rfl, hX.more fun j hj => ?_⟩, hQ⟩, by simp; omega⟩
                rcases hpast j hj with h | ⟨h, rfl⟩
                · exact .inl h
                · exact .inr hn
            · unfold F113.B10
              rw [wrap_id (by omega) (by omega)]
              refine ⟨⟨rfl, rfl, rfl, rfl, rfl, rfl, rfl, rfl, rfl, rfl, rfl, hG3, hW, hA, y + 1, by omega, by omega, z3, x :: R3, rfl, hz3, ⟨R3, rfl, hX.more fun j hj => ?_⟩, hQ⟩, by simp; omega⟩
              rcases hpast j hj with h | ⟨h, rfl⟩
              · exact .inl h
              · rw [hpi] at h; cases h
          · have ht3 : y = 3 := by have := of_decide_eq_false hb; omega
            subst ht3
            unfold F113.B8
            rw [wrap_id (by omega) (by omega)]
            exact ⟨⟨rfl, rfl, rfl, rfl, rfl, rfl, rfl, rfl, hG3, m + 1, by omega, by omega, z3, x :: R3, rfl, hz3, ⟨R3, rfl, hX.more fun j hj => .inl (by rw [← h3]; exact PastT.fin hj)⟩, hQ⟩, by simp; omega⟩
        · have hm2 : m = 2 := by have := of_decide_eq_false hb; omega
          subst hm2
          unfold F113.B6
          obtain ⟨hE, hlt⟩ := hX.pop fun j h1 h2 h3 => ⟨h1, h2, h3.elim (fun h => ⟨0, by omega, h⟩) fun h => ⟨1, by omega, h⟩⟩
          refine hQ.drop (i := 1) (n := R.length + 1) (by simp) (by decide) (by omega) (by omega) fun v' hv' => ?_
          have hv' : Sl G0.length G1 v' 2 1 (LI (NI R)) := by simpa using hv'
          refine ⟨⟨rfl, rfl, rfl, rfl, rfl, rfl, hG1, z', R, rfl, hz', ⟨hE, hX.bnd, by omega⟩, hv'⟩, ?_⟩
          show 2 * unseen (fun j => (((z' : Nat) : Int).toNat).testBit j) es.length + lenV v' < 2 * unseen (fun j => (((z : Nat) : Int).toNat).testBit j) es.length + lenV x9
          rw [hmu, Sl_lenV hv']
          simpa using hlt
      · have hq0 : Q = [] := by
          have := of_decide_eq_false hb
          cases Q with
          | nil => rfl
          | cons x Q => simp at this
        subst hq0
        have hzc : z = compN es p e := compN_of hB hE.fin
        unfold F113.B4
        refine (hF.le hG1).sl.pushN E_set (by decide) (by have := l20.1; have := hG1.1; omega) (n := 1) (ys := [.int .u64 (z : Nat)]) rfl rfl (by simp; omega) (by simp) fun v' G6 k6 _ _ f6 => ?_
        unfold F113.B3
        rw [wrap_id (by omega) (by omega)]
        refine hN v' G6 (k6.le (AHeap.le_trans l20 hG1) (Nat.le_refl _)) ?_
        rw [cycN_take htl, he1, Int.toNat_natCast, hlead, ← hzc]
        simpa using f6
    have hFc : Sl H2.length H4 x5 82 1 (LU (cycN es p (L.take t))) := (hF.le l4).sl
    have hzb : ∀ z ∈ cycN es p (L.take t), z < 2 ^ 64 := by
      intro z hz
      unfold cycN at hz
      obtain ⟨y, _, rfl⟩ := List.mem_map.1 hz
      exact compN_lt (by omega)
    unfold F113.B23
    refine hFc.len (by decide) (n := (cycN es p (L.take t)).length) (by simp) (pif_cases (fun hb => ?_) fun hb => ?_)
    · refine containsU_ok (p := fun z => z.testBit e) hFc (by omega) (fun z hz => has_cl (hzb z hz) o4) fun G7 l7 => asB_mk ?_
      rw [hany]
      cases hl : cLeadB es p e with
      | true => exact pif_f rfl (bfs hl _ G7 l7 fin)
      | false => exact pif_t rfl (skip hl _ G7 l7 fin)
    · have hz0 : cycN es p (L.take t) = [] := by
        have := of_decide_eq_false hb
        exact List.length_eq_zero_iff.1 (by omega)
      rw [hz0] at hany
      refine bfs ?_ _ H4 (AHeap.le_refl _) fin
      simpa using hany
  · have hge : t = L.length := by have := of_decide_eq_false hb; omega
    subst hge
    rw [List.take_length] at hF
    unfold F113.B1
    exact k _ _ lG (hF.less l12.1)

end Go.Proofs
/- Contracts: the cycles of a set of edges, the reference's way. -/
set_option linter.unusedVariables false
set_option linter.unusedSimpArgs false
set_option maxRecDepth 100000
namespace Go.Proofs
open Go.Abs

variable {H G : AHeap} {v u f : Value} {l m c : List Int} {es fs : List (Int × Int)} {K : Value → AHeap → Prop} {A : Nat → Prop} {B : Nat} {ls : List (List Int)}

theorem comp_filter {es : List (Int × Int)} {p : Nat → Bool} {l : List Int} (hl : l = filtB p es.length) {e : Nat} (he : e < es.length ∧ p e = true) : l.filter (fun y => rchB (eAdj es p) e y.toNat) = compL es p e := by
  have hasc : Asc l := by rw [hl]; exact filtB_asc _ _
  refine Asc.ext (List.Pairwise.filter _ hasc) (compL_asc e) fun x => ?_
  rw [List.mem_filter, mem_compL]
  constructor
  · rintro ⟨h1, h2⟩
    rw [hl] at h1
    obtain ⟨j, rfl, h3, _⟩ := mem_filtB.1 h1
    exact ⟨j, rfl, h3, rchB_iff.1 h2⟩
  · rintro ⟨j, rfl, h1, h2⟩
    refine ⟨?_, rchB_iff.2 h2⟩
    rw [hl]
    exact mem_filtB.2 ⟨j, rfl, h1, (eRch_in h2 he).2⟩
theorem part_take {es : List (Int × Int)} {p : Nat → Bool} {l : List Int} (hl : l = filtB p es.length) {t e : Nat} (ht : t < l.length) (he : l[t] = (e : Int)) (hlead : cLeadB es p e = true) : (l.take t).filter (fun y => rchB (eAdj es p) e y.toNat) = [] := by
  have hasc : Asc l := by rw [hl]; exact filtB_asc _ _
  have hm : ∀ x, x ∈ l ↔ ∃ j : Nat, x = j ∧ j < es.length ∧ p j = true := fun x => by rw [hl]; exact mem_filtB
  rw [List.filter_eq_nil_iff]
  intro y hy hr
  rw [asc_take hasc ht] at hy
  obtain ⟨j, rfl, h1, h2⟩ := (hm y).1 hy.1
  obtain ⟨e', h3, h4, h5⟩ := (hm _).1 (List.getElem_mem ht)
  obtain rfl : e = e' := by omega
  exact cLeadB_iff.1 hlead j (by omega) h2 (eRch_symm (rchB_iff.1 hr) ⟨h4, h5⟩)
theorem filt_take {q : Int → Bool} {l : List Int} {k : Nat} (h : k < l.length) : (l.take (k + 1)).filter q = (l.take k).filter q ++ if q l[k] then [l[k]] else [] := by
  rw [List.take_succ_eq_append_getElem h, List.filter_append]
  congr 1
  cases hq : q l[k] <;> simp [hq]

theorem l07Cycles_ok {n : Int} (h : Edges H v es) (hg : IsG n es) (hc : Ints H u l) (hs : IsS l es.length)
    (k : ∀ v' G, H.le G → RowsF (fun b => H.length ≤ b) G.length G v' (cycOf es (bitB l) l) → K v' G) : AC Try.prog T0 138 [.agg ⟨[.int .i64 n, v]⟩, u] H K := by
  have n0 := hg.ed.lo; have n1 := hg.ed.hi
  have h30 : es.length ≤ 30 := by have := hg.ed.len; omega
  have hll := hs.short
  have hsr : ∀ x ∈ l, 0 ≤ x ∧ x < es.length := hs.range
  obtain ⟨p, hp⟩ : ∃ p, p = bitB l := ⟨_, rfl⟩
  have hl := hs.filt
  rw [← hp] at hl k
  have hmem : ∀ x, x ∈ l ↔ ∃ j : Nat, x = j ∧ j < es.length ∧ p j = true := fun x => by rw [hl]; exact mem_filtB
  have hat : ∀ i (hi : i < l.length), ∃ e : Nat, l[i] = (e : Int) ∧ e < es.length ∧ p e = true := fun i hi => (hmem _).1 (List.getElem_mem hi)
  have hend : ∀ e, e < es.length → 0 ≤ (es.getD e (0, 0)).1 ∧ (es.getD e (0, 0)).1 < n ∧ 0 ≤ (es.getD e (0, 0)).2 ∧ (es.getD e (0, 0)).2 < n := fun e he => by
    obtain ⟨d1, d2, d3, d4, d5⟩ := hg.ed.ends es[e] (List.getElem_mem he)
    rw [getD_of he]; omega
  apply F138.ac
  unfold F138.B23
  refine newK_f (all_iv (edges_one' h)) fun H1 l1 n1' o1 => ?_
  unfold F138.B22
  refine newK_f rfl fun H2 l2 n2 o2 => ?_
  unfold F138.B21 F138.L17
  refine ⟨fun x1 x2 x5 x6 G => u = x1 ∧ H.length = x2 ∧ H1.le G ∧ ∃ i : Nat, x6 = i ∧ i ≤ l.length ∧ Fresh H1.length G x5 67 2 (LE (keptL es (l.take i))), fun _ _ _ x6 _ => l.length - x6.toNat, ⟨rfl, rfl, l2, 0, rfl, by omega, .inr ⟨_, 0, Nat.le_refl _, rfl, o2, rfl⟩⟩, ?_⟩
  rintro x1 x2 x5 x6 Gk ⟨rfl, rfl, hGk, i, rfl, hi, hF⟩
  have lGk := AHeap.le_trans l1 hGk
  have oGk := o1.le hGk
  unfold F138.B20
  refine (hc.le lGk).len (pif_cases (fun hb => ?_) fun hb => ?_)
  · have hlt : i < l.length := by have := of_decide_eq_true hb; omega
    have hx := hsr l[i] (List.getElem_mem hlt)
    unfold F138.B19
    refine ld1_own oGk rfl ((hc.le lGk).rd (by omega) (by omega) ?_)
    rw [Int.toNat_natCast, getD_of hlt]
    obtain ⟨b, o, hk, c1, c2⟩ := (h.le lGk).idx hx.1 hx.2
    refine hk _ (ldI_mk c1 (ldI_mk c2 ?_))
    refine hF.sl.pushN E_edge (by decide) hGk.1 (n := 1) (ys := [.int .i64 (es.getD (l[i]).toNat (0, 0)).1, .int .i64 (es.getD (l[i]).toNat (0, 0)).2]) rfl rfl (by rw [LE_length]; unfold keptL; simp; omega) (by simp) fun v' G2 k2 _ _ f2 => ?_
    unfold F138.B18
    rw [wrap_id (by omega) (by omega)]
    refine ⟨⟨rfl, rfl, k2.le hGk (Nat.le_refl _), i + 1, by omega, by omega, ?_⟩, by simp; omega⟩
    rw [kept_get hlt, LE_append]; exact f2
  · have hge : i = l.length := by have := of_decide_eq_false hb; omega
    subst hge
    rw [List.take_length] at hF
    have hK : Edges Gk x5 (keptL es l) := hF.edges
    have hKl : (keptL es l).length = l.length := by unfold keptL; simp
    have hKg : ∀ i (hi : i < l.length), (keptL es l).getD i (0, 0) = es.getD (l[i]).toNat (0, 0) := fun i hi => by unfold keptL; simp [List.getD, hi]
    have hKf : ∀ e ∈ keptL es l, 0 ≤ e.1 ∧ e.1 < n ∧ 0 ≤ e.2 ∧ e.2 < n := by
      intro e he
      unfold keptL at he
      obtain ⟨x, hx, rfl⟩ := List.mem_map.1 he
      exact hend _ (by have := hsr x hx; omega)
    have fin : ∀ (G : AHeap) (D : List Int) (bl bm bo : Nat), Gk.le G → Own G bl 2 (LI D) → Own G bm 4 (LB (List.replicate l.length false)) → Own G bo 25 [] → Gk.length ≤ bl → Gk.length ≤ bm → Gk.length ≤ bo → bl ≠ bm → bo ≠ bm → bo ≠ bl → Leads n.toNat (keptL es l) D →
        F138.B15 K u x5 (.slice (some ⟨bl, 0, none⟩) n.toNat (n.toNat + 1)) (.slice (some ⟨bm, 0, none⟩) l.length (l.length + 1)) (.slice (some ⟨bo, 0, none⟩) 0 (0 + 1)) G := by
      intro G0 D bl bm bo hG0 oD oM oO hbl hbm hbo e1 e2 e3 hD
      have same : ∀ i j (hi : i < l.length) (hj : j < l.length), (D.getD (es.getD (l[i]).toNat (0, 0)).1.toNat 0 == D.getD (es.getD (l[j]).toNat (0, 0)).1.toNat 0) = rchB (eAdj es p) (l[j]).toNat (l[i]).toNat := by
        intro i j hi hj
        obtain ⟨a, ha, ha1, ha2⟩ := hat i hi
        obtain ⟨b, hb, hb1, hb2⟩ := hat j hj
        rw [ha, hb, Int.toNat_natCast, Int.toNat_natCast]
        have da := hend a ha1; have db := hend b hb1
        have hi := hD.iff (a := (es.getD b (0, 0)).1.toNat) (b := (es.getD a (0, 0)).1.toNat) (by omega) (by omega)
        have hpart := part_iff (es := es) (p := p) (fun e he => by
          obtain ⟨j, hj, rfl⟩ := List.getElem_of_mem he
          have := hend j hj
          rw [getD_of hj] at this; omega) ⟨hb1, hb2⟩ ⟨ha1, ha2⟩
        rw [← hl] at hpart
        rw [Bool.eq_iff_iff, beq_iff_eq, rchB_iff, ← hpart, ← hi]
        exact eq_comm
      unfold F138.B15 F138.L2
      obtain ⟨A, hA⟩ : ∃ A : Nat → Prop, A = fun b => Gk.length ≤ b ∧ b ≠ bm ∧ b ≠ bl := ⟨_, rfl⟩
      have hnew : ∀ {G : AHeap} {b : Nat}, Own G bm 4 (LB (List.replicate l.length false)) ∨ True → Gk.length ≤ b → b ≠ bm → b ≠ bl → A b := fun _ h1 h2 h3 => by rw [hA]; exact ⟨h1, h2, h3⟩
      refine ⟨fun x1 x5' x7 x8 x9 x10 G => u = x1 ∧ x5 = x5' ∧ .slice (some ⟨bl, 0, none⟩) n.toNat (n.toNat + 1) = x7 ∧ .slice (some ⟨bm, 0, none⟩) l.length (l.length + 1) = x8 ∧ Gk.le G ∧ Own G bl 2 (LI D) ∧ ∃ (t : Nat) (M : List Bool), x10 = t ∧ t ≤ l.length ∧ M.length = l.length ∧ Own G bm 4 (LB M) ∧ RowsF A G.length G x9 (cycOf es p (l.take t)) ∧
          ∀ i (hi : i < l.length), M.getD i false = true ↔ ∃ y ∈ l.take t, cLeadB es p y.toNat = true ∧ Rch (eAdj es p) y.toNat (l[i]).toNat,
        fun _ _ _ _ _ x10 _ => l.length - x10.toNat, ⟨rfl, rfl, rfl, rfl, hG0, oD, 0, _, rfl, by omega, by simp, oM, .nil1 oO (hnew (G := G0) (.inr trivial) hbo e2 e3) oO.lt, fun i hi => ?_⟩, ?_⟩
      · have : (List.replicate l.length false).getD i false = false := by simp [List.getD, hi]
        rw [this]; simp
      clear oM oO hG0 oD
      rintro x1 x5' x7 x8 x9 x10 G1 ⟨rfl, rfl, rfl, rfl, hG1, oD, t, M, rfl, ht, hM, oM, hR, hm⟩
      have lG1 := AHeap.le_trans lGk hG1
      unfold F138.B14
      refine (hc.le lG1).len (pif_cases (fun hb => ?_) fun hb => ?_)
      · have htl : t < l.length := by have := of_decide_eq_true hb; omega
        obtain ⟨e, he1, he2, he3⟩ := hat t htl
        have hmet := met_iff (n := 0) hl htl
        rw [← hm t htl] at hmet
        rw [he1, Int.toNat_natCast] at hmet
        unfold F138.B13
        refine own_idx (by omega) (by omega) (ld1_own oM (by rw [Int.toNat_natCast]; exact LB_get (by omega)) (asB_mk (pif_cases (fun hs' => ?_) fun hs' => ?_)))
        · have hnl := hmet.1 hs'
          unfold F138.B3
          rw [wrap_id (by omega) (by omega)]
          refine ⟨⟨rfl, rfl, rfl, rfl, hG1, oD, t + 1, M, by omega, by omega, hM, oM, ?_, fun i hi => ?_⟩, by simp; omega⟩
          · rw [cycOf_take htl, he1, Int.toNat_natCast, hnl]; simpa using hR
          · rw [hm i hi, List.take_succ_eq_append_getElem htl]
            constructor
            · rintro ⟨y, h1, h2⟩; exact ⟨y, List.mem_append.2 (.inl h1), h2⟩
            · rintro ⟨y, h1, h2⟩
              rcases List.mem_append.1 h1 with h1 | h1
              · exact ⟨y, h1, h2⟩
              · rw [List.mem_singleton] at h1
                rw [h1, he1, Int.toNat_natCast, hnl] at h2
                cases h2.1
        · have hlead : cLeadB es p e = true := by
            cases hle : cLeadB es p e with
            | true => rfl
            | false => rw [hmet.2 hle] at hs'; cases hs'
          unfold F138.B12
          refine newK_f rfl fun H3 l3 n3 o3 => ?_
          have hb3 := oM.lt; have hb4 := oD.lt
          unfold F138.B11 F138.L5
          refine ⟨fun x1 x5' x7 x8 x9' x10 x11 x12 G => u = x1 ∧ x5 = x5' ∧ .slice (some ⟨bl, 0, none⟩) n.toNat (n.toNat + 1) = x7 ∧ .slice (some ⟨bm, 0, none⟩) l.length (l.length + 1) = x8 ∧ x9 = x9' ∧ (t : Int) = x10 ∧ Gk.le G ∧ G1.length ≤ G.length ∧ Own G bl 2 (LI D) ∧ ∃ (i : Nat) (M : List Bool), x12 = i ∧ t ≤ i ∧ i ≤ l.length ∧ M.length = l.length ∧ Own G bm 4 (LB M) ∧ RowsF A G1.length G x9 (cycOf es p (l.take t)) ∧
              Fresh G1.length G x11 2 1 (LI ((l.take i).filter (fun y => rchB (eAdj es p) e y.toNat))) ∧ ∀ j (hj : j < l.length), M.getD j false = true ↔ (∃ y ∈ l.take t, cLeadB es p y.toNat = true ∧ Rch (eAdj es p) y.toNat (l[j]).toNat) ∨ (t ≤ j ∧ j < i ∧ Rch (eAdj es p) e (l[j]).toNat),
            fun _ _ _ _ _ _ _ x12 _ => l.length - x12.toNat, ⟨rfl, rfl, rfl, rfl, rfl, rfl, AHeap.le_trans hG1 l3, l3.1, oD.le l3, t, M, rfl, Nat.le_refl _, by omega, hM, oM.le l3, hR.le l3, ?_, fun j hj => ?_⟩, ?_⟩
          · rw [part_take hl htl he1 hlead]
            exact .inr ⟨_, 0, Nat.le_refl _, rfl, o3, rfl⟩
          · rw [hm j hj]
            exact ⟨.inl, fun h => h.elim id fun h => absurd h.2.1 (by omega)⟩
          clear hm hM oM oD hs' hmet
          rintro x1 x5' x7 x8 x9' x10 x11 x12 G4 ⟨rfl, rfl, rfl, rfl, rfl, rfl, hG4, hlen4, oD, i, M, rfl, hti, hi, hM, oM, hR, hF4, hm⟩
          have lG4 := AHeap.le_trans lGk hG4
          unfold F138.B10
          refine (hc.le lG4).len (pif_cases (fun hb => ?_) fun hb => ?_)
          · have hil : i < l.length := by have := of_decide_eq_true hb; omega
            have hDi := own_ints (c := n.toNat + 1) oD
            rw [hD.led.1] at hDi
            obtain ⟨e', hf1, hf2, hf3⟩ := hat i hil
            have da := hend e' hf2; have db := hend e he2
            have hr : rchB (eAdj es p) e (l[i]).toNat = (D.getD (es.getD e' (0, 0)).1.toNat 0 == D.getD (es.getD e (0, 0)).1.toNat 0) := by
              have := same i t hil htl
              rw [he1, hf1, Int.toNat_natCast, Int.toNat_natCast] at this
              rw [hf1, Int.toNat_natCast, this]
            unfold F138.B9
            obtain ⟨b, o, hk, c1, c2⟩ := (hK.le hG4).idx (i := (i : Int)) (by omega) (by omega)
            obtain ⟨b', o', hk', c1', c2'⟩ := (hK.le hG4).idx (i := (t : Int)) (by omega) (by omega)
            rw [Int.toNat_natCast, hKg i hil, hf1, Int.toNat_natCast] at c1
            rw [Int.toNat_natCast, hKg t htl, he1, Int.toNat_natCast] at c1'
            refine hk _ (ldI_mk c1 (hDi.rd (by omega) (by rw [hD.led.1]; omega) (hk' _ (ldI_mk c1' (hDi.rd (by omega) (by rw [hD.led.1]; omega) ?_)))))
            rw [← hr]
            refine pif_cases (fun hs' => ?_) fun hs' => ?_
            · unfold F138.B8
              refine own_idx (by omega) (by omega) (stK_1 oM (by simp; omega) rfl fun G5 b5 o5 => ?_)
              rw [Int.toNat_natCast, ← List.map_set] at o5
              have hG5 := b5.le hG4 hbm
              have hx := hsr l[i] (List.getElem_mem hil)
              unfold F138.B7
              refine (hc.le (AHeap.le_trans lGk hG5)).rd (by omega) (by omega) ?_
              rw [Int.toNat_natCast, getD_of hil]
              refine (hF4.but b5 hb3).sl.pushN E_int (by decide) (by have := b5.len; omega) (n := 1) (ys := [.int .i64 l[i]]) rfl rfl (by have : ((l.take i).filter (fun y => rchB (eAdj es p) e y.toNat)).length ≤ i := Nat.le_trans (List.length_filter_le _ _) (by rw [List.length_take]; omega); simp only [List.length_map, List.length_singleton]; omega) (by simp) fun v' G6 k6 ot6 nb6 f6 => ?_
              unfold F138.B6
              rw [wrap_id (by omega) (by omega)]
              refine ⟨⟨rfl, rfl, rfl, rfl, rfl, rfl, k6.le hG5 hG1.1, by have := k6.len; have := b5.len; omega, k6.own (b5.own oD e1) hb4, i + 1, M.set i true, by omega, by omega, by omega, by simpa using hM, k6.own o5 hb3, (hR.but b5 (fun h => by rw [hA] at h; exact h.2.1 rfl)).keep k6, ?_, fun j hj => ?_⟩, by simp; omega⟩
              · rw [filt_take hil, if_pos hs']; simpa using f6
              · have hmj := hm j hj
                by_cases ej : i = j
                · subst ej
                  have : (M.set i true).getD i false = true := by simp [List.getD, show i < M.length by omega]
                  rw [this]
                  exact ⟨fun _ => .inr ⟨hti, by omega, rchB_iff.1 hs'⟩, fun _ => rfl⟩
                · have : (M.set i true).getD j false = M.getD j false := by simp [List.getD, List.getElem?_set, ej]
                  rw [this, hmj]
                  constructor
                  · rintro (h | ⟨h1, h2, h3⟩)
                    · exact .inl h
                    · exact .inr ⟨h1, by omega, h3⟩
                  · rintro (h | ⟨h1, h2, h3⟩)
                    · exact .inl h
                    · exact .inr ⟨h1, by omega, h3⟩
            · unfold F138.B6
              rw [wrap_id (by omega) (by omega)]
              refine ⟨⟨rfl, rfl, rfl, rfl, rfl, rfl, hG4, hlen4, oD, i + 1, M, by omega, by omega, by omega, hM, oM, hR, ?_, fun j hj => ?_⟩, by simp; omega⟩
              · rw [filt_take hil, if_neg (by rw [hs']; decide), List.append_nil]; exact hF4
              · rw [hm j hj]
                constructor
                · rintro (h | ⟨h1, h2, h3⟩)
                  · exact .inl h
                  · exact .inr ⟨h1, by omega, h3⟩
                · rintro (h | ⟨h1, h2, h3⟩)
                  · exact .inl h
                  · by_cases ej : j = i
                    · subst ej
                      rw [rchB_iff.2 h3] at hs'; cases hs'
                    · exact .inr ⟨h1, by omega, h3⟩
          · have hge : i = l.length := by have := of_decide_eq_false hb; omega
            subst hge
            rw [List.take_length, comp_filter hl ⟨he2, he3⟩] at hF4
            have hcl : (cycOf es p (l.take t)).length ≤ 30 := by
              unfold cycOf; rw [List.length_map]
              exact Nat.le_trans (List.length_filter_le _ _) (by rw [List.length_take]; omega)
            unfold F138.B4
            refine hR.push hlen4 (fun b hb => hnew (G := G4) (.inr trivial) (by have := hG1.1; omega) (by omega) (by omega)) hF4 (by omega) fun v' G7 ot7 nb7 len7 hR7 => ?_
            have k7 : ∀ b o, (Gk.length ≤ b → ¬ A b) → G4[b]? = some (some o) → G7[b]? = some (some o) := by
              intro b o hb ho
              refine ot7 b o (fun hv => ?_) ho
              obtain ⟨vs, _, _, q3, _⟩ := hR
              have := (q3 b hv).1
              exact hb (by rw [hA] at this; exact this.1) this
            unfold F138.B3
            rw [wrap_id (by omega) (by omega)]
            refine ⟨⟨rfl, rfl, rfl, rfl, ⟨by have := hG4.1; omega, fun b o ho => k7 b o (fun hb => by have := lt_of_get ho; omega) (hG4.2 b o ho)⟩, k7 bl _ (fun _ h => by rw [hA] at h; exact h.2.2 rfl) oD, t + 1, M, by omega, by omega, hM, k7 bm _ (fun _ h => by rw [hA] at h; exact h.2.1 rfl) oM, ?_, fun j hj => ?_⟩, by simp; omega⟩
            · rw [cycOf_take htl, he1, Int.toNat_natCast, hlead]; exact hR7
            · rw [hm j hj, List.take_succ_eq_append_getElem htl]
              constructor
              · rintro (⟨y, h1, h2⟩ | ⟨h1, h2, h3⟩)
                · exact ⟨y, List.mem_append.2 (.inl h1), h2⟩
                · exact ⟨l[t], List.mem_append.2 (.inr (by simp)), by rw [he1]; exact hlead, by rw [he1]; exact h3⟩
              · rintro ⟨y, h1, h2, h3⟩
                rcases List.mem_append.1 h1 with h1 | h1
                · exact .inl ⟨y, h1, h2, h3⟩
                · rw [List.mem_singleton] at h1
                  rw [h1, he1, Int.toNat_natCast] at h3
                  refine .inr ⟨?_, hj, h3⟩
                  rcases Nat.lt_or_ge j t with hjt | hjt
                  · have hin : l[j] ∈ (l.take t).filter (fun y => rchB (eAdj es p) e y.toNat) := by
                      rw [List.mem_filter]
                      refine ⟨?_, rchB_iff.2 h3⟩
                      have : (l.take t)[j]'(by simp; omega) = l[j] := List.getElem_take ..
                      rw [← this]; exact List.getElem_mem _
                    rw [part_take hl htl he1 hlead] at hin
                    cases hin
                  · exact hjt
      · have hge : t = l.length := by have := of_decide_eq_false hb; omega
        subst hge
        rw [List.take_length] at hR
        unfold F138.B1
        exact k _ _ lG1 (hR.mono (fun b hb => by rw [hA] at hb; have := lGk.1; omega) (Nat.le_refl _))
    clear hb hi
    unfold F138.B16
    refine ldI_own oGk rfl ((hc.le lGk).len ⟨?_, ?_, ?_⟩)
    · refine l01Leaders_ok hK (by omega) (by omega) n1 hKf fun bl D G2 l2 o2 hbl hD => ⟨?_, ?_⟩
      · refine mkR_int (by omega) (by omega) (by decide) fun G3 l3 n3 o3 => newK_f rfl fun G4 l4 n4 o4 => ?_
        rw [Int.toNat_natCast, rep_b] at o3
        rw [Int.toNat_natCast]
        have := o2.lt; have := l2.1
        exact fin G4 D bl _ _ (AHeap.le_trans l2 (AHeap.le_trans l3 l4)) (o2.le (AHeap.le_trans l3 l4)) (o3.le l4) o4 hbl (by omega) (by omega) (by omega) (by omega) (by omega) hD
      · refine newK_f rfl fun G3 l3 n3 o3 => mkR_int (by omega) (by omega) (by decide) fun G4 l4 n4 o4 => ?_
        rw [Int.toNat_natCast, rep_b] at o4
        rw [Int.toNat_natCast]
        have := o2.lt; have := l2.1
        exact fin G4 D bl _ _ (AHeap.le_trans l2 (AHeap.le_trans l3 l4)) (o2.le (AHeap.le_trans l3 l4)) o4 (o3.le l4) hbl (by omega) (by omega) (by omega) (by omega) (by omega) hD
    · refine mkR_int (by omega) (by omega) (by decide) fun G2 l2 n2 o2 => ⟨?_, ?_⟩
      · refine l01Leaders_ok (hK.le l2) (by omega) (by omega) n1 hKf fun bl D G3 l3 o3 hbl hD => newK_f rfl fun G4 l4 n4 o4 => ?_
        rw [Int.toNat_natCast, rep_b] at o2
        rw [Int.toNat_natCast]
        have := o3.lt; have := l3.1
        exact fin G4 D bl _ _ (AHeap.le_trans l2 (AHeap.le_trans l3 l4)) (o3.le l4) (o2.le (AHeap.le_trans l3 l4)) o4 (by omega) (by omega) (by omega) (by omega) (by omega) (by omega) hD
      · refine newK_f rfl fun G3 l3 n3 o3 => l01Leaders_ok (hK.le (AHeap.le_trans l2 l3)) (by omega) (by omega) n1 hKf fun bl D G4 l4 o4 hbl hD => ?_
        rw [Int.toNat_natCast, rep_b] at o2
        rw [Int.toNat_natCast]
        have := o4.lt; have := l4.1
        exact fin G4 D bl _ _ (AHeap.le_trans l2 (AHeap.le_trans l3 l4)) o4 (o2.le (AHeap.le_trans l3 l4)) (o3.le l4) (by omega) (by omega) (by omega) (by omega) (by omega) (by omega) hD
    · refine newK_f rfl fun G2 l2 n2 o2 => ⟨?_, ?_⟩
      · refine l01Leaders_ok (hK.le l2) (by omega) (by omega) n1 hKf fun bl D G3 l3 o3 hbl hD => mkR_int (by omega) (by omega) (by decide) fun G4 l4 n4 o4 => ?_
        rw [Int.toNat_natCast, rep_b] at o4
        rw [Int.toNat_natCast]
        have := o3.lt; have := l3.1
        exact fin G4 D bl _ _ (AHeap.le_trans l2 (AHeap.le_trans l3 l4)) (o3.le l4) o4 (o2.le (AHeap.le_trans l3 l4)) (by omega) (by omega) (by omega) (by omega) (by omega) (by omega) hD
      · refine mkR_int (by omega) (by omega) (by decide) fun G3 l3 n3 o3 => l01Leaders_ok (hK.le (AHeap.le_trans l2 l3)) (by omega) (by omega) n1 hKf fun bl D G4 l4 o4 hbl hD => ?_
        rw [Int.toNat_natCast, rep_b] at o3
        rw [Int.toNat_natCast]
        have := o4.lt; have := l4.1
        exact fin G4 D bl _ _ (AHeap.le_trans l2 (AHeap.le_trans l3 l4)) o4 (o3.le l4) (o2.le (AHeap.le_trans l3 l4)) (by omega) (by omega) (by omega) (by omega) (by omega) (by omega) hD
end Go.Proofs
/- Contracts of the laws' helpers over lists of lists. -/
set_option linter.unusedVariables false
set_option linter.unusedSimpArgs false
set_option maxRecDepth 100000
namespace Go.Proofs
open Go.Abs

variable {H G : AHeap} {v u f : Value} {l m c : List Int} {es fs : List (Int × Int)} {K : Value → AHeap → Prop} {A A' : Nat → Prop} {B B' : Nat} {ls ms : List (List Int)}

theorem eqInt64SS_ok (h : RowsF A B H v ls) (g : RowsF A' B' H u ms) (hl : ls.length ≤ 4294967296) (hr : ∀ l ∈ ls, l.length ≤ 4294967296) (k : K (.bool (decide (ls = ms))) H) : AC Try.prog T0 20 [v, u] H K := by
  apply F20.ac
  unfold F20.B10 F20.B9
  refine h.len (g.len (pif_cases (fun hb => ?_) fun hb => ?_))
  · unfold F20.B8
    rw [decide_eq_false (by rintro rfl; simp at hb)] at k; exact k
  · have hlen : ls.length = ms.length := by simp at hb; omega
    unfold F20.B7 F20.L2
    refine ⟨fun x0 x1 x5 G => v = x0 ∧ u = x1 ∧ H = G ∧ ∃ i : Nat, x5 = i ∧ i ≤ ls.length ∧ ∀ j, j < i → ls.getD j [] = ms.getD j [], fun _ _ x5 _ => ls.length - x5.toNat, ⟨rfl, rfl, rfl, 0, rfl, by omega, fun j hj => absurd hj (by omega)⟩, ?_⟩
    rintro x0 x1 x5 G ⟨rfl, rfl, rfl, i, rfl, hi, heq⟩
    unfold F20.B6
    refine h.len (pif_cases (fun hb => ?_) fun hb => ?_)
    · have hlt : i < ls.length := by have := of_decide_eq_true hb; omega
      unfold F20.B5
      refine h.row hlt fun w1 f1 => g.row (by omega) fun w2 f2 => eqInt64S_ok f1.ints f2.ints (by rw [getD_of hlt]; exact hr _ (List.getElem_mem hlt)) (asB_mk (pif_cases (fun hs => ?_) fun hs => ?_))
      · unfold F20.B4
        rw [decide_eq_false (by rintro rfl; simp at hs)] at k; exact k
      · unfold F20.B3
        rw [wrap_id (by omega) (by omega)]
        refine ⟨⟨rfl, rfl, rfl, i + 1, by omega, by omega, fun j hj => ?_⟩, by simp; omega⟩
        by_cases e : j = i
        · subst e; simpa using hs
        · exact heq j (by omega)
    · have hge : i = ls.length := by have := of_decide_eq_false hb; omega
      unfold F20.B1
      have : ls = ms := by
        apply List.ext_getElem hlen
        intro j h1 h2
        have := heq j (by omega)
        rwa [getD_of h1, getD_of h2] at this
      rw [decide_eq_true this] at k; exact k

/-- All but rows of a kind lives on. -/
structure ModA (A : Nat → Prop) (H G : AHeap) : Prop where
  len : H.length ≤ G.length
  same : ∀ (c : Nat) (o : AObj), ¬ A c → H[c]? = some (some o) → G[c]? = some (some o)
theorem ModA.refl : ModA A H H := ⟨Nat.le_refl _, fun _ _ _ h => h⟩
theorem ModA.trans {G' : AHeap} (h : ModA A H G) (k : ModA A G G') : ModA A H G' := ⟨Nat.le_trans h.len k.len, fun c o hc ho => k.same c o hc (h.same c o hc ho)⟩
theorem ModA.le {X : AHeap} (h : ModA A H G) (hb : ∀ b, A b → X.length ≤ b) (hl : X.le H) : X.le G :=
  ⟨Nat.le_trans hl.1 h.len, fun c o hc => h.same c o (fun ha => by have := hb c ha; have := lt_of_get hc; omega) (hl.2 _ _ hc)⟩
def totL (ls : List (List Int)) : Nat := (ls.map List.length).sum
theorem totL_snoc (ls : List (List Int)) (l : List Int) : totL (ls ++ [l]) = totL ls + l.length := by simp [totL]
theorem totL_take {i : Nat} (h : i < ls.length) : totL (ls.take (i + 1)) = totL (ls.take i) + (ls.getD i []).length := by
  rw [List.take_succ_eq_append_getElem h, totL_snoc, getD_of h]
theorem totL_le (i : Nat) : totL (ls.take i) ≤ totL ls := by
  have e : totL ls = totL (ls.take i) + totL (ls.drop i) := by unfold totL; rw [← List.sum_append, ← List.map_append, List.take_append_drop]
  omega

end Go.Proofs
/- Contracts: cycles of a set, whether a set is a cycle, both sides. -/
set_option linter.unusedVariables false
set_option linter.unusedSimpArgs false
set_option maxRecDepth 100000
namespace Go.Proofs
open Go.Abs

variable {H G : AHeap} {v u f : Value} {l m c : List Int} {es fs : List (Int × Int)} {K : Value → AHeap → Prop} {A : Nat → Prop} {B : Nat} {ls : List (List Int)}

theorem set_bits {l : List Int} {n : Nat} (h : IsS l n) : filtB (fun j => (setN l).testBit j) n = l := h.filt.symm
theorem set_lt {l : List Int} {n : Nat} (h : IsS l n) (hn : n ≤ 64) : setN l < 2 ^ 64 := setN_lt fun x hx => by have := h.range x hx; omega
/-- Whether a set is a cycle. -/
noncomputable def cycB (n : Int) (es : List (Int × Int)) (l : List Int) : Bool := decide (EvenS n es (bitB l)) && (((cycOf es (bitB l) l).length : Int) == 1)
theorem l07Cycle_ok {n : Int} (h : Edges H v es) (hg : IsG n es) (hc : Ints H u l) (hs : IsS l es.length) (k : ∀ G, H.le G → K (.bool (cycB n es l)) G) : AC Try.prog T0 85 [.agg ⟨[.int .i64 n, v]⟩, u] H K := by
  apply F85.ac
  unfold F85.B2
  refine newK_f (all_iv (edges_one' h)) fun H1 l1 n1 o1 => ?_
  unfold F85.B1
  unfold cycB at k
  refine (hc.le l1).len (pif_cases (fun hb => ?_) fun hb => ?_)
  · refine ldI_own o1 rfl (ld1_own o1 rfl (l07Even_ok (h.le l1) hg (hc.le l1) hs fun H2 l2 => asB_mk (pif_cases (fun he => ?_) fun he => ?_)))
    · have l12 := AHeap.le_trans l1 l2
      refine ldI_own (o1.le l2) rfl (ld1_own (o1.le l2) rfl (l07Cycles_ok (h.le l12) hg (hc.le l12) hs fun v' H3 l3 hR => hR.len ?_))
      have k := k _ (AHeap.le_trans l12 l3)
      rw [he, Bool.true_and] at k; exact k
    · have k := k _ (AHeap.le_trans l1 l2)
      rw [he, Bool.false_and] at k; exact k
  · have hl0 : l = [] := List.length_eq_zero_iff.1 (by have := of_decide_eq_false hb; omega)
    have k := k _ l1
    have e0 : (cycOf es (bitB l) l).length = 0 := by rw [hl0]; rfl
    rw [e0] at k
    simpa using k
theorem isCycle_ok {n : Int} (h : Edges H v es) (hg : IsG n es) (hs : IsS l es.length) (k : ∀ G, H.le G → K (.bool (cycB n es l)) G) : AC Try.prog T0 91 [.agg ⟨[.int .i64 n, v]⟩, .int .u64 (setN l : Nat)] H K := by
  have h30 : es.length ≤ 30 := by have := hg.ed.len; have := hg.ed.hi; omega
  have hsl := set_lt hs (by omega)
  apply F91.ac
  unfold F91.B2
  refine newK_f (all_iv (edges_one' h)) fun H1 l1 n1 o1 => ?_
  unfold F91.B1
  unfold cycB at k
  refine ldI_own o1 rfl (ld1_own o1 rfl (isEven_ok (h.le l1) hg hsl fun H2 l2 => asB_mk ?_))
  rw [show (fun j => (setN l).testBit j) = bitB l from rfl]
  refine pif_cases (fun he => ?_) fun he => ?_
  · have l12 := AHeap.le_trans l1 l2
    refine ldI_own (o1.le l2) rfl (ld1_own (o1.le l2) rfl (cycles_ok (h.le l12) hg hsl (fun j hj => bitB_lt hs hj) fun w H4 l4 f4 => ?_))
    rw [set_bits hs, show (fun j => (setN l).testBit j) = bitB l from rfl] at f4
    refine f4.sl.len (by decide) (n := (cycOf es (bitB l) l).length) (by unfold cycN cycOf; simp) ?_
    have k := k _ (AHeap.le_trans l12 l4)
    rw [he, Bool.true_and] at k; exact k
  · have k := k _ (AHeap.le_trans l1 l2)
    rw [he, Bool.false_and] at k; exact k
end Go.Proofs
/- Contracts of the laws' helpers over lists of lists that come in. -/
set_option linter.unusedVariables false
set_option linter.unusedSimpArgs false
set_option maxRecDepth 100000
namespace Go.Proofs
open Go.Abs

variable {H G : AHeap} {v u f : Value} {l m c : List Int} {es fs : List (Int × Int)} {K : Value → AHeap → Prop} {A A' : Nat → Prop} {B B' : Nat} {ls ms : List (List Int)}

/-- A readable list of lists. -/
def RowsR (H : AHeap) (v : Value) (ls : List (List Int)) : Prop :=
  (v = .slice none 0 0 ∧ ls = []) ∨ ∃ a c, v = .slice (some a) ls.length c ∧ (ls = [] ∨ (a.spot = none ∧ ∀ i, i < ls.length → ∃ w, H.cell a.block (a.off + i) = some w ∧ Ints H w (ls.getD i [])))
theorem RowsR.le (h : RowsR H v ls) (hl : H.le G) : RowsR G v ls := by
  rcases h with h | ⟨a, c, h1, h2⟩
  · exact .inl h
  · refine .inr ⟨a, c, h1, ?_⟩
    rcases h2 with h2 | ⟨h2, h3⟩
    · exact .inl h2
    · refine .inr ⟨h2, fun i hi => ?_⟩
      obtain ⟨w, h4, h5⟩ := h3 i hi
      exact ⟨w, AHeap.cell_le hl h4, h5.le hl⟩
theorem RowsR.len (h : RowsR H v ls) {K : Nat → Prop} (k : K ls.length) : lenK v K := by
  rcases h with ⟨rfl, rfl⟩ | ⟨a, c, rfl, _⟩ <;> exact k
theorem RowsR.row (h : RowsR H v ls) {i : Nat} (hi : i < ls.length) {K : Value → Prop} (k : ∀ w, Ints H w (ls.getD i []) → K w) : idxK v i 1 (fun b o => ld1 H b o K) := by
  rcases h with ⟨rfl, rfl⟩ | ⟨⟨b, o, sp⟩, c, rfl, h2⟩
  · simp at hi
  · rcases h2 with rfl | ⟨rfl, h3⟩
    · simp at hi
    · obtain ⟨w, h4, h5⟩ := h3 i hi
      exact ⟨by omega, by omega, by rw [Int.toNat_natCast, Nat.mul_one]; exact ld1_mk h4 (k w h5)⟩
theorem RowsR.rowB (h : RowsR H v ls) (hl : H.le G) {i : Nat} (hi : i < ls.length) {K : Value → Prop} (k : ∀ w, Ints H w (ls.getD i []) → K w) : idxK v i 1 (fun b o => ld1 G b o K) := by
  rcases h with ⟨rfl, rfl⟩ | ⟨⟨b, o, sp⟩, c, rfl, h2⟩
  · simp at hi
  · rcases h2 with rfl | ⟨rfl, h3⟩
    · simp at hi
    · obtain ⟨w, h4, h5⟩ := h3 i hi
      exact ⟨by omega, by omega, by rw [Int.toNat_natCast, Nat.mul_one]; exact ld1_mk (AHeap.cell_le hl h4) (k w h5)⟩
theorem RowsR.one (h : RowsR H v ls) : v.oneCell' = true := by
  rcases h with ⟨rfl, _⟩ | ⟨a, c, rfl, _⟩ <;> rfl
theorem RowsF.toR (h : RowsF A B H v ls) : RowsR H v ls := by
  obtain ⟨vs, h1, h2, h3, h4⟩ := h
  rcases h1 with ⟨rfl, h1⟩ | ⟨b, n, _, rfl, ho, hn⟩
  · have : ls = [] := List.length_eq_zero_iff.1 (by rw [← h2]; rfl)
    subst this
    rcases h1 with rfl | ⟨a, rfl⟩
    · exact .inl ⟨rfl, rfl⟩
    · exact .inr ⟨a, 0, rfl, .inl rfl⟩
  · obtain rfl : n = ls.length := by omega
    refine .inr ⟨_, _, rfl, .inr ⟨rfl, fun i hi => ?_⟩⟩
    obtain ⟨w, g1, g2, _⟩ := h4 i hi
    exact ⟨w, by rw [Own.cell ho, Nat.zero_add]; exact g1, g2.ints⟩

theorem chunks_rows {n : Nat} : ∀ (len : Nat) (xs : List Value), Chunked T0 (AT T0 H n) (List.replicate len 25) xs → ∃ ls : List (List Int), ls.length = len ∧ (∀ l ∈ ls, l.length ≤ 9223372036854775807) ∧ ∀ i, i < len → ∃ w, xs[i]? = some w ∧ Ints H w (ls.getD i [])
  | 0, xs, h => ⟨[], rfl, by simp, fun i hi => absurd hi (by omega)⟩
  | len + 1, xs, h => by
    rw [List.replicate_succ] at h
    obtain ⟨h1, h2, h3⟩ := h
    rw [show sz T0 25 = 1 by kernel_rfl] at h1 h2 h3
    obtain ⟨w, l, e, hi, hb, _⟩ := AT_ints (e := 2) (by kernel_rfl) (by kernel_rfl) (by kernel_rfl) h2
    obtain ⟨ls, hl, hb', hr⟩ := chunks_rows len _ h3
    refine ⟨l :: ls, by simp [hl], by simpa using ⟨hb, hb'⟩, fun i hi' => ?_⟩
    cases xs with
    | nil => simp at h1
    | cons y ys =>
      cases i with
      | zero => simp at e; exact ⟨w, by simp [e], by simpa [List.getD] using hi⟩
      | succ i =>
        obtain ⟨w', g1, g2⟩ := hr i (by omega)
        exact ⟨w', by simpa using g1, by simpa [List.getD] using g2⟩
theorem av_rows (h : AV T0 H 37 v) : ∃ ls, RowsR H v ls ∧ ls.length ≤ 9223372036854775807 ∧ ∀ l ∈ ls, l.length ≤ 9223372036854775807 := by
  obtain ⟨n, cs, a, rfl⟩ := AV_flat h (by kernel_rfl)
  rcases AT_slice (e := 25) (by kernel_rfl) a with rfl | rfl | ⟨m, b, len, xs, rfl, h2, h3, h4⟩
  · exact ⟨[], .inl ⟨rfl, rfl⟩, by decide, by simp⟩
  · exact ⟨[], .inr ⟨_, _, rfl, .inl rfl⟩, by decide, by simp⟩
  · obtain ⟨ls, rfl, hb, hr⟩ := chunks_rows len xs h4
    refine ⟨ls, .inr ⟨_, _, rfl, .inr ⟨rfl, fun i hi => ?_⟩⟩, by simpa [maxLen] using h2, hb⟩
    obtain ⟨w, g1, g2⟩ := hr i hi
    exact ⟨w, by rw [cell_own h3, Nat.zero_add]; exact g1, g2⟩

theorem szInt64SS_ok {n : Int} (h : RowsR H v ls) (hl : ls.length ≤ 9223372036854775807) (hr : ∀ l ∈ ls, l.length ≤ 9223372036854775807) (h0 : 0 ≤ n) (h1 : n ≤ 4611686018427387904)
    (k : ∀ r, (0 ≤ r → (ls.length : Int) + totL ls ≤ n) → K (.int .i64 r) H) : AC Try.prog T0 16 [v, .int .i64 n] H K := by
  apply F16.ac
  unfold F16.B12 F16.B11
  refine h.len ?_
  unfold F16.B10
  rw [wrap_id (by omega) (by omega)]
  refine pif_cases (fun hb => ?_) fun hb => ?_
  · unfold F16.B9
    exact k _ fun h => absurd h (by decide)
  · have hb := of_decide_eq_false hb
    unfold F16.B8 F16.L2
    refine ⟨fun x0 x1 x5 G => v = x0 ∧ H = G ∧ ∃ i : Nat, x5 = i ∧ i ≤ ls.length ∧ x1 = n - ls.length - totL (ls.take i) ∧ 0 ≤ x1, fun _ _ x5 _ => ls.length - x5.toNat, ⟨rfl, rfl, 0, rfl, by omega, by simp [totL], by omega⟩, ?_⟩
    rintro x0 x1 x5 G ⟨rfl, rfl, i, rfl, hi, rfl, hp⟩
    unfold F16.B7
    refine h.len (pif_cases (fun hb => ?_) fun hb => ?_)
    · have hlt : i < ls.length := by have := of_decide_eq_true hb; omega
      have ht := totL_take hlt
      unfold F16.B6
      refine h.row hlt fun w hw => szInt64S_ok hw (by rw [getD_of hlt]; exact hr _ (List.getElem_mem hlt)) hp (by omega) (asI_mk ?_)
      unfold F16.B5
      refine pif_cases (fun hs => ?_) fun hs => ?_
      · unfold F16.B4
        exact k _ fun h => absurd h (by decide)
      · have hs := of_decide_eq_false hs
        have hnn : ¬ n - ls.length - totL (ls.take i) - (ls.getD i []).length < 0 := by
          intro hc
          rw [if_pos hc] at hs
          exact hs (by decide)
        rw [if_neg hnn]
        unfold F16.B3
        rw [wrap_id (by omega) (by omega)]
        exact ⟨⟨rfl, rfl, i + 1, by omega, by omega, by omega, by omega⟩, by simp; omega⟩
    · have hge : i = ls.length := by have := of_decide_eq_false hb; omega
      subst hge
      unfold F16.B1
      rw [List.take_length] at hp ⊢
      exact k _ fun _ => by omega

theorem rep_nil (n : Nat) : (List.replicate n [Value.slice none 0 0]).flatten = List.replicate n (Value.slice none 0 0) := by
  induction n with
  | zero => rfl
  | succ n ih => rw [List.replicate_succ, List.replicate_succ, List.flatten_cons, ih]; rfl
theorem toInt64SS_ok (h : RowsR H v ls) (hl : ls.length ≤ 4294967296) (hr : ∀ l ∈ ls, l.length ≤ 4294967296) (k : ∀ v' G, H.le G → RowsF (fun b => H.length ≤ b) G.length G v' ls → K v' G) : AC Try.prog T0 18 [v] H K := by
  apply F18.ac
  unfold F18.B8 F18.B7
  refine h.len (mkR_int (by omega) (by omega) (by decide) fun H1 l1 n1 o1 => ?_)
  rw [Int.toNat_natCast, rep_nil] at o1
  rw [Int.toNat_natCast]
  unfold F18.B6 F18.L2
  refine ⟨fun x0 x3 x4 G => v = x0 ∧ .slice (some ⟨H.length, 0, none⟩) ls.length (ls.length + 1) = x3 ∧ H.le G ∧ ∃ (i : Nat) (vs : List Value), x4 = i ∧ i ≤ ls.length ∧ vs.length = ls.length ∧ Own G H.length 25 vs ∧
      ∀ j, j < i → ∃ w, vs[j]? = some w ∧ Fresh (H.length + 1) G w 2 1 (LI (ls.getD j [])) ∧ ∀ b, bk w = some b → ∀ j' w', j' < j → vs[j']? = some w' → bk w' ≠ some b, fun _ _ x4 _ => ls.length - x4.toNat,
    ⟨rfl, rfl, l1, 0, _, rfl, by omega, by simp, o1, fun j hj => absurd hj (by omega)⟩, ?_⟩
  rintro x0 x3 x4 G ⟨rfl, rfl, hG, i, vs, rfl, hi, hvs, oG, hp⟩
  unfold F18.B5
  refine (h.le hG).len (pif_cases (fun hb => ?_) fun hb => ?_)
  · have hlt : i < ls.length := by have := of_decide_eq_true hb; omega
    unfold F18.B4
    refine (h.le hG).row hlt fun w hw => toInt64S_ok hw (by rw [getD_of hlt]; exact hr _ (List.getElem_mem hlt)) fun w' G2 l2 f2 => own_idx (by omega) (by omega) ?_
    have hw1 : w'.oneCell' = true := ints_one f2.ints
    have hlt0 := oG.lt
    refine pif_t hw1 (stK_1 (oG.le l2) (by omega) hw1 fun G3 b3 o3 => ?_)
    unfold F18.B3
    rw [Int.toNat_natCast] at o3
    rw [wrap_id (by omega) (by omega)]
    refine ⟨⟨rfl, rfl, b3.le (AHeap.le_trans hG l2) (Nat.le_refl _), i + 1, vs.set i w', by omega, by omega, by simpa using hvs, o3, fun j hj => ?_⟩, by simp; omega⟩
    by_cases e : i = j
    · subst e
      refine ⟨w', by simp [show i < vs.length by omega], (f2.less (by omega)).but b3 (by omega), fun b hb j' w2 hj' hw2 hw3 => ?_⟩
      rw [List.getElem?_set_ne (by omega)] at hw2
      obtain ⟨w4, q1, q2, _⟩ := hp j' hj'
      rw [hw2] at q1; cases q1
      have := (q2.bk_lt hw3).2
      have := (f2.bk_lt hb).1
      omega
    · obtain ⟨w4, q1, q2, q3⟩ := hp j (by omega)
      refine ⟨w4, by rw [List.getElem?_set_ne e]; exact q1, (q2.le l2).but b3 (by omega), fun b hb j' w2 hj' hw2 => q3 b hb j' w2 hj' ?_⟩
      rwa [List.getElem?_set_ne (by omega)] at hw2
  · have hge : i = ls.length := by have := of_decide_eq_false hb; omega
    subst hge
    unfold F18.B1
    refine k _ _ hG ⟨vs, .inr ⟨H.length, ls.length, Nat.zero_le _, rfl, oG, by omega⟩, hvs, fun b hb => ?_, fun j hj => ?_⟩
    · cases hb; exact ⟨Nat.le_refl _, oG.lt⟩
    · obtain ⟨w, q1, q2, q3⟩ := hp j hj
      refine ⟨w, q1, q2.less (Nat.zero_le _), fun b hb => ⟨by have := (q2.bk_lt hb).1; omega, (q2.bk_lt hb).2, fun hv => ?_, q3 b hb⟩⟩
      cases hv
      exact absurd (show H.length + 1 ≤ H.length from (q2.bk_lt hb).1) (by omega)
end Go.Proofs
/- Contracts: double covers, both sides. -/
set_option linter.unusedVariables false
set_option linter.unusedSimpArgs false
set_option maxRecDepth 100000
namespace Go.Proofs
open Go.Abs

variable {H G : AHeap} {v u f : Value} {l m c : List Int} {es fs : List (Int × Int)} {K : Value → AHeap → Prop} {ls ms : List (List Int)}

theorem indexR_ok {p : List Int → Bool} (h : RowsR H v ls) (hl : ls.length ≤ 4611686018427387904) (hf : ∀ i, i < ls.length → ∀ G, H.le G → ∀ w, Ints G w (ls.getD i []) → Cl G f w (p (ls.getD i []))) (k : ∀ r G, H.le G → decide (r ≥ 0) = ls.any p → K (.int .i64 r) G) :
    AC Try.prog T0 178 [v, f] H K := by
  apply F178.ac
  unfold F178.B9 F178.B8
  refine h.len ?_
  unfold F178.L2
  refine ⟨fun x0 x1 x7 x8 G => v = x0 ∧ f = x1 ∧ (ls.length : Int) = x7 ∧ H.le G ∧ ∃ n : Nat, x8 = n ∧ n ≤ ls.length ∧ ∀ i : Nat, i < n → p (ls.getD i []) = false, fun _ _ _ x8 _ => ls.length - x8.toNat, ⟨rfl, rfl, rfl, AHeap.le_refl _, 0, rfl, by omega, fun i hi => absurd hi (by omega)⟩, ?_⟩
  rintro x0 x1 x7 x8 G ⟨rfl, rfl, rfl, hG, n, rfl, hn', hp⟩
  unfold F178.B7
  refine pif_cases (fun hb => ?_) fun hb => ?_
  · have hn : n < ls.length := by have := of_decide_eq_true hb; omega
    unfold F178.B6 F178.B5
    refine (h.le hG).row hn fun w hw => hf n hn G hG w hw G (AHeap.le_refl _) _ fun G2 hG2 => asB_mk (pif_cases (fun hb => ?_) fun hb => ?_)
    · unfold F178.B4
      refine k _ _ (AHeap.le_trans hG hG2) ?_
      rw [List.any_eq_true.2 ⟨ls.getD n [], by rw [getD_of hn]; exact List.getElem_mem hn, hb⟩]; simp
    · unfold F178.B3
      rw [wrap_id (by omega) (by omega)]
      refine ⟨⟨rfl, rfl, rfl, AHeap.le_trans hG hG2, n + 1, by omega, by omega, fun i hi => ?_⟩, by simp; omega⟩
      by_cases he : i = n
      · subst he; exact hb
      · exact hp i (by omega)
  · have hge : n = ls.length := by have := of_decide_eq_false hb; omega
    unfold F178.B1
    refine k _ _ hG ?_
    have : ls.any p = false := by
      rw [List.any_eq_false]
      intro e he
      obtain ⟨i, hi, rfl⟩ := List.getElem_of_mem he
      have := hp i (by omega)
      rw [getD_of hi] at this; simp [this]
    rw [this]; simp
theorem areAllR_ok {p : List Int → Bool} (h : RowsR H v ls) (hl : ls.length ≤ 4611686018427387904) (hf1 : f.oneCell' = true) (hf : ∀ i, i < ls.length → ∀ G, H.le G → ∀ w, Ints G w (ls.getD i []) → Cl G f w (p (ls.getD i []))) (k : ∀ G, H.le G → K (.bool (ls.all p)) G) :
    AC Try.prog T0 86 [v, f] H K := by
  apply F86.ac
  unfold F86.B2
  refine pif_t hf1 (newK_f (by simp [hf1]) fun H1 l1 n1 o1 => ?_)
  unfold F86.B1
  apply F139.ac
  unfold F139.B2 F139.B1
  refine indexR_ok (p := fun e => !p e) (h.le l1) hl (fun i hi G hG w hw => ?_) fun r G hG hr => asI_mk (asB_mk ?_)
  · intro G2 hG2 K k
    refine callV_mk ?_
    apply F140.ac
    unfold F140.B2 F140.B1
    refine asP_mk (ld1_own ((o1.le hG).le hG2) rfl ?_)
    exact hf i hi G (AHeap.le_trans l1 hG) w hw G2 hG2 _ fun G' hG' => asB_mk (k _ hG')
  · have := k G (AHeap.le_trans l1 hG)
    rw [hr, show (!ls.any fun e => !p e) = ls.all p by rw [List.all_eq_not_any_not]]
    exact this

def SetsB (es : List (Int × Int)) (ls : List (List Int)) : Prop := ∀ l ∈ ls, IsS l es.length
noncomputable instance (es : List (Int × Int)) (ls : List (List Int)) : Decidable (SetsB es ls) := Classical.propDecidable _
theorem areSets_ok {n : Int} (h : Edges H v es) (hl : es.length ≤ 1048576) (hr : RowsR H u ls) (hrl : ls.length ≤ 1048576) (hrr : ∀ l ∈ ls, l.length ≤ 1048576) (k : ∀ G, H.le G → K (.bool (decide (SetsB es ls))) G) :
    AC Try.prog T0 54 [.agg ⟨[.int .i64 n, v]⟩, u] H K := by
  apply F54.ac
  unfold F54.B2
  refine newK_f (all_iv (edges_one' h)) fun H1 l1 n1 o1 => ?_
  unfold F54.B1
  refine areAllR_ok (p := fun l => decide (IsS l es.length)) (hr.le l1) (by omega) rfl (fun i hi G hG w hw => ?_) fun G hG => asB_mk ?_
  · intro G2 hG2 K k
    refine callV_mk ?_
    apply F87.ac
    unfold F87.B2 F87.B1
    have hll : (ls.getD i []).length ≤ 1048576 := by rw [getD_of hi]; exact hrr _ (List.getElem_mem hi)
    exact asP_mk (ld1_own ((o1.le hG).le hG2) rfl (lengthE_ok (h.le (AHeap.le_trans l1 (AHeap.le_trans hG hG2))) (asI_mk (isSet_ok (hw.le hG2) (by omega) (by omega) (by omega) (asB_mk (k _ (AHeap.le_refl _)))))))
  · have k := k G (AHeap.le_trans l1 hG)
    have e : ls.all (fun l => decide (IsS l es.length)) = decide (SetsB es ls) := by
      rw [Bool.eq_iff_iff, List.all_eq_true, decide_eq_true_iff]
      exact ⟨fun h l hl => of_decide_eq_true (h l hl), fun h l hl => decide_eq_true (h l hl)⟩
    rw [e]; exact k

theorem l07Lists_ok {n : Int} (h : Edges H v es) (hl : es.length ≤ 1048576) (hr : RowsR H u ls) (hrl : ls.length ≤ 1048576) (hrr : ∀ l ∈ ls, l.length ≤ 1048576) (k : ∀ G, H.le G → K (.int .i64 (if IsG n es then (if SetsB es ls then 0 else 2) else 1)) G) :
    AC Try.prog T0 48 [.agg ⟨[.int .i64 n, v]⟩, u] H K := by
  apply F48.ac
  unfold F48.B11
  refine newK_f (all_iv (edges_one' h)) fun H1 l1 n1 o1 => ?_
  unfold F48.B10
  refine ldI_own o1 rfl (ld1_own o1 rfl (l01Is_ok (h.le l1) hl fun H2 l2 => asB_mk ?_))
  have l12 := AHeap.le_trans l1 l2
  have k := k _ l12
  refine pif_cases (fun hb => ?_) fun hb => ?_
  · rw [Bool.not_eq_true'] at hb
    unfold F48.B9
    rw [if_neg (of_decide_eq_false hb)] at k; exact k
  · rw [Bool.not_eq_false'] at hb
    rw [if_pos (of_decide_eq_true hb)] at k
    unfold F48.B8 F48.L2
    refine ⟨fun x1 x2 x5 G => u = x1 ∧ H.length = x2 ∧ H2 = G ∧ ∃ i : Nat, x5 = i ∧ i ≤ ls.length ∧ ∀ j, j < i → IsS (ls.getD j []) es.length, fun _ _ x5 _ => ls.length - x5.toNat, ⟨rfl, rfl, rfl, 0, rfl, by omega, fun j hj => absurd hj (by omega)⟩, ?_⟩
    rintro x1 x2 x5 G ⟨rfl, rfl, rfl, i, rfl, hi, hp⟩
    unfold F48.B7
    refine (hr.le l12).len (pif_cases (fun hb => ?_) fun hb => ?_)
    · have hlt : i < ls.length := by have := of_decide_eq_true hb; omega
      have hll : (ls.getD i []).length ≤ 1048576 := by rw [getD_of hlt]; exact hrr _ (List.getElem_mem hlt)
      unfold F48.B6
      refine (hr.le l12).row hlt fun w hw => ld1_own (o1.le l2) rfl ((h.le l12).len (l03Set_ok hw (by omega) (by omega) (by omega) (asI_mk ?_)))
      unfold F48.B5
      by_cases hs : IsS (ls.getD i []) es.length
      · rw [if_pos hs]
        refine pif_f rfl ?_
        unfold F48.B3
        rw [wrap_id (by omega) (by omega)]
        refine ⟨⟨rfl, rfl, rfl, i + 1, by omega, by omega, fun j hj => ?_⟩, by simp; omega⟩
        by_cases e : j = i
        · subst e; exact hs
        · exact hp j (by omega)
      · rw [if_neg hs]
        refine pif_t rfl ?_
        unfold F48.B4
        rw [if_neg fun h : SetsB es ls => hs (by rw [getD_of hlt]; exact h _ (List.getElem_mem hlt))] at k
        exact k
    · have hge : i = ls.length := by have := of_decide_eq_false hb; omega
      subst hge
      unfold F48.B1
      rw [if_pos (show SetsB es ls from fun l hl => by
        obtain ⟨j, hj, rfl⟩ := List.getElem_of_mem hl
        have := hp j hj
        rwa [getD_of hj] at this)] at k
      exact k

/-- How often each number is in lists. -/
def cntL (m : Nat) (l : List Int) : List Int := l.foldl bump1 (List.replicate m 0)
theorem cntL_length (m : Nat) (l : List Int) : (cntL m l).length = m := by
  have key : ∀ (l : List Int) (cs : List Int), (l.foldl bump1 cs).length = cs.length := by
    intro l
    induction l with
    | nil => intro cs; rfl
    | cons x l ih => intro cs; rw [List.foldl_cons, ih, bump1_length]
  unfold cntL; rw [key]; simp
theorem cntL_snoc (m : Nat) (l : List Int) (x : Int) : cntL m (l ++ [x]) = bump1 (cntL m l) x := by unfold cntL; rw [List.foldl_append]; rfl
theorem cntL_le (m : Nat) (l : List Int) : ∀ c ∈ cntL m l, 0 ≤ c ∧ c ≤ l.length := by
  have key : ∀ (l : List Int) (cs : List Int) (B : Int), (∀ c ∈ cs, 0 ≤ c ∧ c ≤ B) → ∀ c ∈ l.foldl bump1 cs, 0 ≤ c ∧ c ≤ B + l.length := by
    intro l
    induction l with
    | nil => intro cs B h c hc; have := h c hc; simp; omega
    | cons x l ih =>
      intro cs B h c hc
      have := ih (bump1 cs x) (B + 1) (fun c hc => by have := bump1_le h x c hc; omega) c hc
      simp; omega
  intro c hc
  have := key l _ 0 (by intro c hc; rw [List.mem_replicate] at hc; omega) c hc
  omega
noncomputable def dblB (n : Int) (es : List (Int × Int)) (ls : List (List Int)) : Bool := ls.all (cycB n es) && (cntL es.length ls.flatten).all (fun c => c == 2)
theorem flat_take {i : Nat} (h : i < ls.length) : (ls.take (i + 1)).flatten = (ls.take i).flatten ++ ls.getD i [] := by
  rw [List.take_succ_eq_append_getElem h, List.flatten_append, getD_of h]; simp
theorem flat_len : ls.flatten.length = totL ls := by unfold totL; rw [List.length_flatten]
theorem flat_take_le (i : Nat) : (ls.take i).flatten.length ≤ totL ls := by rw [flat_len]; exact totL_le i

theorem all_no {p : List Int → Bool} {i : Nat} (hi : i < ls.length) (h : p (ls.getD i []) = false) : ls.all p = false := by
  cases ha : ls.all p with
  | false => rfl
  | true =>
    rw [List.all_eq_true] at ha
    have := ha _ (List.getElem_mem hi)
    rw [← getD_of (d := []) hi, h] at this
    cases this
theorem l07Double_ok {n : Int} (h : Edges H v es) (hg : IsG n es) (hr : RowsR H u ls) (hrl : ls.length ≤ 1048576) (ht : totL ls ≤ 1048576) (hS : SetsB es ls) (k : ∀ G, H.le G → K (.bool (dblB n es ls)) G) :
    AC Try.prog T0 50 [.agg ⟨[.int .i64 n, v]⟩, u] H K := by
  have h30 : es.length ≤ 30 := by have := hg.ed.len; have := hg.ed.hi; omega
  apply F50.ac
  unfold F50.B20
  refine newK_f (all_iv (edges_one' h)) fun H1 l1 n1 o1 => ?_
  unfold F50.B19
  refine ld1_own o1 rfl ((h.le l1).len (mkR_int (by omega) (by omega) (by decide) fun H2 l2 n2 o2 => ?_))
  rw [Int.toNat_natCast, rep_one] at o2
  rw [Int.toNat_natCast]
  have hsl : ∀ cs : List Int, cs.length = es.length → (.slice (some ⟨H1.length, 0, none⟩) es.length (es.length + 1) : Value) = .slice (some ⟨H1.length, 0, none⟩) cs.length (cs.length + 1) := fun cs h => by rw [h]
  unfold F50.B18 F50.L8
  refine ⟨fun x1 x2 x5 x6 G => u = x1 ∧ H.length = x2 ∧ .slice (some ⟨H1.length, 0, none⟩) es.length (es.length + 1) = x5 ∧ H1.le G ∧ ∃ i : Nat, x6 = i ∧ i ≤ ls.length ∧ Own G H1.length 2 (LI (cntL es.length (ls.take i).flatten)) ∧ ∀ j, j < i → cycB n es (ls.getD j []) = true, fun _ _ _ x6 _ => ls.length - x6.toNat, ⟨rfl, rfl, rfl, l2, 0, rfl, by omega, o2, fun j hj => absurd hj (by omega)⟩, ?_⟩
  rintro x1 x2 x5 x6 G ⟨rfl, rfl, rfl, hG, i, rfl, hi, oC, hp⟩
  have lG := AHeap.le_trans l1 hG
  have oG := o1.le hG
  unfold F50.B17
  refine (hr.le lG).len (pif_cases (fun hb => ?_) fun hb => ?_)
  · have hlt : i < ls.length := by have := of_decide_eq_true hb; omega
    have hs : IsS (ls.getD i []) es.length := by rw [getD_of hlt]; exact hS _ (List.getElem_mem hlt)
    have hfl := flat_take_le (ls := ls) (i + 1)
    rw [flat_take hlt, List.length_append] at hfl
    unfold F50.B16
    refine ldI_own oG rfl (ld1_own oG rfl ((hr.le lG).row hlt fun w hw => l07Cycle_ok (h.le lG) hg hw hs fun G2 l2 => asB_mk (pif_cases (fun hb => ?_) fun hb => ?_)))
    · rw [Bool.not_eq_true'] at hb
      unfold F50.B15
      have k := k _ (AHeap.le_trans lG l2)
      unfold dblB at k
      rw [all_no hlt hb, Bool.false_and] at k
      exact k
    · rw [Bool.not_eq_false'] at hb
      unfold F50.B14 F50.L10
      refine ⟨fun x1 x2 x5 x6 x7 G => u = x1 ∧ H.length = x2 ∧ .slice (some ⟨H1.length, 0, none⟩) es.length (es.length + 1) = x5 ∧ (i : Int) = x6 ∧ H1.le G ∧ ∃ t : Nat, x7 = t ∧ t ≤ (ls.getD i []).length ∧ Own G H1.length 2 (LI (cntL es.length ((ls.take i).flatten ++ (ls.getD i []).take t))), fun _ _ _ _ x7 _ => (ls.getD i []).length - x7.toNat, ⟨rfl, rfl, rfl, rfl, AHeap.le_trans hG l2, 0, rfl, by omega, by simpa using oC.le l2⟩, ?_⟩
      rintro x1 x2 x5 x6 x7 G3 ⟨rfl, rfl, rfl, rfl, hG3, t, rfl, ht', oC3⟩
      have lG3 := AHeap.le_trans l1 hG3
      unfold F50.B13
      refine (hr.le lG3).row hlt fun w3 hw3 => hw3.len (pif_cases (fun hb' => ?_) fun hb' => ?_)
      · have htl : t < (ls.getD i []).length := by have := of_decide_eq_true hb'; omega
        have hx := hs.range _ (List.getElem_mem htl)
        unfold F50.B12
        refine (hr.le lG3).row hlt fun w4 hw4 => hw4.rd (by omega) (by omega) ?_
        rw [Int.toNat_natCast, getD_of htl, hsl _ (cntL_length _ _)]
        refine bump_at oC3 hx.1 (by rw [cntL_length]; exact hx.2) (fun c hc => by
          have := cntL_le _ _ c hc
          have h5 : ((ls.getD i []).take t).length ≤ (ls.getD i []).length := List.length_take_le' ..
          rw [List.length_append] at this
          omega) fun G4 b4 o4 => ?_
        rw [← hsl _ (cntL_length _ _)]
        unfold F50.B11
        rw [wrap_id (by omega) (by omega)]
        refine ⟨⟨rfl, rfl, rfl, rfl, b4.le hG3 (Nat.le_refl _), t + 1, by omega, by omega, ?_⟩, show (ls.getD i []).length - ((t : Int) + 1).toNat < (ls.getD i []).length - ((t : Nat) : Int).toNat by omega⟩
        rw [List.take_succ_eq_append_getElem htl, ← List.append_assoc, cntL_snoc]; exact o4
      · have hge : t = (ls.getD i []).length := by have := of_decide_eq_false hb'; omega
        subst hge
        rw [List.take_length] at oC3
        unfold F50.B9
        rw [wrap_id (by omega) (by omega)]
        refine ⟨⟨rfl, rfl, rfl, hG3, i + 1, by omega, by omega, by rw [flat_take hlt]; exact oC3, fun j hj => ?_⟩, by simp; omega⟩
        by_cases e : j = i
        · subst e; exact hb
        · exact hp j (by omega)
  · have hge : i = ls.length := by have := of_decide_eq_false hb; omega
    subst hge
    rw [List.take_length] at oC
    have hall : ls.all (cycB n es) = true := by
      rw [List.all_eq_true]
      intro l hl
      obtain ⟨j, hj, rfl⟩ := List.getElem_of_mem hl
      have := hp j hj
      rwa [getD_of hj] at this
    have hC := own_ints (c := es.length + 1) oC
    rw [cntL_length] at hC
    have k := k _ lG
    unfold dblB at k
    rw [hall, Bool.true_and] at k
    unfold F50.B7 F50.L2
    refine ⟨fun x5 x8 G' => .slice (some ⟨H1.length, 0, none⟩) es.length (es.length + 1) = x5 ∧ G = G' ∧ ∃ e : Nat, x8 = e ∧ e ≤ es.length ∧ ∀ j, j < e → (cntL es.length ls.flatten).getD j 0 = 2, fun _ x8 _ => es.length - x8.toNat, ⟨rfl, rfl, 0, rfl, by omega, fun j hj => absurd hj (by omega)⟩, ?_⟩
    rintro x5 x8 G' ⟨rfl, rfl, e, rfl, he, hq⟩
    unfold F50.B6
    refine lenK_of (pif_cases (fun hb => ?_) fun hb => ?_)
    · have hlt : e < es.length := by have := of_decide_eq_true hb; omega
      have hlt2 : e < (cntL es.length ls.flatten).length := by rw [cntL_length]; exact hlt
      unfold F50.B5
      refine hC.rd (by omega) (by omega) ?_
      rw [Int.toNat_natCast]
      refine pif_cases (fun hs => ?_) fun hs => ?_
      · unfold F50.B4
        rw [show (cntL es.length ls.flatten).all (fun c => c == 2) = false from by
          cases ha : (cntL es.length ls.flatten).all (fun c => c == 2) with
          | false => rfl
          | true =>
            rw [List.all_eq_true] at ha
            have := ha _ (List.getElem_mem hlt2)
            rw [← getD_of (d := 0) hlt2] at this
            rw [beq_iff_eq.1 this] at hs; cases hs] at k
        exact k
      · unfold F50.B3
        rw [wrap_id (by omega) (by omega)]
        refine ⟨⟨rfl, rfl, e + 1, by omega, by omega, fun j hj => ?_⟩, by simp; omega⟩
        by_cases e' : j = e
        · subst e'; exact bne_eq_false_iff_eq.1 hs
        · exact hq j (by omega)
    · have hge : e = es.length := by have := of_decide_eq_false hb; omega
      subst hge
      unfold F50.B1
      rw [show (cntL es.length ls.flatten).all (fun c => c == 2) = true from by
        rw [List.all_eq_true]
        intro c hc
        obtain ⟨j, hj, rfl⟩ := List.getElem_of_mem hc
        have := hq j (by rw [cntL_length] at hj; exact hj)
        rw [getD_of hj] at this
        rw [this]; rfl] at k
      exact k

theorem isTwo_cl : ∀ c : Int, Cl H (.func (.func 93) ⟨[]⟩ ⟨[]⟩) (.int .i64 c) (c == 2) := by
  intro c G hG K k
  refine callV_mk ?_
  apply F93.ac
  unfold F93.B2 F93.B1
  exact k _ (AHeap.le_refl _)
theorem isDouble_ok {n : Int} (h : Edges H v es) (hg : IsG n es) (hr : RowsR H u ls) (hrl : ls.length ≤ 1048576) (ht : totL ls ≤ 1048576) (hS : SetsB es ls) (k : ∀ G, H.le G → K (.bool (dblB n es ls)) G) :
    AC Try.prog T0 56 [.agg ⟨[.int .i64 n, v]⟩, u] H K := by
  have h30 : es.length ≤ 30 := by have := hg.ed.len; have := hg.ed.hi; omega
  apply F56.ac
  unfold F56.B16
  refine newK_f (all_iv (edges_one' h)) fun H1 l1 n1 o1 => ?_
  unfold F56.B15
  refine ld1_own o1 rfl ((h.le l1).len (mkR_int (by omega) (by omega) (by decide) fun H2 l2 n2 o2 => ?_))
  rw [Int.toNat_natCast, rep_one] at o2
  rw [Int.toNat_natCast]
  have hsl : ∀ cs : List Int, cs.length = es.length → (.slice (some ⟨H1.length, 0, none⟩) es.length (es.length + 1) : Value) = .slice (some ⟨H1.length, 0, none⟩) cs.length (cs.length + 1) := fun cs h => by rw [h]
  unfold F56.B14
  refine (hr.le (AHeap.le_trans l1 l2)).len ?_
  unfold F56.L2
  refine ⟨fun x2 x5 x14 x15 x16 G => H.length = x2 ∧ .slice (some ⟨H1.length, 0, none⟩) es.length (es.length + 1) = x5 ∧ u = x14 ∧ (ls.length : Int) = x15 ∧ H1.le G ∧ ∃ i : Nat, x16 = i ∧ i ≤ ls.length ∧ Own G H1.length 3 (LI (cntL es.length (ls.take i).flatten)) ∧ ∀ j, j < i → cycB n es (ls.getD j []) = true, fun _ _ _ _ x16 _ => ls.length - x16.toNat, ⟨rfl, rfl, rfl, rfl, l2, 0, rfl, by omega, o2, fun j hj => absurd hj (by omega)⟩, ?_⟩
  rintro x2 x5 x14 x15 x16 G ⟨rfl, rfl, rfl, rfl, hG, i, rfl, hi, oC, hp⟩
  have lG := AHeap.le_trans l1 hG
  have oG := o1.le hG
  unfold F56.B13
  refine pif_cases (fun hb => ?_) fun hb => ?_
  · have hlt : i < ls.length := by have := of_decide_eq_true hb; omega
    have hs : IsS (ls.getD i []) es.length := by rw [getD_of hlt]; exact hS _ (List.getElem_mem hlt)
    have hfl := flat_take_le (ls := ls) (i + 1)
    rw [flat_take hlt, List.length_append] at hfl
    have hss := hs.short
    unfold F56.B12
    refine hr.rowB lG hlt fun w hw0 => ?_
    have hw := hw0.le lG
    unfold F56.B11
    refine ldI_own oG rfl (ld1_own oG rfl (setOf_ok hw (by omega) (fun x hx => by have := hs.range x hx; omega) (asI_mk ⟨AHeap.le_refl _, isCycle_ok (h.le lG) hg hs fun G2 l2 => asB_mk (pif_cases (fun hb => ?_) fun hb => ?_)⟩)))
    · rw [Bool.not_eq_true'] at hb
      unfold F56.B10
      have k := k _ (AHeap.le_trans lG l2)
      unfold dblB at k
      rw [all_no hlt hb, Bool.false_and] at k
      exact k
    · rw [Bool.not_eq_false'] at hb
      unfold F56.B9
      have hw2 := hw.le l2
      refine hw2.len ?_
      unfold F56.L4
      refine ⟨fun x2 x5 x14 x15 x16 x25 x26 x27 G => H.length = x2 ∧ .slice (some ⟨H1.length, 0, none⟩) es.length (es.length + 1) = x5 ∧ u = x14 ∧ (ls.length : Int) = x15 ∧ (i : Int) = x16 ∧ w = x25 ∧ ((ls.getD i []).length : Int) = x26 ∧ H1.le G ∧ ∃ t : Nat, x27 = t ∧ t ≤ (ls.getD i []).length ∧ Own G H1.length 3 (LI (cntL es.length ((ls.take i).flatten ++ (ls.getD i []).take t))), fun _ _ _ _ _ _ _ x27 _ => (ls.getD i []).length - x27.toNat, ⟨rfl, rfl, rfl, rfl, rfl, rfl, rfl, AHeap.le_trans hG l2, 0, rfl, by omega, by simpa using oC.le l2⟩, ?_⟩
      rintro x2 x5 x14 x15 x16 x25 x26 x27 G3 ⟨rfl, rfl, rfl, rfl, rfl, rfl, rfl, hG3, t, rfl, ht', oC3⟩
      have hw3 := hw0.le (AHeap.le_trans l1 hG3)
      unfold F56.B8
      refine pif_cases (fun hb' => ?_) fun hb' => ?_
      · have htl : t < (ls.getD i []).length := by have := of_decide_eq_true hb'; omega
        have hx := hs.range _ (List.getElem_mem htl)
        unfold F56.B7
        refine hw3.rd (by omega) (by omega) ?_
        rw [Int.toNat_natCast, getD_of htl]
        unfold F56.B6
        rw [hsl _ (cntL_length _ _)]
        refine bump_at oC3 hx.1 (by rw [cntL_length]; exact hx.2) (fun c hc => by
          have := cntL_le _ _ c hc
          have h5 : ((ls.getD i []).take t).length ≤ (ls.getD i []).length := List.length_take_le' ..
          rw [List.length_append] at this
          omega) fun G4 b4 o4 => ?_
        rw [← hsl _ (cntL_length _ _)]
        unfold F56.B5
        rw [wrap_id (by omega) (by omega)]
        have l4 := b4.le hG3 (Nat.le_refl _)
        refine ⟨⟨rfl, rfl, rfl, rfl, rfl, rfl, rfl, l4, t + 1, by omega, by omega, ?_⟩, show (ls.getD i []).length - ((t : Int) + 1).toNat < (ls.getD i []).length - ((t : Nat) : Int).toNat by omega⟩
        · rw [List.take_succ_eq_append_getElem htl, ← List.append_assoc, cntL_snoc]; exact o4
      · have hge : t = (ls.getD i []).length := by have := of_decide_eq_false hb'; omega
        subst hge
        rw [List.take_length] at oC3
        unfold F56.B3
        rw [wrap_id (by omega) (by omega)]
        refine ⟨⟨rfl, rfl, rfl, rfl, hG3, i + 1, by omega, by omega, by rw [flat_take hlt]; exact oC3, fun j hj => ?_⟩, by simp; omega⟩
        by_cases e : j = i
        · subst e; exact hb
        · exact hp j (by omega)
  · have hge : i = ls.length := by have := of_decide_eq_false hb; omega
    subst hge
    rw [List.take_length] at oC
    have hall : ls.all (cycB n es) = true := by
      rw [List.all_eq_true]
      intro l hl
      obtain ⟨j, hj, rfl⟩ := List.getElem_of_mem hl
      have := hp j hj
      rwa [getD_of hj] at this
    have hC := own_ints (c := es.length + 1) oC
    rw [cntL_length] at hC
    unfold F56.B1
    refine areAllI_ok (p := fun c => c == 2) hC (by rw [cntL_length]; omega) rfl (fun c _ => isTwo_cl c) fun G2 l2 => asB_mk ?_
    have k := k _ (AHeap.le_trans lG l2)
    unfold dblB at k
    rw [hall, Bool.true_and] at k
    exact k

noncomputable def dcCode (n : Int) (es : List (Int × Int)) (ls : List (List Int)) : Int := if IsG n es then (if SetsB es ls then 0 else 2) else 1
theorem dcCode_zero {n : Int} (h : dcCode n es ls = 0) : IsG n es ∧ SetsB es ls := by
  unfold dcCode at h
  by_cases hg : IsG n es
  · rw [if_pos hg] at h
    by_cases hs : SetsB es ls
    · exact ⟨hg, hs⟩
    · rw [if_neg hs] at h; cases h
  · rw [if_neg hg] at h; cases h
theorem tot_row {l : List Int} (h : l ∈ ls) : l.length ≤ totL ls := by
  induction ls with
  | nil => cases h
  | cons a ls ih =>
    rcases List.mem_cons.1 h with rfl | h
    · simp [totL]
    · have := ih h
      simp [totL] at this ⊢; omega
end Go.Proofs
/- IsOrientedBy: the reference. -/
set_option linter.unusedVariables false
set_option linter.unusedSimpArgs false
set_option maxRecDepth 100000
namespace Go.Proofs
open Go.Abs

variable {H G : AHeap} {v u w f : Value} {l m c D ts : List Int} {es fs : List (Int × Int)} {K : Value → AHeap → Prop} {p : Nat → Bool} {e : Nat} {n : Int} {ls : List (List Int)}

noncomputable def sgn (es : List (Int × Int)) (ls : List (List Int)) (ts : List Int) (j i : Nat) : Int := if (j : Int) ∈ ls.getD i [] then (if fwB es (ls.getD i []) j == (ts.getD i 0 == 0) then 1 else -1) else 0
noncomputable def sgSum (es : List (Int × Int)) (ls : List (List Int)) (ts : List Int) (j i : Nat) : Int := ((List.range i).map (sgn es ls ts j)).sum
theorem sgSum_succ (j i : Nat) : sgSum es ls ts j (i + 1) = sgSum es ls ts j i + sgn es ls ts j i := by
  unfold sgSum
  rw [List.range_succ, List.map_append, List.sum_append]; simp
theorem sgn_bound (j i : Nat) : -1 ≤ sgn es ls ts j i ∧ sgn es ls ts j i ≤ 1 := by
  unfold sgn
  split
  · split <;> omega
  · omega
theorem sgSum_bound (j : Nat) : ∀ i : Nat, -(i : Int) ≤ sgSum es ls ts j i ∧ sgSum es ls ts j i ≤ i
  | 0 => by simp [sgSum]
  | i + 1 => by
    have h1 := sgSum_bound j i
    have h2 := sgn_bound (es := es) (ls := ls) (ts := ts) j i
    rw [sgSum_succ]; omega
def TurnsOk (ls : List (List Int)) (ts : List Int) : Prop := ts.length = ls.length ∧ ∀ i, i < ts.length → 0 ≤ ts.getD i 0 ∧ ts.getD i 0 ≤ 1
noncomputable instance (ls : List (List Int)) (ts : List Int) : Decidable (TurnsOk ls ts) := Classical.propDecidable _
noncomputable def otCode (n : Int) (es : List (Int × Int)) (ls : List (List Int)) (ts : List Int) : Int := if dcCode n es ls = 0 then (if TurnsOk ls ts then (if dblB n es ls = true then 0 else 5) else 2) else dcCode n es ls
noncomputable def orB (es : List (Int × Int)) (ls : List (List Int)) (ts : List Int) : Bool := @decide (∀ j, j < es.length → sgSum es ls ts j ls.length = 0) (Classical.propDecidable _)
noncomputable def otB (n : Int) (es : List (Int × Int)) (ls : List (List Int)) (ts : List Int) : Bool := if otCode n es ls ts = 0 then orB es ls ts else false
theorem dbl_row (h : dblB n es ls = true) (hl : l ∈ ls) : EvenS n es (bitB l) ∧ (cycOf es (bitB l) l).length = 1 := by
  unfold dblB at h
  rw [Bool.and_eq_true, List.all_eq_true] at h
  have := h.1 l hl
  unfold cycB at this
  rw [Bool.and_eq_true, decide_eq_true_iff, beq_iff_eq] at this
  exact ⟨this.1, by omega⟩
theorem specOr_ok (h : Edges H v es) (hl : es.length ≤ 1048576) (hr : RowsR H u ls) (hrl : ls.length + totL ls ≤ 1048576) (hc : Ints H w ts) (htl : ts.length ≤ 1048576)
    (k : ∀ G, H.le G → K (.tuple ⟨[.bool (otB n es ls ts), .int .i64 (otCode n es ls ts)]⟩) G) : AC Try.prog T0 17 [.agg ⟨[.int .i64 n, v]⟩, u, w] H K := by
  have hrr : ∀ l ∈ ls, l.length ≤ 1048576 := fun l hl => by have := tot_row hl; omega
  apply F17.ac
  unfold F17.B34
  refine newK_f (all_iv (edges_one' h)) fun H1 l1 n1 o1 => ?_
  unfold F17.B33
  refine ldI_own o1 rfl (ld1_own o1 rfl (l07Lists_ok (h.le l1) hl (hr.le l1) (by omega) hrr fun H2 l2 => asI_mk ?_))
  have l12 := AHeap.le_trans l1 l2
  have o2 := o1.le l2
  rw [show (if IsG n es then (if SetsB es ls then 0 else 2) else 1 : Int) = dcCode n es ls from rfl]
  unfold F17.B32
  refine pif_cases (fun hs => ?_) fun hs => ?_
  · unfold F17.B31
    have k := k _ l12
    have e : otCode n es ls ts = dcCode n es ls := by unfold otCode; rw [if_neg (bne_iff_ne.1 hs)]
    unfold otB at k
    rw [e, if_neg (bne_iff_ne.1 hs)] at k; exact k
  have h0 : dcCode n es ls = 0 := bne_eq_false_iff_eq.1 hs
  obtain ⟨hg, hS⟩ := dcCode_zero h0
  have n0 := hg.ed.lo; have n1 := hg.ed.hi
  have h30 : es.length ≤ 30 := by have := hg.ed.len; omega
  have bad : ∀ G, H.le G → ¬ TurnsOk ls ts → K (.tuple ⟨[.bool false, .int .i64 2]⟩) G := fun G hG hn => by
    have k := k G hG
    have e : otCode n es ls ts = 2 := by unfold otCode; rw [if_pos h0, if_neg hn]
    unfold otB at k
    rw [e, if_neg (by decide)] at k; exact k
  unfold F17.B30
  refine (hc.le l12).len ((hr.le l12).len (pif_cases (fun hs => ?_) fun hs => ?_))
  · unfold F17.B29
    exact bad _ l12 fun ht => by have := ht.1; have := bne_iff_ne.1 hs; omega
  have hlen : ts.length = ls.length := by have := bne_eq_false_iff_eq.1 hs; omega
  unfold F17.B28 F17.L23
  refine ⟨fun x1 x2 x3 x9 G => u = x1 ∧ w = x2 ∧ H.length = x3 ∧ H2 = G ∧ ∃ i : Nat, x9 = i ∧ i ≤ ts.length ∧ ∀ j, j < i → 0 ≤ ts.getD j 0 ∧ ts.getD j 0 ≤ 1, fun _ _ _ x9 _ => ts.length - x9.toNat, ⟨rfl, rfl, rfl, rfl, 0, rfl, by omega, fun j hj => absurd hj (by omega)⟩, ?_⟩
  rintro x1 x2 x3 x9 G ⟨rfl, rfl, rfl, rfl, i, rfl, hi, hti⟩
  unfold F17.B27
  refine (hc.le l12).len (pif_cases (fun hb => ?_) fun hb => ?_)
  · have hil : i < ts.length := by have := of_decide_eq_true hb; omega
    unfold F17.B26
    refine (hc.le l12).rd (by omega) (by omega) (l01In_ok (asB_mk (pif_cases (fun hs => ?_) fun hs => ?_)))
    · unfold F17.B25
      rw [Bool.not_eq_true', Int.toNat_natCast] at hs
      exact bad _ l12 fun ht => of_decide_eq_false hs (ht.2 i hil)
    · rw [Bool.not_eq_false', Int.toNat_natCast] at hs
      unfold F17.B24
      rw [wrap_id (by omega) (by omega)]
      refine ⟨⟨rfl, rfl, rfl, rfl, i + 1, by omega, by omega, fun j hj => ?_⟩, by show ts.length - ((i : Int) + 1).toNat < ts.length - (i : Int).toNat; omega⟩
      by_cases e : j = i
      · subst e; exact of_decide_eq_true hs
      · exact hti j (by omega)
  have hge : i = ts.length := by have := of_decide_eq_false hb; omega
  subst hge
  have hT : TurnsOk ls ts := ⟨hlen, hti⟩
  unfold F17.B22
  refine ldI_own o2 rfl (ld1_own o2 rfl (l07Double_ok (h.le l12) hg (hr.le l12) (by omega) (by omega) hS fun H3 l3 => asB_mk (pif_cases (fun hs => ?_) fun hs => ?_)))
  · rw [Bool.not_eq_true'] at hs
    unfold F17.B21
    have k := k _ (AHeap.le_trans l12 l3)
    have e : otCode n es ls ts = 5 := by unfold otCode; rw [if_pos h0, if_pos hT, if_neg (by rw [hs]; decide)]
    unfold otB at k
    rw [e, if_neg (by decide)] at k; exact k
  rw [Bool.not_eq_false'] at hs
  have e0 : otCode n es ls ts = 0 := by unfold otCode; rw [if_pos h0, if_pos hT, if_pos hs]
  unfold otB at k
  rw [if_pos e0, e0] at k
  have l13 := AHeap.le_trans l2 l3
  have o3 := o1.le l13
  unfold F17.B20
  refine ld1_own o3 rfl ((h.le (AHeap.le_trans l1 l13)).len (mkR_int (by omega) (by omega) (by decide) fun H4 l4 n4 o4 => ?_))
  rw [rep_one, Int.toNat_natCast] at o4
  rw [Int.toNat_natCast]
  obtain ⟨bz, hbz⟩ : ∃ bz, bz = H3.length := ⟨_, rfl⟩
  rw [← hbz] at o4 ⊢
  have hl13 := l13.1
  unfold F17.B19 F17.L8
  refine ⟨fun x1 x2 x3 x10 x11 G => u = x1 ∧ w = x2 ∧ H.length = x3 ∧ .slice (some ⟨bz, 0, none⟩) es.length (es.length + 1) = x10 ∧ H1.le G ∧ ∃ (i : Nat) (Z : List Int), x11 = i ∧ i ≤ ls.length ∧ Z.length = es.length ∧ Own G bz 2 (LI Z) ∧ ∀ j, j < es.length → Z.getD j 0 = sgSum es ls ts j i,
    fun _ _ _ _ x11 _ => ls.length - x11.toNat, ⟨rfl, rfl, rfl, rfl, AHeap.le_trans l13 l4, 0, _, rfl, by omega, by simp, o4, fun j hj => by simp [sgSum, List.getD, hj]⟩, ?_⟩
  rintro x1 x2 x3 x10 x11 G ⟨rfl, rfl, rfl, rfl, lG, i, Z, rfl, hi, hZ, oZ, hZi⟩
  have l0G := AHeap.le_trans l1 lG
  have oG := o1.le lG
  unfold F17.B18
  refine (hr.le l0G).len (pif_cases (fun hb => ?_) fun hb => ?_)
  · have hil : i < ls.length := by have := of_decide_eq_true hb; omega
    have hmem : ls.getD i [] ∈ ls := by rw [getD_of hil]; exact List.getElem_mem hil
    have hsI := hS _ hmem
    obtain ⟨hE, h1c⟩ := dbl_row hs hmem
    have hnd := asc_nodup hsI.asc
    have hshort := hsI.short2
    unfold F17.B17
    refine ldI_own oG rfl (ld1_own oG rfl ((hr.le l0G).row hil fun q hq => forward_ok (h.le l0G) hg hq hsI hE h1c fun wF Fl G2 l5 fF hFl hFi => ?_))
    have hbzG : bz < G.length := lt_of_get oZ
    unfold F17.B16 F17.L10
    refine ⟨fun x1 x2 x3 x10 x11 x12 x13 G' => u = x1 ∧ w = x2 ∧ H.length = x3 ∧ .slice (some ⟨bz, 0, none⟩) es.length (es.length + 1) = x10 ∧ ((i : Nat) : Int) = x11 ∧ wF = x12 ∧ H1.le G' ∧ Sl G.length G' wF 4 1 (LB Fl) ∧ ∃ (t : Nat) (Z : List Int), x13 = t ∧ t ≤ (ls.getD i []).length ∧ Z.length = es.length ∧ Own G' bz 2 (LI Z) ∧ ∀ j, j < es.length → Z.getD j 0 = sgSum es ls ts j i + if (j : Int) ∈ (ls.getD i []).take t then sgn es ls ts j i else 0,
      fun _ _ _ _ _ _ x13 _ => (ls.getD i []).length - x13.toNat, ⟨rfl, rfl, rfl, rfl, rfl, rfl, AHeap.le_trans lG l5, fF.sl, 0, Z, rfl, by omega, hZ, oZ.le l5, fun j hj => by rw [List.take_zero, if_neg (by simp), Int.add_zero]; exact hZi j hj⟩, ?_⟩
    clear oZ hZi hZ
    rintro x1 x2 x3 x10 x11 x12 x13 G3 ⟨rfl, rfl, rfl, rfl, rfl, rfl, lG3, sF, t, Z, rfl, ht, hZ, oZ, hZi⟩
    have l0G3 := AHeap.le_trans l1 lG3
    unfold F17.B15
    refine (hr.le l0G3).row hil fun q hq => hq.len (pif_cases (fun hb => ?_) fun hb => ?_)
    · have htl : t < (ls.getD i []).length := by have := of_decide_eq_true hb; omega
      have hx := hsI.range _ (List.getElem_mem htl)
      obtain ⟨j, hj⟩ : ∃ j : Nat, (ls.getD i [])[t] = j := ⟨((ls.getD i [])[t]).toNat, by omega⟩
      have hjl : j < es.length := by omega
      have hgt : (ls.getD i []).getD t 0 = (j : Int) := by rw [getD_of htl, hj]
      have hjin : (j : Int) ∈ ls.getD i [] := by rw [← hj]; exact List.getElem_mem htl
      have hFt : Fl.getD t false = fwB es (ls.getD i []) j := by rw [hFi t htl, hgt, Int.toNat_natCast]
      have hsg : sgn es ls ts j i = if fwB es (ls.getD i []) j == (ts.getD i 0 == 0) then 1 else -1 := by unfold sgn; rw [if_pos hjin]
      have oi := own_ints (c := es.length + 1) oZ
      rw [hZ] at oi
      have hjn : (j : Int) ∉ (ls.getD i []).take t := fun hm => by
        obtain ⟨s, hs1, hs2⟩ := List.getElem_of_mem hm
        rw [List.length_take] at hs1
        rw [List.getElem_take, ← hj] at hs2
        have := (List.getElem_inj hnd).1 hs2
        omega
      have hZj : Z.getD j 0 = sgSum es ls ts j i := by rw [hZi j hjl, if_neg hjn, Int.add_zero]
      have hbd := sgSum_bound (es := es) (ls := ls) (ts := ts) j i
      have next : ∀ (b : Int) (G4 : AHeap), sgn es ls ts j i = b → But bz G3 G4 → Own G4 bz 2 (LI (Z.set j (sgSum es ls ts j i + b))) → H1.le G4 ∧ Sl G.length G4 wF 4 1 (LB Fl) ∧ ∃ (t' : Nat) (Z : List Int), ((t : Int) + 1) = t' ∧ t' ≤ (ls.getD i []).length ∧ Z.length = es.length ∧ Own G4 bz 2 (LI Z) ∧ ∀ j, j < es.length → Z.getD j 0 = sgSum es ls ts j i + if (j : Int) ∈ (ls.getD i []).take t' then sgn es ls ts j i else 0 := by
        intro b G4 hb b4 o5
        refine ⟨b4.le lG3 (by omega), sF.but b4 hbzG, t + 1, _, by omega, by omega, by simpa using hZ, o5, fun j' hj' => ?_⟩
        have hmt : ∀ x, x ∈ (ls.getD i []).take (t + 1) ↔ x ∈ (ls.getD i []).take t ∨ x = (j : Int) := fun x => by
          rw [List.take_succ_eq_append_getElem htl, List.mem_append, List.mem_singleton, hj]
        by_cases e : j = j'
        · subst e
          rw [getD_set_self (by omega), if_pos ((hmt _).2 (.inr rfl)), hb]
        · rw [getD_set_ne e, hZi j' hj']
          congr 1
          by_cases hm : (j' : Int) ∈ (ls.getD i []).take t
          · rw [if_pos hm, if_pos ((hmt _).2 (.inl hm))]
          · rw [if_neg hm, if_neg (fun h => ((hmt _).1 h).elim hm fun h => e (by omega))]
      unfold F17.B14
      refine Sl_rd sF (by omega) (by simp; omega) (by rw [Int.toNat_natCast]; exact LB_get (by omega)) (asB_mk ((hc.le l0G3).rd (by omega) (by omega) ?_))
      rw [Int.toNat_natCast, hFt]
      refine pif_cases (fun hq => ?_) fun hq => ?_
      · rw [hq, if_pos rfl] at hsg
        unfold F17.B12
        refine (hr.le l0G3).row hil fun q hq => hq.rd (by omega) (by omega) ?_
        rw [Int.toNat_natCast, hgt]
        refine oi.rd (by omega) (by omega) ?_
        rw [Int.toNat_natCast, hZj, wrap_id (by omega) (by omega)]
        refine own_idx (by omega) (by omega) (stK_1 oZ (by simp; omega) rfl fun G4 b4 o5 => ?_)
        rw [Int.toNat_natCast, ← List.map_set] at o5
        unfold F17.B11
        rw [wrap_id (by omega) (by omega)]
        exact ⟨⟨rfl, rfl, rfl, rfl, rfl, rfl, next 1 G4 hsg b4 o5⟩, by show (ls.getD i []).length - ((t : Int) + 1).toNat < (ls.getD i []).length - (t : Int).toNat; omega⟩
      · rw [hq, if_neg (by decide)] at hsg
        unfold F17.B13
        refine (hr.le l0G3).row hil fun q hq => hq.rd (by omega) (by omega) ?_
        rw [Int.toNat_natCast, hgt]
        refine oi.rd (by omega) (by omega) ?_
        rw [Int.toNat_natCast, hZj, wrap_id (by omega) (by omega)]
        refine own_idx (by omega) (by omega) (stK_1 oZ (by simp; omega) rfl fun G4 b4 o5 => ?_)
        rw [Int.toNat_natCast, ← List.map_set] at o5
        unfold F17.B11
        rw [wrap_id (by omega) (by omega)]
        exact ⟨⟨rfl, rfl, rfl, rfl, rfl, rfl, next (-1) G4 hsg b4 o5⟩, by show (ls.getD i []).length - ((t : Int) + 1).toNat < (ls.getD i []).length - (t : Int).toNat; omega⟩
    · have hte : t = (ls.getD i []).length := by have := of_decide_eq_false hb; omega
      subst hte
      unfold F17.B9
      rw [wrap_id (by omega) (by omega)]
      refine ⟨⟨rfl, rfl, rfl, rfl, lG3, i + 1, Z, by omega, by omega, hZ, oZ, fun j hj => ?_⟩, by show ls.length - ((i : Int) + 1).toNat < ls.length - (i : Int).toNat; omega⟩
      rw [hZi j hj, List.take_length, sgSum_succ]
      congr 1
      unfold sgn
      by_cases hm : (j : Int) ∈ ls.getD i []
      · rw [if_pos hm]
      · rw [if_neg hm, if_neg hm]
  · have hie : i = ls.length := by have := of_decide_eq_false hb; omega
    subst hie
    have oi := own_ints (c := es.length + 1) oZ
    rw [hZ] at oi
    unfold F17.B7 F17.L2
    refine ⟨fun x10 x14 G' => .slice (some ⟨bz, 0, none⟩) es.length (es.length + 1) = x10 ∧ G = G' ∧ ∃ q : Nat, x14 = q ∧ q ≤ es.length ∧ ∀ j, j < q → sgSum es ls ts j ls.length = 0, fun _ x14 _ => es.length - x14.toNat, ⟨rfl, rfl, 0, rfl, by omega, fun j hj => absurd hj (by omega)⟩, ?_⟩
    rintro x10 x14 G' ⟨rfl, rfl, q, rfl, hq, hz⟩
    have k := k G l0G
    unfold F17.B6
    refine lenK_of (pif_cases (fun hb => ?_) fun hb => ?_)
    · have hql : q < es.length := by have := of_decide_eq_true hb; omega
      unfold F17.B5
      refine oi.rd (by omega) (by omega) ?_
      rw [Int.toNat_natCast, hZi q hql]
      refine pif_cases (fun hs => ?_) fun hs => ?_
      · unfold F17.B4
        have : orB es ls ts = false := by unfold orB; exact @decide_eq_false _ (Classical.propDecidable _) fun hh => bne_iff_ne.1 hs (hh q hql)
        rw [this] at k; exact k
      · unfold F17.B3
        rw [wrap_id (by omega) (by omega)]
        refine ⟨⟨rfl, rfl, q + 1, by omega, by omega, fun j hj => ?_⟩, by show es.length - ((q : Int) + 1).toNat < es.length - (q : Int).toNat; omega⟩
        by_cases e : j = q
        · subst e; exact bne_eq_false_iff_eq.1 hs
        · exact hz j (by omega)
    · have hql : q = es.length := by have := of_decide_eq_false hb; omega
      subst hql
      unfold F17.B1
      have : orB es ls ts = true := by unfold orB; exact @decide_eq_true _ (Classical.propDecidable _) hz
      rw [this] at k; exact k
end Go.Proofs
/- Contracts: chains, the reference's way; lists of one's own. -/
set_option linter.unusedVariables false
set_option linter.unusedSimpArgs false
set_option maxRecDepth 100000
namespace Go.Proofs
open Go.Abs

variable {H : AHeap} {v u f : Value} {l m c : List Int} {es fs : List (Int × Int)} {K : Value → AHeap → Prop}

end Go.Proofs
/- Contracts: the place of the least bit, by a table. -/
set_option linter.unusedVariables false
set_option linter.unusedSimpArgs false
set_option maxRecDepth 100000
namespace Go.Proofs
open Go.Abs

variable {H G : AHeap} {K : Value → AHeap → Prop}

def dbj : List Int := [0, 1, 56, 2, 57, 49, 28, 3, 61, 58, 42, 50, 38, 29, 17, 4, 62, 47, 59, 36, 45, 43, 51, 22, 53, 39, 33, 30, 24, 18, 12, 5, 63, 55, 48, 27, 60, 41, 37, 16, 46, 35, 44, 21, 52, 32, 23, 11, 54, 26, 40, 15, 34, 20, 31, 10, 25, 14, 19, 9, 13, 8, 7, 6]
/-- The table is among the variables. -/
def Tab (H : AHeap) : Prop := ∃ e own, H[0]? = some (some (.row (dbj.map (Value.int .u8)) e own))
theorem Tab.le (h : Tab H) (hl : H.le G) : Tab G := by
  obtain ⟨e, o, h⟩ := h; exact ⟨e, o, hl.2 _ _ h⟩
end Go.Proofs
/- Contracts: a function called with all matchings, in order. -/
set_option linter.unusedVariables false
set_option linter.unusedSimpArgs false
set_option maxRecDepth 100000
namespace Go.Proofs
open Go.Abs

variable {H G : AHeap}

/-- What is nobody's own lives on; what becomes somebody's own is new. -/
structure Fr (P : Nat → Prop) (G : AHeap) (P' : Nat → Prop) (G' : AHeap) : Prop where
  len : G.length ≤ G'.length
  own : ∀ b, P' b → P b ∨ G.length ≤ b
  old : ∀ (b : Nat) (o : AObj), ¬ P b → G[b]? = some (some o) → G'[b]? = some (some o)
theorem Fr.le {P : Nat → Prop} {G G' : AHeap} (h : G.le G') : Fr P G P G' := ⟨h.1, fun b hb => .inl hb, fun b o _ ho => h.2 b o ho⟩
theorem Fr.refl {P : Nat → Prop} {G : AHeap} : Fr P G P G := Fr.le (AHeap.le_refl _)
theorem Fr.trans {P P1 P2 : Nat → Prop} {G G1 G2 : AHeap} (h : Fr P G P1 G1) (k : Fr P1 G1 P2 G2) : Fr P G P2 G2 := by
  refine ⟨Nat.le_trans h.len k.len, fun b hb => ?_, fun b o hn ho => k.old b o (fun h1 => ?_) (h.old b o hn ho)⟩
  · rcases k.own b hb with h1 | h1
    · exact h.own b h1
    · exact .inr (Nat.le_trans h.len h1)
  · rcases h.own b h1 with h2 | h2
    · exact hn h2
    · have := lt_of_get ho; omega
theorem Fr.sl {P P' : Nat → Prop} {G G' : AHeap} {m : Nat} {v : Value} {t : TypeId} {z : Nat} {cs : List Value} (h : Fr P G P' G') (hs : Sl m G v t z cs) (hn : ∀ b, bk v = some b → ¬ P b) : Sl m G' v t z cs := by
  rcases hs with hs | ⟨b, n, pre, post, h1, rfl, h3, h4⟩
  · exact .inl hs
  · exact .inr ⟨b, n, pre, post, h1, rfl, h.old b _ (hn b rfl) h3, h4⟩

end Go.Proofs
/- Contracts: all matchings, the reference's way. -/
set_option linter.unusedVariables false
set_option linter.unusedSimpArgs false
set_option maxRecDepth 100000
namespace Go.Proofs
open Go.Abs

variable {H G : AHeap} {v u f : Value} {l m c D : List Int} {es fs : List (Int × Int)} {K : Value → AHeap → Prop} {A A' : Nat → Prop} {B : Nat} {ls ms : List (List Int)}

end Go.Proofs
/- Contracts: free edges, both sides. -/
set_option linter.unusedVariables false
set_option linter.unusedSimpArgs false
set_option maxRecDepth 100000
namespace Go.Proofs
open Go.Abs

variable {H G : AHeap} {v u f : Value} {l m c D : List Int} {es fs : List (Int × Int)} {K : Value → AHeap → Prop} {A A' : Nat → Prop} {B : Nat} {ls ms : List (List Int)}

end Go.Proofs
/- Contracts: the cycles that a matching leaves, the reference's way: their lengths. -/
set_option linter.unusedVariables false
set_option linter.unusedSimpArgs false
set_option maxRecDepth 100000
namespace Go.Proofs
open Go.Abs

variable {H G : AHeap} {v u f : Value} {l m c D : List Int} {es fs : List (Int × Int)} {K : Value → AHeap → Prop} {A A' : Nat → Prop} {B : Nat} {ls ms : List (List Int)}

/-- Edges of cycles with a least edge less than k. -/
def ETo (es : List (Int × Int)) (p : Nat → Bool) (k j : Nat) : Prop := p j = true ∧ ∃ a, a < k ∧ p a = true ∧ Rch (eAdj es p) a j
theorem ETo.lead {p : Nat → Bool} {k : Nat} (hp : p k = true) : ETo es p k k ↔ cLeadB es p k = false := by
  rw [← Bool.not_eq_true, cLeadB_iff]
  unfold cLead ETo
  constructor
  · rintro ⟨_, a, h1, h2, h3⟩ h
    exact h a h1 h2 h3
  · intro h
    refine ⟨hp, Classical.byContradiction fun hn => h fun j h1 h2 h3 => hn ⟨j, h1, h2, h3⟩⟩
theorem ETo.succ {p : Nat → Bool} {k j : Nat} : ETo es p (k + 1) j ↔ ETo es p k j ∨ (p k = true ∧ p j = true ∧ Rch (eAdj es p) k j) := by
  unfold ETo
  constructor
  · rintro ⟨h0, a, h1, h2, h3⟩
    by_cases e : a = k
    · subst e; exact .inr ⟨h2, h0, h3⟩
    · exact .inl ⟨h0, a, by omega, h2, h3⟩
  · rintro (⟨h0, a, h1, h2, h3⟩ | ⟨h1, h2, h3⟩)
    · exact ⟨h0, a, by omega, h2, h3⟩
    · exact ⟨h2, k, by omega, h1, h3⟩
theorem ETo.skip {p : Nat → Bool} {k j : Nat} (h : ETo es p k k ∨ p k = false) : ETo es p (k + 1) j ↔ ETo es p k j := by
  rw [ETo.succ]
  refine ⟨fun h' => h'.elim id fun ⟨h1, h2, h3⟩ => ?_, .inl⟩
  rcases h with ⟨_, a, g1, g2, g3⟩ | h
  · exact ⟨h2, a, g1, g2, g3.trans h3⟩
  · rw [h] at h1; cases h1
end Go.Proofs
/- Contracts: numbers of odd cycles; best matchings, both sides. -/
set_option linter.unusedVariables false
set_option linter.unusedSimpArgs false
set_option maxRecDepth 100000
namespace Go.Proofs
open Go.Abs

variable {H G : AHeap} {v u f : Value} {l m c D : List Int} {es fs : List (Int × Int)} {K : Value → AHeap → Prop} {A A' : Nat → Prop} {B : Nat} {ls ms cs : List (List Int)}

section
variable {p p' : Nat → Bool}
end
end Go.Proofs
/- Contracts: the cycles that a matching leaves, the reference's way, as lists. -/
set_option linter.unusedVariables false
set_option linter.unusedSimpArgs false
set_option maxRecDepth 100000
namespace Go.Proofs
open Go.Abs

variable {H G : AHeap} {v u f : Value} {l m c D : List Int} {es fs : List (Int × Int)} {K : Value → AHeap → Prop} {A A' : Nat → Prop} {B : Nat} {ls ms : List (List Int)}

end Go.Proofs
/- Contracts: matchings, both sides. -/
set_option linter.unusedVariables false
set_option linter.unusedSimpArgs false
set_option maxRecDepth 100000
namespace Go.Proofs
open Go.Abs

variable {H : AHeap} {v u f : Value} {l m c : List Int} {es fs : List (Int × Int)} {K : Value → AHeap → Prop}

end Go.Proofs
/- Contracts: colourings of matchings, both sides. -/
set_option linter.unusedVariables false
set_option linter.unusedSimpArgs false
set_option maxRecDepth 100000
namespace Go.Proofs
open Go.Abs

variable {H G : AHeap} {v u f : Value} {l m c D : List Int} {es fs : List (Int × Int)} {K : Value → AHeap → Prop} {A A' : Nat → Prop} {B : Nat} {ls ms cs : List (List Int)}

end Go.Proofs
/- Contracts: colourings of matchings, the program's way. -/
set_option linter.unusedVariables false
set_option linter.unusedSimpArgs false
set_option maxRecDepth 100000
namespace Go.Proofs
open Go.Abs

variable {H G : AHeap} {v u f : Value} {l m c D : List Int} {es fs : List (Int × Int)} {K : Value → AHeap → Prop} {cs : List (List Int)}

theorem LD_get : ∀ (ds : List (Nat × Bool)) (i : Nat) (hi : i < ds.length), (LD ds)[i * 2]? = some (.int .i64 ((ds.getD i (0, false)).1 : Nat)) ∧ (LD ds)[i * 2 + 1]? = some (.bool (ds.getD i (0, false)).2)
  | d :: ds, 0, _ => ⟨rfl, rfl⟩
  | d :: ds, i + 1, hi => by
    have ih := LD_get ds i (by simpa using hi)
    have e : LD (d :: ds) = .int .i64 (d.1 : Nat) :: .bool d.2 :: LD ds := rfl
    rw [e, show (i + 1) * 2 = i * 2 + 1 + 1 by omega]
    exact ih
theorem LD_idx {mm : Nat} {t : TypeId} {ds : List (Nat × Bool)} (h : Fresh mm G v t 2 (LD ds)) {i : Nat} (hi : i < ds.length) : ∃ b o, (∀ K : Nat → Nat → Prop, K b o → idxK v (i : Int) 2 K) ∧ G.cell b o = some (.int .i64 ((ds.getD i (0, false)).1 : Nat)) ∧ G.cell b (o + 1) = some (.bool (ds.getD i (0, false)).2) := by
  have hl := LD_length ds
  obtain ⟨g1, g2⟩ := LD_get ds i hi
  rcases h with ⟨h0, _⟩ | ⟨b, n, _, rfl, h3, h4⟩
  · rw [h0] at hl; simp at hl; omega
  · refine ⟨b, i * 2, fun K k => ⟨by omega, by omega, by simpa using k⟩, ?_, ?_⟩
    · rw [cell_own h3]; exact g1
    · rw [cell_own h3]; exact g2

end Go.Proofs
/- Maps of one's own whose keys are directed edges. -/
set_option linter.unusedVariables false
set_option linter.unusedSimpArgs false
set_option maxRecDepth 100000
namespace Go.Proofs
open Go.Abs

variable {H G : AHeap}

theorem keyOf_two {P : Program} {k : TypeId} {f1 f2 : Field} (hU : P.underlying k = some (.struct #[f1, f2])) (h1 : P.underlying f1.type = some (.int .i64)) (h2 : P.underlying f2.type = some .bool) (o1 : f1.offset = 0) (o2 : f2.offset = 1)
    (c0 : P.cellsOf k = 2) (c1 : P.cellsOf f1.type = 1) (c2 : P.cellsOf f2.type = 1) (m1 : (f1.name != "_") = true) (m2 : (f2.name != "_") = true) (hk : P.keyType k = true) (hs : P.types.size ≠ 0) {n : Int} {b : Bool} (hn : (Lit.int .i64 n).wf = true) :
    ∃ l, keyOf P k (.agg ⟨[.int .i64 n, .bool b]⟩) = some l := by
  obtain ⟨d, hd⟩ : ∃ d, P.types.size = d + 1 := ⟨P.types.size - 1, by omega⟩
  have e1 : P.keyLits (d + 1) f1.type [.int .i64 n] = some [.int .i64 n] := by simp [Program.keyLits, h1, hn]
  have e2 : P.keyLits (d + 1) f2.type [.bool b] = some [.bool b] := by simp [Program.keyLits, h2]
  have e3 : P.keyLits (d + 1 + 1) k [.int .i64 n, .bool b] = some [.int .i64 n, .bool b] := by
    have m1' : ¬ f1.name = "_" := by simpa using m1
    have m2' : ¬ f2.name = "_" := by simpa using m2
    have g1 : P.keyLits (d + 1) f1.type [.int .i64 n] = some [.int .i64 n] := e1
    unfold Program.keyLits
    simp only [hU]
    rw [if_pos ⟨by simp [c0], by simp [m1', m2']⟩]
    simp [o1, o2, c1, c2, e1, e2]
  unfold keyOf
  rw [hU]
  have hf : Value.formed P k (.agg ⟨[.int .i64 n, .bool b]⟩) = true := by simp [Value.formed, hU, c0]
  simp only [hk, hf, Bool.and_self, if_true]
  rw [hd]
  have e4 : (Value.agg ⟨[.int .i64 n, .bool b]⟩).cells.toList = [.int .i64 n, .bool b] := rfl
  rw [e4, e3]
  exact ⟨_, rfl⟩
noncomputable def dirFs : Array Field := match Try.prog.underlying 85 with | some (.struct fs) => fs | _ => #[]
noncomputable def dirF (i : Nat) : Field := dirFs.toList.getD i default
abbrev dirKey (d : Nat × Bool) : Value := .agg ⟨[.int .i64 (d.1 : Nat), .bool d.2]⟩
theorem dirLaw : WideMaps.KeyLaw Try.prog 85 := deep_law (m := 2) (by decide) (by kernel_rfl) (by kernel_rfl) (by kernel_rfl)
theorem keyOf_dir {d : Nat × Bool} (hd : d.1 < 4611686018427387904) : ∃ l, keyOf Try.prog 85 (dirKey d) = some l :=
  keyOf_two (f1 := dirF 0) (f2 := dirF 1) (by kernel_rfl) (by kernel_rfl) (by kernel_rfl) (by kernel_rfl) (by kernel_rfl) (by kernel_rfl) (by kernel_rfl) (by kernel_rfl) (by kernel_rfl) (by kernel_rfl) (by kernel_rfl) (of_decide_eq_true (by kernel_rfl)) (by
    simp [Lit.wf, IntKind.min, IntKind.max, IntKind.bits, IntKind.signed]; omega)
/-- A map of one's own whose keys are these, in order. -/
def DirM (G : AHeap) (b : Nat) (D : List (Nat × Bool)) : Prop := ∃ es cl, G[b]? = some (some (.map es cl)) ∧ es.toList.map MapEntry.key = D.map dirKey ∧ D.Nodup ∧ ∀ d ∈ D, d.1 < 4611686018427387904
theorem DirM.le {b : Nat} {D : List (Nat × Bool)} (h : DirM H b D) (hl : H.le G) : DirM G b D := by
  obtain ⟨es, cl, h1, h2⟩ := h
  exact ⟨es, cl, hl.2 _ _ h1, h2⟩
theorem DirM.but {b c : Nat} {D : List (Nat × Bool)} (h : DirM H b D) (hb : But c H G) (hne : b ≠ c) : DirM G b D := by
  obtain ⟨es, cl, h1, h2⟩ := h
  exact ⟨es, cl, by rw [hb.same b hne]; exact h1, h2⟩
theorem DirM.lt {b : Nat} {D : List (Nat × Bool)} (h : DirM H b D) : b < H.length := by
  obtain ⟨es, cl, h1, _⟩ := h; exact lt_of_get h1
theorem newM_dir {K : Nat → AHeap → Prop} (k : ∀ G, H.le G → G.length = H.length + 1 → DirM G H.length [] → K H.length G) : newM H K :=
  k _ (AHeap.le_append _ _) (by simp) ⟨#[], 0, by simp, rfl, List.nodup_nil, fun d hd => by cases hd⟩
theorem dirKey_inj {a b : Nat × Bool} (h : dirKey a = dirKey b) : a = b := by
  simp only [Value.agg.injEq, Array.mk.injEq, List.cons.injEq, Value.int.injEq, Value.bool.injEq, true_and, and_true] at h
  exact Prod.ext (by omega) h.2
theorem mup_dir {b : Nat} {D : List (Nat × Bool)} {d : Nat × Bool} {K : AHeap → Prop} (h : DirM H b D) (hd : d.1 < 4611686018427387904)
    (k : ∀ G, But b H G → DirM G b (if d ∈ D then D else D ++ [d]) → K G) : mupK Try.prog 85 H (.map (some b)) (dirKey d) (.bool true) K := by
  obtain ⟨es, cl, h1, h2, h3, h4⟩ := h
  have hlt := lt_of_get h1
  have hkeys : ∀ e ∈ es.toList, ∃ a ∈ D, e.key = dirKey a := fun e he => by
    have : e.key ∈ es.toList.map MapEntry.key := List.mem_map.2 ⟨e, he, rfl⟩
    rw [h2] at this
    obtain ⟨a, ha, hk⟩ := List.mem_map.1 this
    exact ⟨a, ha, hk.symm⟩
  have but : ∀ o, But b H (H.set b o) := fun o => ⟨by simp, fun c hc => List.getElem?_set_ne (by omega)⟩
  refine ⟨b, es, cl, rfl, h1, dirLaw, rfl, keyOf_dir hd, fun e he => ?_, rfl, fun hn => ?_, fun j e hj he => ?_⟩
  · obtain ⟨a, ha, hk⟩ := hkeys e he
    rw [hk]; exact keyOf_dir (h4 a ha)
  · have hnd : d ∉ D := fun hm => by
      have : dirKey d ∈ es.toList.map MapEntry.key := by rw [h2]; exact List.mem_map.2 ⟨d, hm, rfl⟩
      obtain ⟨e, he, hk⟩ := List.mem_map.1 this
      exact hn e he hk
    refine k _ (but _) ?_
    rw [if_neg hnd]
    refine ⟨_, _, List.getElem?_set_self hlt, ?_, ?_, fun a ha => ?_⟩
    · rw [Array.toList_push, List.map_append, List.map_append, h2]; rfl
    · rw [List.nodup_append]
      refine ⟨h3, by simp, fun a ha c hc => ?_⟩
      rw [List.mem_singleton] at hc
      rintro rfl
      rw [hc] at ha; exact hnd ha
    · rcases List.mem_append.1 ha with ha | ha
      · exact h4 a ha
      · rw [List.mem_singleton] at ha; rw [ha]; exact hd
  · have hm : d ∈ D := by
      have : e ∈ es.toList := Array.mem_toList_iff.2 (Array.mem_of_getElem? hj)
      obtain ⟨a, ha, hk⟩ := hkeys e this
      rw [he] at hk
      rw [dirKey_inj hk]; exact ha
    refine k _ (but _) ?_
    rw [if_pos hm]
    refine ⟨_, _, List.getElem?_set_self hlt, ?_, h3, h4⟩
    rw [← h2]
    apply List.ext_getElem?
    intro i
    simp only [List.getElem?_map, Array.getElem?_toList, Array.getElem?_modify]
    by_cases hij : j = i
    · subst hij
      rw [hj]; simp [he]
    · simp [hij]
theorem mlen_dir {b : Nat} {D : List (Nat × Bool)} {K : Nat → Prop} (h : DirM H b D) (k : K D.length) : mlenK H (.map (some b)) K := by
  obtain ⟨es, cl, h1, h2, _⟩ := h
  refine ⟨es, cl, h1, ?_⟩
  have := congrArg List.length h2
  rw [List.length_map, List.length_map, Array.length_toList] at this
  rw [this]; exact k
end Go.Proofs
/- IsOrientedBy: the program. -/
set_option linter.unusedVariables false
set_option linter.unusedSimpArgs false
set_option maxRecDepth 100000
namespace Go.Proofs
open Go.Abs

variable {H G : AHeap} {v u w f : Value} {l m c ts : List Int} {es fs : List (Int × Int)} {K : Value → AHeap → Prop} {p : Nat → Bool} {e : Nat} {n : Int} {ls : List (List Int)} {D : List (Nat × Bool)}

/-- A cycle's directed edges. -/
theorem dirs_row (hg : IsG n es) (hs : IsS l es.length) (hE : EvenS n es (bitB l)) (h1 : (cycOf es (bitB l) l).length = 1) (j : Nat) (b : Bool) : (j, b) ∈ dirsOf es l ↔ (j : Int) ∈ l ∧ b = !fwB es l j := by
  obtain ⟨e, ⟨r, hlr⟩, he, hpe, hiff, hlow⟩ := one_part hs h1
  have h2 := even_deg2 hg hE
  have hl0 : l.getD 0 0 = (e : Int) := by rw [hlr]; rfl
  have hd : dirsOf es l = dirL es (bitB l) e (compL es (bitB l) e).length := by unfold dirsOf; rw [hl0, Int.toNat_natCast]
  have key : ∀ t, t < (compL es (bitB l) e).length → fwB es l (wk es (bitB l) e t).1 = !(dirT es (bitB l) e t).2 := fun t ht => by
    rw [Bool.eq_iff_iff, fwB_iff, hd, dir_fw hg h2 he hpe ht, Bool.not_eq_true']
  rw [hd, mem_dirL]
  constructor
  · rintro ⟨t, ht, hdt⟩
    have hj : (wk es (bitB l) e t).1 = j := by rw [← dirT_fst, hdt]
    have hW := wk_walk2 hg h2 he hpe t (by omega)
    refine ⟨(bitB_mem hs j).1 (by rw [← hj]; exact hW.pn), ?_⟩
    rw [← hj, key t ht, hdt, Bool.not_not]
  · rintro ⟨hj, rfl⟩
    obtain ⟨t, ht, hw⟩ := wk_cover hg h2 he hpe ((hiff j).1 ((bitB_mem hs j).2 hj)).2
    refine ⟨t, ht, Prod.ext (by rw [dirT_fst]; exact hw) ?_⟩
    rw [← hw, key t ht, Bool.not_not]
/-- What is seen behind so many cycles. -/
def SeenD (es : List (Int × Int)) (ls : List (List Int)) (ts : List Int) (i : Nat) (D : List (Nat × Bool)) : Prop := D.Nodup ∧ ∀ d, d ∈ D ↔ ∃ i', i' < i ∧ ∃ b, (d.1, b) ∈ dirsOf es (ls.getD i' []) ∧ d.2 = (b != (ts.getD i' 0 == 1))
theorem seen_or (hg : IsG n es) (hS : SetsB es ls) (hT : TurnsOk ls ts) (hdb : dblB n es ls = true) (h : SeenD es ls ts ls.length D) : decide (D.length = 2 * es.length) = orB es ls ts := by
  obtain ⟨hn, hm⟩ := h
  have hrow : ∀ i, i < ls.length → ls.getD i [] ∈ ls := fun i hi => by rw [getD_of hi]; exact List.getElem_mem hi
  have hD : ∀ (j : Nat) (b : Bool), (j, b) ∈ D ↔ ∃ i, i < ls.length ∧ (j : Int) ∈ ls.getD i [] ∧ b = ((!fwB es (ls.getD i []) j) != (ts.getD i 0 == 1)) := fun j b => by
    rw [hm]
    constructor
    · rintro ⟨i, hi, b0, h1, h2⟩
      obtain ⟨hE, hc⟩ := dbl_row hdb (hrow i hi)
      obtain ⟨h3, h4⟩ := (dirs_row hg (hS _ (hrow i hi)) hE hc _ _).1 h1
      exact ⟨i, hi, h3, by rw [← h4]; exact h2⟩
    · rintro ⟨i, hi, h1, h2⟩
      obtain ⟨hE, hc⟩ := dbl_row hdb (hrow i hi)
      exact ⟨i, hi, _, (dirs_row hg (hS _ (hrow i hi)) hE hc _ _).2 ⟨h1, rfl⟩, h2⟩
  have hr : ∀ d ∈ D, d.1 < es.length := fun d hd => by
    obtain ⟨i, hi, h1, _⟩ := (hD d.1 d.2).1 hd
    have := (hS _ (hrow i hi)).range _ h1; omega
  have hsgn : ∀ (j i : Nat), i < ls.length → (j : Int) ∈ ls.getD i [] → sgn es ls ts j i = if ((!fwB es (ls.getD i []) j) != (ts.getD i 0 == 1)) = false then 1 else -1 := fun j i hi hj => by
    have ht := hT.2 i (by rw [hT.1]; exact hi)
    unfold sgn
    rw [if_pos hj]
    rcases (by omega : ts.getD i 0 = 0 ∨ ts.getD i 0 = 1) with e | e <;> rw [e] <;> cases fwB es (ls.getD i []) j <;> rfl
  have hcnt : ∀ j, j < es.length → ((List.range ls.length).filter fun i => sgn es ls ts j i != 0).length = 2 := fun j hj => by
    have h2 : (cntL es.length ls.flatten).getD j 0 = 2 := by
      unfold dblB at hdb
      rw [Bool.and_eq_true, List.all_eq_true, List.all_eq_true] at hdb
      have hjl : j < (cntL es.length ls.flatten).length := by rw [cntL_length]; exact hj
      have := hdb.2 _ (List.getElem_mem hjl)
      rw [getD_of hjl]
      simpa using this
    have hb := bump1_count hj ls.flatten (List.replicate es.length 0) (by simp) fun x hx => by
      obtain ⟨l, hl, hxl⟩ := List.mem_flatten.1 hx
      exact ((hS l hl).range x hxl).1
    have h3 : (ls.flatten.filter fun x => x == (j : Int)).length = 2 := by
      have e : (cntL es.length ls.flatten) = ls.flatten.foldl bump1 (List.replicate es.length 0) := rfl
      rw [e, hb] at h2
      have : (List.replicate es.length (0 : Int)).getD j 0 = 0 := by simp [List.getD, hj]
      omega
    rw [flat_count fun l hl => asc_nodup (hS l hl).asc] at h3
    have hmap : ls = (List.range ls.length).map fun i => ls.getD i [] := by
      apply List.ext_getElem
      · simp
      · intro i h1 h2; rw [List.getElem_map, List.getElem_range, getD_of h1]
    unfold inN at h3
    rw [hmap, List.filter_map, List.length_map] at h3
    rw [← h3]
    congr 1
    refine List.filter_congr fun i hi => ?_
    have hi := List.mem_range.1 hi
    show (sgn es ls ts j i != 0) = decide ((j : Int) ∈ ls.getD i [])
    by_cases hjm : (j : Int) ∈ ls.getD i []
    · rw [decide_eq_true hjm, hsgn j i hi hjm]; split <;> rfl
    · rw [decide_eq_false hjm]; unfold sgn; rw [if_neg hjm]; rfl
  have hfin : ∀ j, j < es.length → (sgSum es ls ts j ls.length = 0 ↔ (j, false) ∈ D ∧ (j, true) ∈ D) := fun j hj => by
    unfold sgSum
    rw [sign_zero (f := sgn es ls ts j) (fun i hi => by
      have hi := List.mem_range.1 hi
      by_cases hjm : (j : Int) ∈ ls.getD i []
      · rw [hsgn j i hi hjm]; split
        · exact .inr (.inl rfl)
        · exact .inr (.inr rfl)
      · left; unfold sgn; rw [if_neg hjm]) (hcnt j hj)]
    have one : ∀ (b : Bool), (∃ i ∈ List.range ls.length, sgn es ls ts j i = if b = false then 1 else -1) ↔ (j, b) ∈ D := fun b => by
      rw [hD]
      constructor
      · rintro ⟨i, hi, hh⟩
        have hi := List.mem_range.1 hi
        by_cases hjm : (j : Int) ∈ ls.getD i []
        · rw [hsgn j i hi hjm] at hh
          refine ⟨i, hi, hjm, ?_⟩
          generalize ((!fwB es (ls.getD i []) j) != (ts.getD i 0 == 1)) = q at hh
          cases b <;> cases q <;> simp at hh ⊢
        · unfold sgn at hh; rw [if_neg hjm] at hh
          cases b <;> simp at hh
      · rintro ⟨i, hi, hjm, hh⟩
        exact ⟨i, List.mem_range.2 hi, by rw [hsgn j i hi hjm, hh]⟩
    have o1 := one false
    have o2 := one true
    simp only [if_true, if_false, Bool.true_eq_false] at o1 o2
    rw [o1, o2]
  unfold orB
  rw [Bool.eq_iff_iff, decide_eq_true_iff, @decide_eq_true_iff _ (Classical.propDecidable _), pairs_full hn hr]
  exact ⟨fun h j hj => (hfin j hj).2 (h j hj), fun h j hj => (hfin j hj).1 (h j hj)⟩
theorem isTurn_cl : ∀ c : Int, Cl H (.func (.func 52) ⟨[]⟩ ⟨[]⟩) (.int .i64 c) (decide (0 ≤ c ∧ c ≤ 1)) := by
  intro c G hG K k
  refine callV_mk ?_
  apply F52.ac
  unfold F52.B2 F52.B1
  exact within_ok (asB_mk (k _ (AHeap.le_refl _)))
theorem turns_all : (decide (ts.length = ls.length) && ts.all fun t => decide (0 ≤ t ∧ t ≤ 1)) = decide (TurnsOk ls ts) := by
  rw [Bool.eq_iff_iff, Bool.and_eq_true, decide_eq_true_iff, decide_eq_true_iff, List.all_eq_true]
  unfold TurnsOk
  constructor
  · rintro ⟨h1, h2⟩
    exact ⟨h1, fun i hi => by rw [getD_of hi]; exact of_decide_eq_true (h2 _ (List.getElem_mem hi))⟩
  · rintro ⟨h1, h2⟩
    refine ⟨h1, fun t ht => ?_⟩
    obtain ⟨i, hi, rfl⟩ := List.getElem_of_mem ht
    have := h2 i hi
    rw [getD_of hi] at this
    exact decide_eq_true this
theorem implOr_ok (h : Edges H v es) (hl : es.length ≤ 1048576) (hr : RowsR H u ls) (hrl : ls.length + totL ls ≤ 1048576) (hc : Ints H w ts) (htl : ts.length ≤ 1048576)
    (k : ∀ G, H.le G → K (.tuple ⟨[.bool (otB n es ls ts), .int .i64 (otCode n es ls ts)]⟩) G) : AC Try.prog T0 19 [.agg ⟨[.int .i64 n, v]⟩, u, w] H K := by
  have hrr : ∀ l ∈ ls, l.length ≤ 1048576 := fun l hl => by have := tot_row hl; omega
  apply F19.ac
  unfold F19.B21
  refine newK_f (all_iv (edges_one' h)) fun H1 l1 n1 o1 => ?_
  -- behind the code
  have main : ∀ (G : AHeap) (q : Bool), H1.le G → q = (decide (SetsB es ls) && decide (TurnsOk ls ts)) → F19.B18 K u w H.length (if IsG n es then (if q = true then 0 else 2) else 1) G := by
    intro G q lG hq
    have l1G := AHeap.le_trans l1 lG
    have oG := o1.le lG
    have k1 := k G l1G
    unfold F19.B18
    refine pif_cases (fun hs => ?_) fun hs => ?_
    · unfold F19.B17
      have e : otCode n es ls ts = if IsG n es then (if q = true then 0 else 2) else 1 := by
        unfold otCode dcCode
        by_cases hg : IsG n es
        · simp only [if_pos hg] at hs ⊢
          by_cases hS : SetsB es ls
          · by_cases hT : TurnsOk ls ts
            · rw [hq, decide_eq_true hS, decide_eq_true hT] at hs; simp at hs
            · rw [hq, decide_eq_false hT]; simp [hS, hT]
          · rw [hq, decide_eq_false hS]; simp [hS]
        · simp [hg]
      have hne : otCode n es ls ts ≠ 0 := by rw [e]; exact bne_iff_ne.1 hs
      unfold otB at k1
      rw [if_neg hne, e] at k1
      exact k1
    have hz : (if IsG n es then (if q = true then 0 else 2) else 1 : Int) = 0 := bne_eq_false_iff_eq.1 hs
    have hg : IsG n es := by
      by_cases hg : IsG n es
      · exact hg
      · rw [if_neg hg] at hz; cases hz
    rw [if_pos hg] at hz
    have hqt : q = true := by
      cases q with
      | true => rfl
      | false => simp at hz
    rw [hq, Bool.and_eq_true, decide_eq_true_iff, decide_eq_true_iff] at hqt
    obtain ⟨hS, hT⟩ := hqt
    have h0 : dcCode n es ls = 0 := by unfold dcCode; rw [if_pos hg, if_pos hS]
    have n0 := hg.ed.lo; have n1 := hg.ed.hi
    have h30 : es.length ≤ 30 := by have := hg.ed.len; omega
    unfold F19.B16
    refine ldI_own oG rfl (ld1_own oG rfl (isDouble_ok (h.le l1G) hg (hr.le l1G) (by omega) (by omega) hS fun G2 l2 => asB_mk (pif_cases (fun hs => ?_) fun hs => ?_)))
    · rw [Bool.not_eq_true'] at hs
      unfold F19.B15
      have k := k _ (AHeap.le_trans l1G l2)
      have e : otCode n es ls ts = 5 := by unfold otCode; rw [if_pos h0, if_pos hT, if_neg (by rw [hs]; decide)]
      unfold otB at k
      rw [e, if_neg (by decide)] at k; exact k
    rw [Bool.not_eq_false'] at hs
    have e0 : otCode n es ls ts = 0 := by unfold otCode; rw [if_pos h0, if_pos hT, if_pos hs]
    unfold otB at k
    rw [if_pos e0, e0] at k
    have lG2 := AHeap.le_trans lG l2
    unfold F19.B14
    refine newM_dir fun G3 l3 n3 hM => ?_
    obtain ⟨bm, hbm⟩ : ∃ bm, bm = G2.length := ⟨_, rfl⟩
    rw [← hbm] at hM ⊢
    have hlG2 := lG2.1
    unfold F19.B13
    refine (hr.le (AHeap.le_trans l1 (AHeap.le_trans lG2 l3))).len ?_
    unfold F19.L2
    refine ⟨fun x2 x3 x10 x40 x41 x42 G' => w = x2 ∧ H.length = x3 ∧ .map (some bm) = x10 ∧ u = x40 ∧ (ls.length : Int) = x41 ∧ H1.le G' ∧ ∃ (i : Nat) (D : List (Nat × Bool)), x42 = i ∧ i ≤ ls.length ∧ DirM G' bm D ∧ SeenD es ls ts i D,
      fun _ _ _ _ _ x42 _ => ls.length - x42.toNat, ⟨rfl, rfl, rfl, rfl, rfl, AHeap.le_trans lG2 l3, 0, [], rfl, by omega, hM, List.nodup_nil, fun d => ⟨(fun h => by cases h), fun ⟨i, hi, _⟩ => absurd hi (by omega)⟩⟩, ?_⟩
    clear hM l3 n3
    rintro x2 x3 x10 x40 x41 x42 G3 ⟨rfl, rfl, rfl, rfl, rfl, lG3, i, D, rfl, hi, hM, hD⟩
    have l1G3 := AHeap.le_trans l1 lG3
    have oG3 := o1.le lG3
    unfold F19.B12
    refine pif_cases (fun hb => ?_) fun hb => ?_
    · have hil : i < ls.length := by have := of_decide_eq_true hb; omega
      have hmem : ls.getD i [] ∈ ls := by rw [getD_of hil]; exact List.getElem_mem hil
      have hsI := hS _ hmem
      obtain ⟨hE, h1c⟩ := dbl_row hs hmem
      obtain ⟨e, ⟨r, hlr⟩, he, hpe, hiff, hlow⟩ := one_part hsI h1c
      have hshort := hsI.short2
      have hds : dirsOf es (ls.getD i []) = dirL es (bitB (ls.getD i [])) e (compL es (bitB (ls.getD i [])) e).length := by
        unfold dirsOf
        rw [show (ls.getD i []).getD 0 0 = (e : Int) by rw [hlr]; rfl, Int.toNat_natCast]
      unfold F19.B11
      refine (hr.le l1G3).row hil fun q hq => ?_
      unfold F19.B10
      refine ldI_own oG3 rfl (ld1_own oG3 rfl (setOf_ok hq (by omega) (fun x hx => by have := hsI.range x hx; omega) (asI_mk ⟨AHeap.le_refl _, ?_⟩)))
      refine around_ok (p := bitB (ls.getD i [])) (e := e) (h.le l1G3) hg (even_deg2 hg hE) he hpe (fun j => hiff j) hlow fun wF G4 l4 fD => ?_
      rw [← hds] at fD
      have hTl : (dirsOf es (ls.getD i [])).length = (compL es (bitB (ls.getD i [])) e).length := by rw [hds, dirL_length]
      refine fD.sl.len (by decide) (n := (dirsOf es (ls.getD i [])).length) (by rw [LD_length]) ?_
      have hbG := hM.lt
      have hT30 : (dirsOf es (ls.getD i [])).length ≤ 30 := by
        rw [hTl]
        have : (compL es (bitB (ls.getD i [])) e).length ≤ es.length := filtB_length _ _
        omega
      unfold F19.L4
      refine ⟨fun x2 x3 x10 x11 x40 x41 x42 x50 x51 x52 G' => w = x2 ∧ H.length = x3 ∧ .map (some bm) = x10 ∧ ((i : Nat) : Int) = x11 ∧ u = x40 ∧ (ls.length : Int) = x41 ∧ ((i : Nat) : Int) = x42 ∧ wF = x50 ∧ ((dirsOf es (ls.getD i [])).length : Int) = x51 ∧ H1.le G' ∧ Fresh G3.length G' wF 85 2 (LD (dirsOf es (ls.getD i []))) ∧
          ∃ (t : Nat) (D' : List (Nat × Bool)), x52 = t ∧ t ≤ (dirsOf es (ls.getD i [])).length ∧ DirM G' bm D' ∧ D'.Nodup ∧ ∀ d, d ∈ D' ↔ d ∈ D ∨ ∃ b, (d.1, b) ∈ (dirsOf es (ls.getD i [])).take t ∧ d.2 = (b != (ts.getD i 0 == 1)),
        fun _ _ _ _ _ _ _ _ _ x52 _ => (dirsOf es (ls.getD i [])).length - x52.toNat, ⟨rfl, rfl, rfl, rfl, rfl, rfl, rfl, rfl, rfl, AHeap.le_trans lG3 l4, fD, 0, D, rfl, by omega, hM.le l4, hD.1, fun d => by simp⟩, ?_⟩
      clear fD
      rintro x2 x3 x10 x11 x40 x41 x42 x50 x51 x52 G5 ⟨rfl, rfl, rfl, rfl, rfl, rfl, rfl, rfl, rfl, lG5, fD, t, D', rfl, ht, hM', hn', hD'⟩
      have l1G5 := AHeap.le_trans l1 lG5
      unfold F19.B9
      refine pif_cases (fun hb => ?_) fun hb => ?_
      · have htl : t < (dirsOf es (ls.getD i [])).length := by have := of_decide_eq_true hb; omega
        obtain ⟨db, do', dk, dc1, dc2⟩ := LD_idx fD (i := t) htl
        obtain ⟨d, hd⟩ : ∃ d, d = (dirsOf es (ls.getD i [])).getD t (0, false) := ⟨_, rfl⟩
        have hdm : d ∈ dirsOf es (ls.getD i []) := by rw [hd, getD_of htl]; exact List.getElem_mem htl
        have hdin := ((dirs_row hg hsI hE h1c d.1 d.2).1 hdm).1
        have hdl := hsI.range _ hdin
        rw [← hd] at dc1 dc2
        have hti : ts.length = ls.length := hT.1
        unfold F19.B8
        refine dk _ (ldI_mk dc1 (ld1_mk dc2 (asB_mk (newK_f rfl fun G6 l6 n6 o6 => stK_f o6 (by simp) (by simp [Value.oneCell']) rfl fun G7 b7 o7 => ?_))))
        have o7 : Own G7 G5.length 85 [.int .i64 (d.1 : Nat), .bool d.2] := by simpa using o7
        have l57 : G5.le G7 := b7.le l6 (Nat.le_refl _)
        have lG7 := AHeap.le_trans lG5 l57
        unfold F19.B7
        refine ld1_own o7 rfl (asB_mk ((hc.le (AHeap.le_trans l1 lG7)).rd (by omega) (by omega) (stK_f o7 (by simp) (by simp [Value.oneCell']) rfl fun G8 b8 o8 => ?_)))
        rw [Int.toNat_natCast] at o8
        have o8 : Own G8 G5.length 85 [.int .i64 (d.1 : Nat), .bool (!(d.2 == (ts.getD i 0 == 1)))] := by simpa using o8
        have l58 : G5.le G8 := b8.le l57 (Nat.le_refl _)
        have hM8 := hM'.le l58
        unfold F19.B6
        refine ldI_own o8 rfl (ld1_own o8 rfl (asB_mk (mup_dir (d := (d.1, !(d.2 == (ts.getD i 0 == 1)))) hM8 (by show d.1 < _; omega) fun G9 b9 hM9 => ?_)))
        have hlG5 := hM'.lt
        have l19 : H1.le G9 := b9.le (AHeap.le_trans lG5 l58) (by omega)
        unfold F19.B5
        rw [wrap_id (by omega) (by omega)]
        refine ⟨⟨rfl, rfl, rfl, rfl, rfl, rfl, rfl, rfl, rfl, l19, (fD.le l58).but b9 hbG, t + 1, _, by omega, by omega, hM9, hM9.elim fun _ h => h.elim fun _ h => h.2.2.1, fun a => ?_⟩, by show (dirsOf es (ls.getD i [])).length - ((t : Int) + 1).toNat < (dirsOf es (ls.getD i [])).length - (t : Int).toNat; omega⟩
        have htake : (dirsOf es (ls.getD i [])).take (t + 1) = (dirsOf es (ls.getD i [])).take t ++ [d] := by
          rw [List.take_succ_eq_append_getElem htl, hd, getD_of htl]
        have hmemD : a ∈ (if (d.1, !(d.2 == (ts.getD i 0 == 1))) ∈ D' then D' else D' ++ [(d.1, !(d.2 == (ts.getD i 0 == 1)))]) ↔ a ∈ D' ∨ a = (d.1, !(d.2 == (ts.getD i 0 == 1))) := by
          by_cases hin : (d.1, !(d.2 == (ts.getD i 0 == 1))) ∈ D'
          · rw [if_pos hin]
            exact ⟨.inl, fun h => h.elim id fun h => by rw [h]; exact hin⟩
          · rw [if_neg hin, List.mem_append, List.mem_singleton]
        rw [hmemD, hD', htake]
        constructor
        · rintro ((h1 | ⟨b, h1, h2⟩) | h1)
          · exact .inl h1
          · exact .inr ⟨b, List.mem_append_left _ h1, h2⟩
          · refine .inr ⟨d.2, List.mem_append_right _ ?_, ?_⟩
            · rw [h1]; simp
            · rw [h1]; rfl
        · rintro (h1 | ⟨b, h1, h2⟩)
          · exact .inl (.inl h1)
          · rcases List.mem_append.1 h1 with h1 | h1
            · exact .inl (.inr ⟨b, h1, h2⟩)
            · rw [List.mem_singleton] at h1
              right
              have e1 : a.1 = d.1 := by rw [← h1]
              have e2 : b = d.2 := by rw [← h1]
              exact Prod.ext e1 (by rw [h2, e2]; rfl)
      · have hte : t = (dirsOf es (ls.getD i [])).length := by have := of_decide_eq_false hb; omega
        subst hte
        unfold F19.B3
        rw [wrap_id (by omega) (by omega)]
        refine ⟨⟨rfl, rfl, rfl, rfl, rfl, lG5, i + 1, D', by omega, by omega, hM', hn', fun d => ?_⟩, by show ls.length - ((i : Int) + 1).toNat < ls.length - (i : Int).toNat; omega⟩
        rw [hD', hD.2, List.take_length]
        constructor
        · rintro (⟨i', h1, h2⟩ | h1)
          · exact ⟨i', by omega, h2⟩
          · exact ⟨i, by omega, h1⟩
        · rintro ⟨i', h1, h2⟩
          by_cases e : i' = i
          · subst e; exact .inr h2
          · exact .inl ⟨i', by omega, h2⟩
    · have hie : i = ls.length := by have := of_decide_eq_false hb; omega
      subst hie
      unfold F19.B1
      refine mlen_dir hM (ld1_own oG3 rfl ((h.le l1G3).len ?_))
      rw [wrap_id (by omega) (by omega)]
      have k := k G3 l1G3
      have e : ((D.length : Int) == 2 * (es.length : Int)) = orB es ls ts := by
        rw [← seen_or hg hS hT hs hD, Bool.eq_iff_iff, beq_iff_eq, decide_eq_true_iff]; omega
      rw [e]
      exact k
  have l0 := AHeap.le_refl H1
  unfold F19.B20 F19.B19
  have hg0 : ∀ G (q : Bool), H1.le G → q = (decide (SetsB es ls) && decide (TurnsOk ls ts)) → AC Try.prog T0 41 [.agg ⟨[.int .i64 n, v]⟩, .bool q] G fun v13 H14 => asI .i64 v13 fun v15 => F19.B18 K u w H.length v15 H14 := fun G q hG hq =>
    graphCode_ok (h.le (AHeap.le_trans l1 hG)) hl fun G2 l2 => asI_mk (main G2 q (AHeap.le_trans hG l2) hq)
  refine ldI_own o1 rfl (ld1_own o1 rfl (ldI_own o1 rfl (ld1_own o1 rfl (areSets_ok (h.le l1) hl (hr.le l1) (by omega) hrr fun H2 l2 => asB_mk ⟨l2, pif_cases (fun hb => ?_) fun hb => ?_⟩))))
  · refine (hc.le l1).len ((hr.le l1).len (pif_cases (fun hb2 => ?_) fun hb2 => ?_))
    · have hlen : ts.length = ls.length := by have := beq_iff_eq.1 hb2; omega
      refine areAllL_ok (p := fun t => decide (0 ≤ t ∧ t ≤ 1)) (hc.le (AHeap.le_trans l1 l2)) (by omega) rfl (fun e _ => isTurn_cl e) fun H3 l3 => asB_mk ⟨l3, ?_⟩
      refine hg0 H3 _ (AHeap.le_trans l2 l3) ?_
      rw [hb, Bool.true_and, ← turns_all, decide_eq_true hlen, Bool.true_and]
    · refine hg0 H2 false l2 ?_
      have hne : ¬ TurnsOk ls ts := fun ht => by have := ht.1; have := beq_eq_false_iff_ne.1 hb2; omega
      rw [decide_eq_false hne, Bool.and_false]
  · exact hg0 H2 false l2 (by rw [hb, Bool.false_and])
end Go.Proofs
/- The law of IsOrientedBy. -/
set_option linter.unusedVariables false
set_option linter.unusedSimpArgs false
set_option maxRecDepth 100000
namespace Go.Proofs
open Go.Abs

theorem isOrientedBy_law (H : AHeap) (vs : List Value) (hv : AVs T0 H [24, 37, 25] vs) : AC Try.prog T0 4 vs H (fun v _ => v = .bool true) := by
  obtain ⟨v0, vs, rfl, a0, v1, vs, rfl, a1, v2, vs, rfl, a2, rfl⟩ := hv
  obtain ⟨n0, ve0, es0, rfl, he0, hel0⟩ := av_graph a0
  obtain ⟨rs1, he1, hel1, her1⟩ := av_rows a1
  obtain ⟨ls2, he2, hel2, _⟩ := av_ints a2
  apply F4.ac
  unfold F4.B24
  refine newK_f (all_iv (edges_one' he0)) fun H1 l1 n1 o1 => ?_
  have he0 := he0.le l1; have he1 := he1.le l1; have he2 := he2.le l1
  unfold F4.B23
  refine he2.len (pif_cases (fun _ => by unfold F4.B22; rfl) fun hs => ?_)
  have s2 : ls2.length ≤ 1048576 := by have := of_decide_eq_false hs; omega
  unfold F4.B21 F4.B20
  refine ldI_own o1 rfl (ld1_own o1 rfl (szGraph_ok he0 hel0 (by decide) (by decide) (edges_one' he0) fun H2 l2 => asI_mk ?_))
  have he0 := he0.le l2; have he1 := he1.le l2; have he2 := he2.le l2; have o1 := o1.le l2
  unfold F4.B19
  refine pif_cases (fun _ => by unfold F4.B18; rfl) fun hs => ?_
  have s0 : es0.length ≤ 1048576 := by
    have := of_decide_eq_false hs
    split at this <;> omega
  rw [if_neg (by omega)]
  unfold F4.B17
  refine szInt64SS_ok he1 hel1 her1 (by omega) (by omega) fun r hr => asI_mk ?_
  unfold F4.B16
  refine pif_cases (fun _ => by unfold F4.B15; rfl) fun hs => ?_
  have s1 : rs1.length + totL rs1 ≤ 1048576 := by have := hr (by have := of_decide_eq_false hs; omega); omega
  have t1 : ∀ l ∈ rs1, l.length ≤ 4294967296 := fun l hl => by have := tot_row hl; omega
  -- the reference
  unfold F4.B14
  refine ldI_own o1 rfl (ld1_own o1 rfl (toGraph_ok he0 (by omega) fun p0 H3 l3 fp0 => agg2_mk (asI_mk ?_)))
  have he0 := he0.le l3; have he1 := he1.le l3; have he2 := he2.le l3; have o1 := o1.le l3
  refine toInt64SS_ok he1 (by omega) t1 fun p1 H4 l4 fp1 => ?_
  have he0 := he0.le l4; have he1 := he1.le l4; have he2 := he2.le l4; have o1 := o1.le l4; have fp0 := fp0.le l4
  refine toInt64S_ok he2 (by omega) fun p2 H5 l5 fp2 => ?_
  have he0 := he0.le l5; have he1 := he1.le l5; have he2 := he2.le l5; have o1 := o1.le l5; have fp0 := fp0.le l5; have fp1 := fp1.le l5
  refine specOr_ok fp0.edges s0 fp1.toR s1 fp2.ints s2 fun H6 l6 => tup2_mk (asB_mk (asI_mk ?_))
  have he0 := he0.le l6; have he1 := he1.le l6; have he2 := he2.le l6; have o1 := o1.le l6; have fp0 := fp0.le l6; have fp1 := fp1.le l6; have fp2 := fp2.le l6
  have he0_ := he0
  have he1_ := he1
  have he2_ := he2
  have o1_ := o1
  have cw := AHeap.le_refl H6
  -- the program
  unfold F4.B13
  refine ldI_own o1 rfl (ld1_own o1 rfl (toGraph_ok he0 (by omega) fun x0 H7 l7 f0 => agg2_mk (asI_mk ?_)))
  have e7 : x0.oneCell' = true := edges_one' f0.edges
  refine newK_f rfl fun H8 l8 n8 o0 => stK_f o0 (by simp) (mem_iv e7) rfl fun H9 b0 o9 => ?_
  have l9 : H6.le H9 := b0.le (AHeap.le_trans l7 l8) l7.1
  have fx0 : Fresh H6.length H9 x0 67 2 (LE es0) := by
    rcases f0 with f0 | ⟨c, k, q1, q2, q3, q4⟩
    · exact .inl f0
    · exact .inr ⟨c, k, q1, q2, b0.own (l8.2 _ _ q3) (by have := lt_of_get q3; omega), q4⟩
  have g0 : ∀ c k, x0 = .slice (some ⟨c, 0, none⟩) k (k + 1) → c < H9.length := fun c k e => (fx0.lt e).2
  have d0 := l9.1
  have he0 := he0.le l9; have he1 := he1.le l9; have he2 := he2.le l9; have o1 := o1.le l9
  have cw := AHeap.le_trans cw l9
  unfold F4.B12
  refine toInt64SS_ok he1 (by omega) t1 fun x1 H10 l10 fx1 => ?_
  have d1 := l10.1
  have he0 := he0.le l10; have he1 := he1.le l10; have he2 := he2.le l10; have o1 := o1.le l10; have o9 := o9.le l10; have fx0 := fx0.le l10
  have cw := AHeap.le_trans cw l10
  unfold F4.B11
  refine toInt64S_ok he2 (by omega) fun x2 H11 l11 fx2 => ?_
  have g2 : ∀ c k, x2 = .slice (some ⟨c, 0, none⟩) k (k + 1) → c < H11.length := fun c k e => (fx2.lt e).2
  have d2 := l11.1
  have he0 := he0.le l11; have he1 := he1.le l11; have he2 := he2.le l11; have o1 := o1.le l11; have o9 := o9.le l11; have fx0 := fx0.le l11; have fx1 := fx1.le l11
  have cw := AHeap.le_trans cw l11
  unfold F4.B10
  refine ldI_own o9 rfl (ld1_own o9 rfl (implOr_ok fx0.edges s0 fx1.toR s1 fx2.ints s2 fun H12 l12 => tup2_mk (asB_mk (asI_mk ?_))))
  have dg := l12.1
  have he0 := he0.le l12; have he1 := he1.le l12; have he2 := he2.le l12; have o1 := o1.le l12; have o9 := o9.le l12; have fx0 := fx0.le l12; have fx1 := fx1.le l12; have fx2 := fx2.le l12
  have cw := AHeap.le_trans cw l12
  -- the same answer
  unfold F4.B9
  refine pif_f (by simp) (pif_f (by simp) ?_)
  unfold F4.B7
  refine ldI_own o9 rfl (ld1_own o9 rfl (ldI_own o1 rfl (ld1_own o1 rfl (toGraph_ok he0 (by omega) fun y0 H13 l13 fy => agg2_mk (asI_mk ⟨l13, eqGraph_ok (fx0.edges.le l13) fy.edges (by omega) fun H14 l14 => asB_mk (pif_f (by simp) ?_)⟩)))))
  have l14 := AHeap.le_trans l13 l14
  have he0 := he0.le l14; have he1 := he1.le l14; have he2 := he2.le l14; have o1 := o1.le l14; have o9 := o9.le l14; have fx0 := fx0.le l14; have fx1 := fx1.le l14; have fx2 := fx2.le l14
  have cw := AHeap.le_trans cw l14
  unfold F4.B5
  refine toInt64SS_ok he1 (by omega) t1 fun y1 H15 l15 fy => eqInt64SS_ok (fx1.le l15) fy (by omega) t1 (asB_mk (pif_f (by simp) ?_))
  have he0 := he0.le l15; have he1 := he1.le l15; have he2 := he2.le l15; have o1 := o1.le l15; have o9 := o9.le l15; have fx0 := fx0.le l15; have fx1 := fx1.le l15; have fx2 := fx2.le l15
  have cw := AHeap.le_trans cw l15
  unfold F4.B3
  refine toInt64S_ok he2 (by omega) fun y2 H17 l17 fy => eqInt64S_ok (fx2.ints.le l17) fy.ints (by omega) (asB_mk (pif_f (by simp) ?_))
  have he0 := he0.le l17; have he1 := he1.le l17; have he2 := he2.le l17; have o1 := o1.le l17; have o9 := o9.le l17; have fx0 := fx0.le l17; have fx1 := fx1.le l17; have fx2 := fx2.le l17
  have cw := AHeap.le_trans cw l17
  unfold F4.B1
  rfl
end Go.Proofs
