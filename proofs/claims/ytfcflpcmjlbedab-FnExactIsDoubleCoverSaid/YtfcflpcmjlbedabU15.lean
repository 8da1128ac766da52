/- Contracts: even sets, both sides. -/
import Derived.Test.YtfcflpcmjlbedabU12
set_option linter.unusedVariables false
set_option linter.unusedSimpArgs false
set_option maxRecDepth 100000
namespace Go.Proofs
open Go.Abs

variable {H : AHeap} {v u f : Value} {l m c : List Int} {es fs : List (Int × Int)} {K : Value → AHeap → Prop}

theorem u64_sum {a b : Nat} (h : a + b < 2 ^ 64) : IntKind.u64.wrap (((a : Nat) : Int) + ((b : Nat) : Int)) = ((a + b : Nat) : Int) := by
  rw [← Int.natCast_add, u64_nat h]
theorem onesCount_ok {s : Nat} (hs : s < 2 ^ 64) (k : K (.int .i64 (popc s 64 : Nat)) H) : AC Try.prog T0 112 [.int .u64 (s : Nat)] H K := by
  have d64 : ∀ a k : Nat, a < 2 ^ 64 → a / k < 2 ^ 64 := fun a k h => Nat.lt_of_le_of_lt (Nat.div_le_self _ _) h
  apply F112.ac
  unfold F112.B8 F112.B7
  refine ⟨by decide, ?_⟩
  have ma : msk 85 8 = 6148914691236517205 := msk_a
  have mb : msk 51 8 = 3689348814741910323 := msk_b
  have mc : msk 15 8 = 1085102592571150095 := msk_c
  have la : ∀ x, x &&& msk 85 8 ≤ 6148914691236517205 := fun x => by rw [← ma]; exact Nat.and_le_right
  have lb : ∀ x, x &&& msk 51 8 ≤ 3689348814741910323 := fun x => by rw [← mb]; exact Nat.and_le_right
  rw [shr_nat, show min (Int.toNat 1) 64 = 1 from rfl, show (6148914691236517205 : Int) = ((msk 85 8 : Nat) : Int) by rw [ma]; rfl, bits_and (d64 _ _ hs) (by rw [ma]; decide), bits_and hs (by rw [ma]; decide),
    u64_sum (by have := la (s / 2 ^ 1); have := la s; omega), show (s / 2 ^ 1 &&& msk 85 8) + (s &&& msk 85 8) = stA 8 s from rfl]
  have hA : stA 8 s < 2 ^ 64 := by unfold stA; have := la (s / 2); have := la s; omega
  unfold F112.B6
  refine ⟨by decide, ?_⟩
  rw [shr_nat, show min (Int.toNat 2) 64 = 2 from rfl, show (3689348814741910323 : Int) = ((msk 51 8 : Nat) : Int) by rw [mb]; rfl, bits_and (d64 _ _ hA) (by rw [mb]; decide), bits_and hA (by rw [mb]; decide),
    u64_sum (by have := lb (stA 8 s / 2 ^ 2); have := lb (stA 8 s); omega), show (stA 8 s / 2 ^ 2 &&& msk 51 8) + (stA 8 s &&& msk 51 8) = byts 8 s from rfl]
  have hB : byts 8 s ≤ 7378697629483820646 := by unfold byts stB; have := lb (stA 8 s / 4); have := lb (stA 8 s); omega
  unfold F112.B5
  refine ⟨by decide, ?_⟩
  rw [shr_nat, show min (Int.toNat 4) 64 = 4 from rfl, show (1085102592571150095 : Int) = ((msk 15 8 : Nat) : Int) by rw [mc]; rfl, u64_sum (by omega), bits_and (by omega) (by rw [mc]; decide),
    show (byts 8 s / 2 ^ 4 + byts 8 s) &&& msk 15 8 = pops 8 s from rfl]
  have hC := pops_le (x := s)
  obtain ⟨a, ha⟩ : ∃ a, a = pops 8 s := ⟨_, rfl⟩
  rw [← ha] at hC ⊢
  unfold F112.B4
  refine ⟨by decide, ?_⟩
  rw [shr_nat, show min (Int.toNat 8) 64 = 8 from rfl, u64_sum (by omega)]
  obtain ⟨b, hb⟩ : ∃ b, b = a + a / 2 ^ 8 := ⟨_, rfl⟩
  rw [← hb]
  unfold F112.B3
  refine ⟨by decide, ?_⟩
  rw [shr_nat, show min (Int.toNat 16) 64 = 16 from rfl, u64_sum (by omega)]
  obtain ⟨c, hc⟩ : ∃ c, c = b + b / 2 ^ 16 := ⟨_, rfl⟩
  rw [← hc]
  unfold F112.B2
  refine ⟨by decide, ?_⟩
  rw [shr_nat, show min (Int.toNat 32) 64 = 32 from rfl, u64_sum (by omega)]
  obtain ⟨d, hd⟩ : ∃ d, d = c + c / 2 ^ 32 := ⟨_, rfl⟩
  rw [← hd]
  unfold F112.B1
  have hdl : d < 2 ^ 62 := by omega
  have hp := pops_sum ha hb hc hd
  have e1 : IntKind.i64.wrap ((d : Nat) : Int) = ((d : Nat) : Int) := wrap_id (by omega) (by omega)
  rw [e1, bv_nat, show (127 : Int) = ((127 : Nat) : Int) from rfl, bv_nat, BitVec.toNat_and, BitVec.toNat_ofNat, BitVec.toNat_ofNat, Nat.mod_eq_of_lt (by omega), Nat.mod_eq_of_lt (by decide), show (127 : Nat) = 2 ^ 7 - 1 from rfl, Nat.and_two_pow_sub_one_eq_mod,
    show d % 2 ^ 7 = popc s 64 from hp]
  have : popc s 64 ≤ 64 := bitsTo_length s 64
  rw [wrap_id (by omega) (by omega)]
  exact k
theorem size_ok {s : Nat} (hs : s < 2 ^ 64) (k : K (.int .i64 (popc s 64 : Nat)) H) : AC Try.prog T0 67 [.int .u64 (s : Nat)] H K := by
  apply F67.ac
  unfold F67.B2 F67.B1
  exact onesCount_ok hs (asI_mk k)

theorem at_range {es : List (Int × Int)} {w : Int} {x : Int} (hx : x ∈ atL es w) : 0 ≤ x ∧ x < es.length := by
  obtain ⟨i, rfl, h, _⟩ := mem_atL.1 hx
  exact ⟨by omega, by omega⟩
theorem popc_deg {es : List (Int × Int)} {s : Nat} {w : Int} (hm : es.length ≤ 64) : popc (setN (atL es w) &&& s) 64 = degB es (fun j => s.testBit j) w := by
  have hb : ∀ j, (setN (atL es w) &&& s).testBit j = decide (j < es.length ∧ on (es.getD j (0, 0)) w = true ∧ s.testBit j = true) := by
    intro j
    rw [Nat.testBit_and, setN_bit fun x hx => (at_range hx).1, Bool.eq_iff_iff, Bool.and_eq_true, decide_eq_true_iff, decide_eq_true_iff, mem_atL]
    constructor
    · rintro ⟨⟨i, hi, h1, h2⟩, h3⟩
      obtain rfl : j = i := by omega
      exact ⟨h1, h2, h3⟩
    · rintro ⟨h1, h2, h3⟩
      exact ⟨⟨j, rfl, h1, h2⟩, h3⟩
  unfold popc degB
  have e := bitsL_filt (s := setN (atL es w) &&& s) hm fun j hj => by
    rw [hb] at hj; exact (of_decide_eq_true hj).1
  unfold bitsL at e
  rw [e, filtB_congr fun j hj => ?_]
  show (setN (atL es w) &&& s).testBit j = (on (es.getD j (0, 0)) w && s.testBit j)
  rw [hb, Bool.eq_iff_iff, decide_eq_true_iff, Bool.and_eq_true]
  exact ⟨fun h => h.2, fun h => ⟨hj, h⟩⟩

theorem isEven_ok {n : Int} {s : Nat} (h : Edges H v es) (hg : IsG n es) (hs : s < 2 ^ 64) (k : ∀ G, H.le G → K (.bool (decide (EvenS n es (fun j => s.testBit j)))) G) :
    AC Try.prog T0 62 [.agg ⟨[.int .i64 n, v]⟩, .int .u64 (s : Nat)] H K := by
  have n0 := hg.ed.lo; have n1 := hg.ed.hi
  have h30 : es.length ≤ 30 := by have := hg.ed.len; omega
  apply F62.ac
  unfold F62.B9
  refine newK_f (all_iv (edges_one' h)) fun H1 l1 n1' o1 => ?_
  unfold F62.B8
  refine ldI_own o1 rfl ?_
  unfold F62.L2
  refine ⟨fun x1 x2 x7 x8 G => ((s : Nat) : Int) = x1 ∧ H.length = x2 ∧ n = x7 ∧ H1.le G ∧ ∃ w : Nat, x8 = w ∧ (w : Int) ≤ n ∧ ∀ w', w' < w → degB es (fun j => s.testBit j) w' % 2 = 0, fun _ _ _ x8 _ => (n - x8).toNat, ⟨rfl, rfl, rfl, AHeap.le_refl _, 0, rfl, by omega, fun w' h => absurd h (by omega)⟩, ?_⟩
  rintro x1 x2 x7 x8 G ⟨rfl, rfl, rfl, hG, w, rfl, hw, hp⟩
  have lG := AHeap.le_trans l1 hG
  have oG := o1.le hG
  unfold F62.B7
  refine pif_cases (fun hb => ?_) fun hb => ?_
  · have hlt := of_decide_eq_true hb
    unfold F62.B6 F62.B5
    refine ldI_own oG rfl (ld1_own oG rfl (at_ok (h.le lG) (by omega) fun q H2 l2 f2 => setOf_ok f2.ints (by have := hg.three (v := w) (by omega) hlt; omega) (fun x hx => by have := at_range hx; omega) (asI_mk ?_)))
    have h64 : setN (atL es w) < 2 ^ 64 := setN_lt fun x hx => by have := at_range hx; omega
    rw [bits_and h64 hs]
    have hz : setN (atL es w) &&& s < 2 ^ 64 := Nat.lt_of_le_of_lt Nat.and_le_left h64
    refine size_ok hz (asI_mk ?_)
    rw [popc_deg (by omega), show Int.tmod ((degB es (fun j => s.testBit j) w : Nat) : Int) 2 = ((degB es (fun j => s.testBit j) w % 2 : Nat) : Int) by rw [Int.tmod_eq_emod_of_nonneg (by omega)]; omega]
    refine pif_cases (fun hs => ?_) fun hs => ?_
    · unfold F62.B4
      have k := k _ (AHeap.le_trans lG l2)
      rw [decide_eq_false (fun he : EvenS n es (fun j => s.testBit j) => by
        have := he w hlt
        rw [this] at hs; simp at hs)] at k
      exact k
    · unfold F62.B3
      rw [wrap_id (by omega) (by omega)]
      refine ⟨⟨rfl, rfl, rfl, AHeap.le_trans hG l2, w + 1, by omega, by omega, fun w' hw' => ?_⟩, show (n - ((w : Int) + 1)).toNat < (n - (w : Int)).toNat by omega⟩
      by_cases e : w' = w
      · subst e
        have := bne_eq_false_iff_eq.1 hs
        omega
      · exact hp w' (by omega)
  · have hge := of_decide_eq_false hb
    unfold F62.B1
    have k := k _ lG
    rw [decide_eq_true (show EvenS n es (fun j => s.testBit j) from fun w' hw' => hp w' (by omega))] at k
    exact k

theorem kept_get {es : List (Int × Int)} {l : List Int} {i : Nat} (h : i < l.length) : keptL es (l.take (i + 1)) = keptL es (l.take i) ++ [es.getD (l[i]).toNat (0, 0)] := by
  unfold keptL; rw [List.take_succ_eq_append_getElem h, List.map_append]; rfl
theorem foldl_bump_le2 (k : List (Int × Int)) (n : Nat) : ∀ c ∈ k.foldl bump (List.replicate n 0), 0 ≤ c ∧ c ≤ 2 * k.length := by
  intro c hc
  have := foldl_bump_le k _ 0 (by intro c hc; rw [List.mem_replicate] at hc; omega) c hc
  omega
theorem IsS.short {l : List Int} {n : Nat} (h : IsS l n) : l.length ≤ n := by rw [h.filt]; exact filtB_length _ _

theorem l07Even_ok {n : Int} (h : Edges H v es) (hg : IsG n es) (hc : Ints H u l) (hs : IsS l es.length) (k : ∀ G, H.le G → K (.bool (decide (EvenS n es (bitB l)))) G) :
    AC Try.prog T0 60 [.agg ⟨[.int .i64 n, v]⟩, u] H K := by
  have n0 := hg.ed.lo; have n1 := hg.ed.hi
  have h30 : es.length ≤ 30 := by have := hg.ed.len; omega
  have hll := hs.short
  have hsr : ∀ x ∈ l, 0 ≤ x ∧ x < es.length := hs.range
  apply F60.ac
  unfold F60.B15
  refine newK_f (all_iv (edges_one' h)) fun H1 l1 n1' o1 => ?_
  unfold F60.B14
  refine ldI_own o1 rfl (mkR_int (by omega) (by omega) (by decide) fun H2 l2 n2 o2 => ?_)
  rw [rep_one] at o2
  let C : Nat → List Int := fun i => (keptL es (l.take i)).foldl bump (List.replicate n.toNat 0)
  have CL : ∀ i, (C i).length = n.toNat := fun i => by show (List.foldl bump _ _).length = _; rw [foldl_bump_length]; simp
  have CB : ∀ i, ∀ c ∈ C i, 0 ≤ c ∧ c ≤ 1000 := fun i c hc => by
    have := foldl_bump_le2 _ _ c hc
    have hk : (keptL es (l.take i)).length ≤ 30 := by unfold keptL; rw [List.length_map, List.length_take]; omega
    omega
  have hsl : ∀ cs : List Int, cs.length = n.toNat → (.slice (some ⟨H1.length, 0, none⟩) n.toNat (n.toNat + 1) : Value) = .slice (some ⟨H1.length, 0, none⟩) cs.length (cs.length + 1) := fun cs h => by rw [h]
  unfold F60.B13 F60.L8
  refine ⟨fun x1 x2 x5 x6 G => u = x1 ∧ H.length = x2 ∧ .slice (some ⟨H1.length, 0, none⟩) n.toNat (n.toNat + 1) = x5 ∧ H1.le G ∧ ∃ i : Nat, x6 = i ∧ i ≤ l.length ∧ Own G H1.length 2 (LI (C i)), fun _ _ _ x6 _ => l.length - x6.toNat, ⟨rfl, rfl, rfl, l2, 0, rfl, by omega, o2⟩, ?_⟩
  rintro x1 x2 x5 x6 G ⟨rfl, rfl, rfl, hG, i, rfl, hi, oC⟩
  have lG := AHeap.le_trans l1 hG
  have oG := o1.le hG
  unfold F60.B12
  refine (hc.le lG).len (pif_cases (fun hb => ?_) fun hb => ?_)
  · have hlt : i < l.length := by have := of_decide_eq_true hb; omega
    have hx := hsr l[i] (List.getElem_mem hlt)
    have hxl : (l[i]).toNat < es.length := by omega
    obtain ⟨d1, d2, d3, d4, d5⟩ := hg.ed.ends es[(l[i]).toNat] (List.getElem_mem hxl)
    rw [← getD_of (d := (0, 0)) hxl] at d1 d2 d3 d4 d5
    unfold F60.B11
    obtain ⟨b, o, hk, c1, c2⟩ := (h.le lG).idx hx.1 hx.2
    refine ld1_own oG rfl ((hc.le lG).rd (by omega) (by omega) ?_)
    rw [Int.toNat_natCast, getD_of hlt]
    refine hk _ (ldI_mk c1 ?_)
    rw [hsl _ (CL i)]
    refine bump_at oC d1 (by rw [CL]; omega) (fun c hc => by have := CB i c hc; omega) fun G2 b2 o2 => ?_
    rw [← hsl _ (CL i)]
    have hG2 := b2.le hG (Nat.le_refl _)
    have lG2 := AHeap.le_trans l1 hG2
    unfold F60.B10
    obtain ⟨b', o', hk', c1', c2'⟩ := (h.le lG2).idx hx.1 hx.2
    refine ld1_own (o1.le hG2) rfl ((hc.le lG2).rd (by omega) (by omega) ?_)
    rw [Int.toNat_natCast, getD_of hlt]
    refine hk' _ (ldI_mk c2' ?_)
    rw [hsl _ ((bump1_length _ _).trans (CL i))]
    refine bump_at o2 d3 (by rw [bump1_length, CL]; omega) (fun c hc => by have := bump1_le (CB i) _ c hc; omega) fun G3 b3 o3 => ?_
    rw [← hsl _ ((bump1_length _ _).trans (CL i))]
    unfold F60.B9
    rw [wrap_id (by omega) (by omega)]
    refine ⟨⟨rfl, rfl, rfl, b3.le hG2 (Nat.le_refl _), i + 1, by omega, by omega, ?_⟩, by simp; omega⟩
    have : C (i + 1) = bump (C i) (es.getD (l[i]).toNat (0, 0)) := by
      show List.foldl bump _ (keptL es (l.take (i + 1))) = _
      rw [kept_get hlt, List.foldl_append]; rfl
    rw [this]; exact o3
  · have hge : i = l.length := by have := of_decide_eq_false hb; omega
    subst hge
    have hC : ∀ w : Nat, (w : Int) < n → (C l.length).getD w 0 = (degB es (bitB l) w : Nat) := by
      intro w hw
      show (List.foldl bump _ (keptL es (l.take l.length))).getD w 0 = _
      rw [List.take_length, foldl_bump_at (n := n.toNat) (by omega) _ _ (by simp) fun e he => ?_, ← kept_deg es (bitB l) w, ← hs.filt]
      · simp [List.getD, show w < n.toNat by omega]
      · unfold keptL at he
        rw [List.mem_map] at he
        obtain ⟨x, hx, rfl⟩ := he
        have hx := hsr x hx
        have hxl : x.toNat < es.length := by omega
        obtain ⟨d1, d2, d3, d4, d5⟩ := hg.ed.ends es[x.toNat] (List.getElem_mem hxl)
        rw [getD_of hxl]; exact ⟨d1, d3, d5⟩
    have hCi := own_ints (c := n.toNat + 1) oC
    rw [CL] at hCi
    unfold F60.B7 F60.L2
    refine ⟨fun x5 x7 G' => .slice (some ⟨H1.length, 0, none⟩) n.toNat (n.toNat + 1) = x5 ∧ G = G' ∧ ∃ w : Nat, x7 = w ∧ w ≤ n.toNat ∧ ∀ w', w' < w → degB es (bitB l) w' % 2 = 0, fun _ x7 _ => (n - x7).toNat, ⟨rfl, rfl, 0, rfl, by omega, fun w' h => absurd h (by omega)⟩, ?_⟩
    rintro x5 x7 G' ⟨rfl, rfl, w, rfl, hw, hp⟩
    unfold F60.B6
    refine lenK_of (pif_cases (fun hb => ?_) fun hb => ?_)
    · have hwn : (w : Int) < n := by have := of_decide_eq_true hb; omega
      unfold F60.B5
      refine hCi.rd (by omega) (by rw [CL]; omega) ?_
      rw [Int.toNat_natCast, hC w hwn, show Int.tmod ((degB es (bitB l) w : Nat) : Int) 2 = ((degB es (bitB l) w % 2 : Nat) : Int) by rw [Int.tmod_eq_emod_of_nonneg (by omega)]; omega]
      refine pif_cases (fun hs' => ?_) fun hs' => ?_
      · unfold F60.B4
        have k := k _ lG
        rw [decide_eq_false (fun he : EvenS n es (bitB l) => by
          have := he w hwn
          rw [this] at hs'; simp at hs')] at k
        exact k
      · unfold F60.B3
        rw [wrap_id (by omega) (by omega)]
        refine ⟨⟨rfl, rfl, w + 1, by omega, by omega, fun w' hw' => ?_⟩, show (n - ((w : Int) + 1)).toNat < (n - (w : Int)).toNat by omega⟩
        by_cases e : w' = w
        · subst e
          have := bne_eq_false_iff_eq.1 hs'
          omega
        · exact hp w' (by omega)
    · have hge : ¬ (w : Int) < n := by have := of_decide_eq_false hb; omega
      unfold F60.B1
      have k := k _ lG
      rw [decide_eq_true (show EvenS n es (bitB l) from fun w' hw' => hp w' (by omega))] at k
      exact k

end Go.Proofs
