/- Contracts: the cycles of a set of edges, the program's way. -/
import Derived.Test.YtfcflpcmjlbedabK2
import Derived.Test.YtfcflpcmjlbedabU15
set_option linter.unusedVariables false
set_option linter.unusedSimpArgs false
set_option maxRecDepth 100000
namespace Go.Proofs
open Go.Abs

variable {H G : AHeap} {v u f : Value} {l m c : List Int} {es fs : List (Int × Int)} {K : Value → AHeap → Prop} {A : Nat → Prop} {B : Nat} {ls : List (List Int)}

noncomputable def tiSet : TI := (T0 72).getD ⟨.bool, 0, 0, undef⟩
theorem E_set : Elem T0 72 1 := ⟨tiSet, by kernel_rfl, by kernel_rfl, of_decide_eq_true (by kernel_rfl), by kernel_rfl⟩
theorem LU_get {Z : List Nat} {i : Nat} (h : i < Z.length) : (LU Z)[i]? = some (.int .u64 (Z.getD i 0 : Nat)) := by simp [h]

theorem indexU_ok {p : Nat → Bool} {Z : List Nat} {m0 : Nat} (h : Sl m0 H v 72 1 (LU Z)) (hl : Z.length ≤ 4611686018427387904) (hf : ∀ e ∈ Z, Cl H f (.int .u64 (e : Nat)) (p e)) (k : ∀ r G, H.le G → decide (r ≥ 0) = Z.any p → K (.int .i64 r) G) :
    AC Try.prog T0 150 [v, f] H K := by
  apply F150.ac
  unfold F150.B9 F150.B8
  refine h.len (by decide) (n := Z.length) (by simp) ?_
  unfold F150.L2
  refine ⟨fun x0 x1 x7 x8 G => v = x0 ∧ f = x1 ∧ (Z.length : Int) = x7 ∧ H.le G ∧ ∃ n : Nat, x8 = n ∧ n ≤ Z.length ∧ ∀ i : Nat, i < n → p (Z.getD i 0) = false, fun _ _ _ x8 _ => Z.length - x8.toNat, ⟨rfl, rfl, rfl, AHeap.le_refl _, 0, rfl, by omega, fun i hi => absurd hi (by omega)⟩, ?_⟩
  rintro x0 x1 x7 x8 G ⟨rfl, rfl, rfl, hG, n, rfl, hn', hp⟩
  unfold F150.B7
  refine pif_cases (fun hb => ?_) fun hb => ?_
  · have hn : n < Z.length := by have := of_decide_eq_true hb; omega
    unfold F150.B6 F150.B5
    refine Sl_rdI (h.le hG) (by omega) (by simp; omega) (by rw [Int.toNat_natCast]; exact LU_get hn) ?_
    rw [getD_of hn]
    refine hf Z[n] (List.getElem_mem hn) G hG _ fun G2 hG2 => asB_mk (pif_cases (fun hb => ?_) fun hb => ?_)
    · unfold F150.B4
      refine k _ _ (AHeap.le_trans hG hG2) ?_
      rw [List.any_eq_true.2 ⟨Z[n], List.getElem_mem hn, hb⟩]; simp
    · unfold F150.B3
      rw [wrap_id (by omega) (by omega)]
      refine ⟨⟨rfl, rfl, rfl, AHeap.le_trans hG hG2, n + 1, by omega, by omega, fun i hi => ?_⟩, by simp; omega⟩
      by_cases he : i = n
      · subst he; rw [getD_of hn]; exact hb
      · exact hp i (by omega)
  · have hge : n = Z.length := by have := of_decide_eq_false hb; omega
    unfold F150.B1
    refine k _ _ hG ?_
    have : Z.any p = false := by
      rw [List.any_eq_false]
      intro e he
      obtain ⟨i, hi, rfl⟩ := List.getElem_of_mem he
      have := hp i (by omega)
      rw [getD_of hi] at this; simp [this]
    rw [this]; simp
theorem containsU_ok {p : Nat → Bool} {Z : List Nat} {m0 : Nat} (h : Sl m0 H v 72 1 (LU Z)) (hl : Z.length ≤ 4611686018427387904) (hf : ∀ e ∈ Z, Cl H f (.int .u64 (e : Nat)) (p e)) (k : ∀ G, H.le G → K (.bool (Z.any p)) G) :
    AC Try.prog T0 103 [v, f] H K := by
  apply F103.ac
  unfold F103.B2 F103.B1
  refine indexU_ok h hl hf fun r G hG hr => asI_mk ?_
  rw [hr]; exact k G hG

/-- A part as a number. -/
noncomputable def compN (es : List (Int × Int)) (p : Nat → Bool) (i : Nat) : Nat := setN (compL es p i)
noncomputable def cycN (es : List (Int × Int)) (p : Nat → Bool) (l : List Int) : List Nat := (l.filter fun x => cLeadB es p x.toNat).map fun x => compN es p x.toNat
theorem cycN_take {es : List (Int × Int)} {p : Nat → Bool} {l : List Int} {t : Nat} (h : t < l.length) : cycN es p (l.take (t + 1)) = cycN es p (l.take t) ++ if cLeadB es p (l[t]).toNat then [compN es p (l[t]).toNat] else [] := by
  unfold cycN
  rw [List.take_succ_eq_append_getElem h, List.filter_append, List.map_append]
  congr 1
  cases hl : cLeadB es p (l[t]).toNat <;> simp [hl]
theorem compL_range {es : List (Int × Int)} {p : Nat → Bool} {i : Nat} {x : Int} (h : x ∈ compL es p i) : 0 ≤ x ∧ x < es.length := by
  obtain ⟨j, rfl, h1, _⟩ := mem_compL.1 h
  omega
theorem compN_bit {es : List (Int × Int)} {p : Nat → Bool} {i j : Nat} : (compN es p i).testBit j = true ↔ j < es.length ∧ Rch (eAdj es p) i j := by
  unfold compN
  rw [setN_bit fun x hx => (compL_range hx).1, decide_eq_true_iff, mem_compL]
  constructor
  · rintro ⟨j', h1, h2⟩
    obtain rfl : j = j' := by omega
    exact h2
  · rintro ⟨h1, h2⟩
    exact ⟨j, rfl, h1, h2⟩
theorem compN_of {es : List (Int × Int)} {p : Nat → Bool} {i s : Nat} (h1 : ∀ j, s.testBit j = true → j < es.length) (h2 : ∀ j, s.testBit j = true ↔ Rch (eAdj es p) i j) : s = compN es p i := by
  apply Nat.eq_of_testBit_eq
  intro j
  rw [Bool.eq_iff_iff, compN_bit, ← h2]
  exact ⟨fun h => ⟨h1 j h, h⟩, fun h => h.2⟩
theorem compN_lt {es : List (Int × Int)} {p : Nat → Bool} {i : Nat} (hm : es.length ≤ 64) : compN es p i < 2 ^ 64 := setN_lt fun x hx => by have := compL_range hx; omega
theorem compN_list {es : List (Int × Int)} {p : Nat → Bool} {i : Nat} (hm : es.length ≤ 64) : bitsL (compN es p i) = compL es p i := by
  rw [bitsL_filt hm fun j hj => (compN_bit.1 hj).1]
  unfold compL
  refine filtB_congr fun j hj => ?_
  rw [Bool.eq_iff_iff, compN_bit, rchB_iff]
  exact ⟨fun h => h.2, fun h => ⟨hj, h⟩⟩
theorem cycN_any {es : List (Int × Int)} {p : Nat → Bool} {l : List Int} (hl : l = filtB p es.length) {t x : Nat} (ht : t < l.length) (hx : l[t] = (x : Int)) (hm : x < es.length) : (cycN es p (l.take t)).any (fun z => z.testBit x) = !cLeadB es p x := by
  have h := met_iff (n := 0) hl ht
  rw [hx, Int.toNat_natCast] at h
  have : (cycN es p (l.take t)).any (fun z => z.testBit x) = true ↔ cLeadB es p x = false := by
    rw [← h, List.any_eq_true]
    constructor
    · rintro ⟨z, hz, hb⟩
      unfold cycN at hz
      rw [List.mem_map] at hz
      obtain ⟨y, hy, rfl⟩ := hz
      rw [List.mem_filter] at hy
      exact ⟨y, hy.1, hy.2, (compN_bit.1 hb).2⟩
    · rintro ⟨y, h1, h2, h3⟩
      refine ⟨compN es p y.toNat, ?_, compN_bit.2 ⟨hm, h3⟩⟩
      unfold cycN
      exact List.mem_map.2 ⟨y, List.mem_filter.2 ⟨h1, h2⟩, rfl⟩
  rw [Bool.eq_iff_iff, this]; simp

theorem has_cl {x b : Nat} {s : Nat} (hs : s < 2 ^ 64) (ho : Own H b 2 [.int .i64 (x : Nat)]) : Cl H (.func (.func 104) ⟨[]⟩ ⟨[.pointer (some ⟨b, 0, none⟩)]⟩) (.int .u64 (s : Nat)) (s.testBit x) := by
  intro G hG K k
  refine callV_mk ?_
  apply F104.ac
  unfold F104.B2 F104.B1
  refine asP_mk (ldI_own (ho.le hG) rfl (has_ok hs (by omega) (asB_mk ?_)))
  rw [Int.toNat_natCast]
  exact k _ (AHeap.le_refl _)

theorem cycles_ok {n : Int} {s : Nat} (h : Edges H v es) (hg : IsG n es) (hs : s < 2 ^ 64) (hsb : ∀ j, s.testBit j = true → j < es.length)
    (k : ∀ v' G, H.le G → Fresh H.length G v' 72 1 (LU (cycN es (fun j => s.testBit j) (filtB (fun j => s.testBit j) es.length))) → K v' G) : AC Try.prog T0 56 [.agg ⟨[.int .i64 n, v]⟩, .int .u64 (s : Nat)] H K := by
  have h30 : es.length ≤ 30 := by have := hg.ed.len; have := hg.ed.hi; omega
  apply F56.ac
  unfold F56.B28
  refine newK_f (all_iv (edges_one' h)) fun H1 l1 n1 o1 => ?_
  unfold F56.B27 F56.B26
  refine list_ok hs fun w H2 l2 f2 => ?_
  obtain ⟨p, hp⟩ : ∃ p : Nat → Bool, p = fun j => s.testBit j := ⟨_, rfl⟩
  rw [bitsL_filt (by omega) hsb, ← hp] at f2
  rw [← hp] at k
  obtain ⟨L, hL⟩ : ∃ L, L = filtB p es.length := ⟨_, rfl⟩
  rw [← hL] at f2 k
  have hLl : L.length ≤ es.length := by rw [hL]; exact filtB_length _ _
  have l12 := AHeap.le_trans l1 l2
  refine f2.ints.len ?_
  unfold F56.L2
  refine ⟨fun x1 x2 x5 x15 x16 x17 G => ((s : Nat) : Int) = x1 ∧ H.length = x2 ∧ w = x15 ∧ (L.length : Int) = x16 ∧ H2.le G ∧ ∃ t : Nat, x17 = t ∧ t ≤ L.length ∧ Fresh H2.length G x5 72 1 (LU (cycN es p (L.take t))), fun _ _ _ _ _ x17 _ => L.length - x17.toNat, ⟨rfl, rfl, rfl, rfl, AHeap.le_refl _, 0, rfl, by omega, .inl ⟨rfl, .inl rfl⟩⟩, ?_⟩
  rintro x1 x2 x5 x15 x16 x17 G ⟨rfl, rfl, rfl, rfl, hG, t, rfl, ht, hF⟩
  have lG := AHeap.le_trans l12 hG
  have oG := (o1.le l2).le hG
  unfold F56.B25
  refine pif_cases (fun hb => ?_) fun hb => ?_
  · have htl : t < L.length := by have := of_decide_eq_true hb; omega
    obtain ⟨e, he1, he2, he3⟩ : ∃ e : Nat, L[t] = (e : Int) ∧ e < es.length ∧ p e = true := by
      have hm : L[t] ∈ L := List.getElem_mem htl
      obtain ⟨j, h1, h2⟩ := mem_filtB.1 (show L[t] ∈ filtB p es.length by rw [← hL]; exact hm)
      exact ⟨j, h1, h2⟩
    have hany := cycN_any hL htl he1 he2
    have hzl : (cycN es p (L.take t)).length ≤ 30 := by
      unfold cycN; rw [List.length_map]
      exact Nat.le_trans (List.length_filter_le _ _) (by rw [List.length_take]; omega)
    unfold F56.B24
    refine (f2.ints.le hG).rd (by omega) (by omega) (newK_f rfl fun H3 l3 n3 o3 => stK_f o3 (by simp) (by simp [Value.oneCell']) rfl fun H4 b4 o4 => ?_)
    rw [Int.toNat_natCast, getD_of htl, he1] at o4
    have l4 : G.le H4 := b4.le l3 (Nat.le_refl _)
    have skip : cLeadB es p e = false → ∀ N2 : Int → Nat → Value → Value → Int → Int → AHeap → Prop, ∀ G', H4.le G' → (∀ x5' G'', H2.le G'' → Fresh H2.length G'' x5' 72 1 (LU (cycN es p (L.take (t + 1)))) → N2 s H.length x5' w L.length ((t : Int) + 1) G'') → F56.B3 K N2 s H.length x5 w L.length t G' := by
      intro hl N2 G' hG' hN
      unfold F56.B3
      rw [wrap_id (by omega) (by omega)]
      refine hN x5 G' (AHeap.le_trans hG (AHeap.le_trans l4 hG')) ?_
      rw [cycN_take htl, he1, Int.toNat_natCast, hl]
      simpa using hF.le (AHeap.le_trans l4 hG')
    have fin : ∀ x5' G'', H2.le G'' → Fresh H2.length G'' x5' 72 1 (LU (cycN es p (L.take (t + 1)))) → (((s : Nat) : Int) = s ∧ H.length = H.length ∧ w = w ∧ (L.length : Int) = L.length ∧ H2.le G'' ∧ ∃ t' : Nat, (t : Int) + 1 = t' ∧ t' ≤ L.length ∧ Fresh H2.length G'' x5' 72 1 (LU (cycN es p (L.take t')))) ∧ L.length - ((t : Int) + 1).toNat < L.length - (t : Int).toNat :=
      fun x5' G'' h1 h2 => ⟨⟨rfl, rfl, rfl, rfl, h1, t + 1, by omega, by omega, h2⟩, by omega⟩
    have bfs : cLeadB es p e = true → ∀ N2 : Int → Nat → Value → Value → Int → Int → AHeap → Prop, ∀ G0, H4.le G0 → (∀ x5' G'', H2.le G'' → Fresh H2.length G'' x5' 72 1 (LU (cycN es p (L.take (t + 1)))) → N2 s H.length x5' w L.length ((t : Int) + 1) G'') → F56.B22 K N2 s H.length x5 G.length w L.length t G0 := by
      intro hlead N2 G0 hG0 hN
      have lG0 := AHeap.le_trans lG (AHeap.le_trans l4 hG0)
      have l20 := AHeap.le_trans hG (AHeap.le_trans l4 hG0)
      have hF := hF.le (AHeap.le_trans l4 hG0)
      have oG := oG.le (AHeap.le_trans l4 hG0)
      unfold F56.B22
      refine ldI_own (o4.le hG0) rfl ⟨by omega, ?_⟩
      rw [one_shl (by omega) (by omega), Int.toNat_natCast]
      have p64 : 2 ^ e < 2 ^ 64 := Nat.pow_lt_pow_right (by decide) (by omega)
      unfold F56.B21
      refine ldI_own (o4.le hG0) rfl (newK_f rfl fun H5 l5 n5 o5 => ?_)
      unfold F56.L5
      refine ⟨fun x1 x2 x5' x8 x9 x15 x16 x17 G => ((s : Nat) : Int) = x1 ∧ H.length = x2 ∧ x5 = x5' ∧ w = x15 ∧ (L.length : Int) = x16 ∧ (t : Int) = x17 ∧ G0.le G ∧ BitQ G0.length (fun S Q => Ex (eAdj es p) e S Q ∧ (∀ y, S y = true → y < es.length) ∧ 2 * unseen S es.length + Q.length ≤ 61) x8 x9 G,
        fun _ _ _ x8 x9 _ _ _ _ => 2 * unseen (fun j => x8.toNat.testBit j) es.length + lenV x9, ⟨rfl, rfl, rfl, rfl, rfl, rfl, l5, 2 ^ e, [e], rfl, p64, ⟨.init fun x => ?_, fun y hy => ?_, by have := unseen_le (fun j => (2 ^ e).testBit j) es.length; simp; omega⟩, (Fresh.sl (.inr ⟨_, 1, Nat.le_refl _, rfl, o5, rfl⟩))⟩, ?_⟩
      · rw [Nat.testBit_two_pow]; simp [eq_comm]
      · have hy : (2 ^ e).testBit y = true := hy
        rw [Nat.testBit_two_pow] at hy; have := of_decide_eq_true hy; omega
      rintro x1 x2 x5' x8 x9 x15 x16 x17 G1 ⟨rfl, rfl, rfl, rfl, rfl, rfl, hG1, z, Q, rfl, hz, ⟨hE, hB, hU⟩, hQ⟩
      have lG1 := AHeap.le_trans lG0 hG1
      have oG1 := oG.le hG1
      unfold F56.B20
      refine hQ.len (by decide) (n := Q.length) (by simp) (pif_cases (fun hb => ?_) fun hb => ?_)
      · have hpos : 0 < Q.length := by have := of_decide_eq_true hb; omega
        cases Q with
        | nil => simp at hpos
        | cons x Q =>
        have hxl : x < es.length := hB x (hE.q x (by simp))
        obtain ⟨d1, d2, d3, d4, d5⟩ := hg.ed.ends es[x] (List.getElem_mem hxl)
        rw [← getD_of (d := (0, 0)) hxl] at d1 d2 d3 d4 d5
        have hmu : 2 * unseen (fun j => (((z : Nat) : Int).toNat).testBit j) es.length + lenV x9 = 2 * unseen (fun j => z.testBit j) es.length + (Q.length + 1) := by
          rw [Sl_lenV hQ]; simp
        have hU : 2 * unseen (fun j => z.testBit j) es.length + (Q.length + 1) ≤ 61 := hU
        unfold F56.B19
        refine ld1_own oG1 rfl (hQ.ints.rd (by decide) (by simp) ?_)
        rw [show (NI (x :: Q)).getD (0 : Int).toNat 0 = (x : Int) from rfl]
        obtain ⟨bb, oo, hk, c1, c2⟩ := (h.le lG1).idx (show (0 : Int) ≤ x by omega) (by omega)
        simp only [Int.toNat_natCast] at c1 c2
        refine hk _ (ldI_mk c1 (ldI_mk c2 ?_))
        unfold F56.L7
        refine ⟨fun x1 x2 x5' x8 x9 x15 x16 x17 x44a x44b x45 G => ((s : Nat) : Int) = x1 ∧ H.length = x2 ∧ x5 = x5' ∧ w = x15 ∧ (L.length : Int) = x16 ∧ (t : Int) = x17 ∧ (es.getD x (0, 0)).1 = x44a ∧ (es.getD x (0, 0)).2 = x44b ∧ G0.le G ∧ ∃ m : Nat, x45 = m ∧ m ≤ 2 ∧ BitQ G0.length (fun S Q' => ∃ R, Q' = x :: R ∧ InX es p e x (2 * unseen (fun j => z.testBit j) es.length + (Q.length + 1)) (PastE es p x m) S R) x8 x9 G,
          fun _ _ _ _ _ _ _ _ _ _ x45 _ => 2 - x45.toNat, ⟨rfl, rfl, rfl, rfl, rfl, rfl, rfl, rfl, hG1, 0, rfl, by omega, z, x :: Q, rfl, hz, ⟨Q, rfl, hE, hB, Nat.le_refl _, fun j ⟨_, _, m', h, _⟩ => absurd h (by omega)⟩, hQ⟩, ?_⟩
        clear hQ hE hB hG1 oG1 lG1 hk c1 c2
        rintro x1 x2 x5' x8 x9' x15 x16 x17 x44a x44b x45 G1 ⟨rfl, rfl, rfl, rfl, rfl, rfl, rfl, rfl, hG1, m, rfl, hm, z', _, rfl, hz', ⟨R, rfl, hX⟩, hQ⟩
        have lG1 := AHeap.le_trans lG0 hG1
        have oG1 := oG.le hG1
        unfold F56.B18
        refine pif_cases (fun hb => ?_) fun hb => ?_
        · have hm2 : m < 2 := by have := of_decide_eq_true hb; omega
          unfold F56.B17
          have hat : ([.int .i64 (es.getD x (0, 0)).1, .int .i64 (es.getD x (0, 0)).2] : List Value)[(m : Int).toNat * 1]? = some (.int .i64 (en (es.getD x (0, 0)) m)) := by
            rcases (by omega : m = 0 ∨ m = 1) with rfl | rfl <;> rfl
          refine bndK_iff.2 ⟨by omega, by omega, ?_⟩
          unfold atK
          rw [hat]
          refine asI_mk ?_
          unfold F56.B16
          refine ldI_own oG1 rfl (ld1_own oG1 rfl (at_ok (h.le lG1) (by omega) fun q H6 l6 f6 => ?_))
          have hv : 0 ≤ en (es.getD x (0, 0)) m ∧ en (es.getD x (0, 0)) m < n := by unfold en; split <;> omega
          have h3 := hg.three hv.1 hv.2
          refine f6.len (by decide) (n := 3) (by rw [List.length_map, h3]) ?_
          have lG6 := AHeap.le_trans hG1 l6
          unfold F56.L9
          refine ⟨fun x1 x2 x5' x8 x9 x15 x16 x17 x44a x44b x45 x50 x51 x52 G => ((s : Nat) : Int) = x1 ∧ H.length = x2 ∧ x5 = x5' ∧ w = x15 ∧ (L.length : Int) = x16 ∧ (t : Int) = x17 ∧ (es.getD x (0, 0)).1 = x44a ∧ (es.getD x (0, 0)).2 = x44b ∧ (m : Int) = x45 ∧ q = x50 ∧ 3 = x51 ∧ G0.le G ∧ Sl 0 G q 2 1 (LI (atL es (en (es.getD x (0, 0)) m))) ∧ (∀ b, bk q = some b → bk x9 ≠ some b) ∧
              ∃ y : Nat, x52 = y ∧ y ≤ 3 ∧ BitQ G0.length (fun S Q' => ∃ R, Q' = x :: R ∧ InX es p e x (2 * unseen (fun j => z.testBit j) es.length + (Q.length + 1)) (PastT es p x m y) S R) x8 x9 G,
            fun _ _ _ _ _ _ _ _ _ _ _ _ _ x52 _ => 3 - x52.toNat, ⟨rfl, rfl, rfl, rfl, rfl, rfl, rfl, rfl, rfl, rfl, rfl, lG6, f6.less (Nat.zero_le _), (fun b hb hb' => by have := (f6.lt hb).1; have := (hQ.lt hb').2; omega), 0, rfl, by omega, z', x :: R, rfl, hz', ⟨R, rfl, hX.more fun j hj => .inl ?_⟩, hQ.le l6⟩, ?_⟩
          · rcases hj with hj | ⟨_, t', h, _⟩
            · exact hj
            · exact absurd h (by omega)
          clear hX hQ f6 l6 lG6 oG1 lG1 hG1
          rintro x1 x2 x5' x8 x9' x15 x16 x17 x44a x44b x45 x50 x51 x52 G3 ⟨rfl, rfl, rfl, rfl, rfl, rfl, rfl, rfl, rfl, rfl, rfl, hG3, hW, hA, y, rfl, hy, z3, _, rfl, hz3, ⟨R3, rfl, hX⟩, hQ⟩
          unfold F56.B15
          refine pif_cases (fun hb => ?_) fun hb => ?_
          · have ht3 : y < 3 := by have := of_decide_eq_true hb; omega
            obtain ⟨i, hi1, hi2, hi3⟩ := at_get (es := es) (w := en (es.getD x (0, 0)) m) (t := y) (by omega)
            have hxi : share (es.getD x (0, 0)) (es.getD i (0, 0)) := ⟨_, on_en, hi3⟩
            have hpast : ∀ j, PastT es p x m (y + 1) j → PastT es p x m y j ∨ (p j = true ∧ j = i) := fun j hj => (PastT.step hj).imp id fun ⟨h1, h2⟩ => ⟨h1, by omega⟩
            have pi' : p i = s.testBit i := by rw [hp]
            unfold F56.B14
            refine hW.ints.rd (by omega) (by omega) ?_
            simp only [Int.toNat_natCast, hi1]
            unfold F56.B13
            refine has_ok hs (by omega) (asB_mk ?_)
            simp only [Int.toNat_natCast]
            rw [← pi']
            refine pif_cases (fun hpi => ?_) fun hpi => ?_
            · refine has_ok hz3 (by omega) (asB_mk ?_)
              simp only [Int.toNat_natCast]
              refine pif_cases (fun hb => ?_) fun hb => ?_
              · have hn : z3.testBit i = false := by simpa using hb
                have pi : 2 ^ i < 2 ^ 64 := Nat.pow_lt_pow_right (by decide) (by omega)
                unfold F56.B12
                refine ⟨by omega, ?_⟩
                rw [one_shl (by omega) (by omega), Int.toNat_natCast, bits_or hz3 pi]
                unfold F56.B11
                refine hQ.pushN E_int (by decide) hG3.1 (n := 1) (ys := [.int .i64 i]) rfl rfl (by have := hX.mu; simp; omega) (by simp) fun v' G4 k4 ot4 nb4 f4 => ?_
                unfold F56.B10
                rw [wrap_id (by omega) (by omega)]
                refine ⟨⟨rfl, rfl, rfl, rfl, rfl, rfl, rfl, rfl, rfl, rfl, rfl, k4.le hG3 (Nat.le_refl _), hW.oth ot4 hA, (fun b hb hb' => by have := (hW.lt hb).2; have := nb4 b hb'; omega), y + 1, by omega, by omega, z3 ||| 2 ^ i, x :: (R3 ++ [i]), rfl, or_lt hz3 pi, ⟨R3 ++ [i], rfl, hX.push ⟨hi2, hpi, hxi⟩ hn or_bit fun j hj => ?_⟩, ?_⟩, by simp; omega⟩
                · exact (hpast j hj).imp id fun h => h.2
                · have := f4.sl
                  simpa using this
              · have hn : z3.testBit i = true := by simpa using hb
                unfold F56.B10
                rw [wrap_id (by omega) (by omega)]
                refine ⟨⟨rfl, rfl, rfl, rfl, rfl, rfl, rfl, rfl, rfl, rfl, rfl, hG3, hW, hA, y + 1, by omega, by omega, z3, x :: R3, rfl, hz3, ⟨R3, rfl, hX.more fun j hj => ?_⟩, hQ⟩, by simp; omega⟩
                rcases hpast j hj with h | ⟨h, rfl⟩
                · exact .inl h
                · exact .inr hn
            · unfold F56.B10
              rw [wrap_id (by omega) (by omega)]
              refine ⟨⟨rfl, rfl, rfl, rfl, rfl, rfl, rfl, rfl, rfl, rfl, rfl, hG3, hW, hA, y + 1, by omega, by omega, z3, x :: R3, rfl, hz3, ⟨R3, rfl, hX.more fun j hj => ?_⟩, hQ⟩, by simp; omega⟩
              rcases hpast j hj with h | ⟨h, rfl⟩
              · exact .inl h
              · rw [hpi] at h; cases h
          · have ht3 : y = 3 := by have := of_decide_eq_false hb; omega
            subst ht3
            unfold F56.B8
            rw [wrap_id (by omega) (by omega)]
            exact ⟨⟨rfl, rfl, rfl, rfl, rfl, rfl, rfl, rfl, hG3, m + 1, by omega, by omega, z3, x :: R3, rfl, hz3, ⟨R3, rfl, hX.more fun j hj => .inl (by rw [← h3]; exact PastT.fin hj)⟩, hQ⟩, by simp; omega⟩
        · have hm2 : m = 2 := by have := of_decide_eq_false hb; omega
          subst hm2
          unfold F56.B6
          obtain ⟨hE, hlt⟩ := hX.pop fun j h1 h2 h3 => ⟨h1, h2, h3.elim (fun h => ⟨0, by omega, h⟩) fun h => ⟨1, by omega, h⟩⟩
          refine hQ.drop (i := 1) (n := R.length + 1) (by simp) (by decide) (by omega) (by omega) fun v' hv' => ?_
          have hv' : Sl G0.length G1 v' 2 1 (LI (NI R)) := by simpa using hv'
          refine ⟨⟨rfl, rfl, rfl, rfl, rfl, rfl, hG1, z', R, rfl, hz', ⟨hE, hX.bnd, by omega⟩, hv'⟩, ?_⟩
          show 2 * unseen (fun j => (((z' : Nat) : Int).toNat).testBit j) es.length + lenV v' < 2 * unseen (fun j => (((z : Nat) : Int).toNat).testBit j) es.length + lenV x9
          rw [hmu, Sl_lenV hv']
          simpa using hlt
      · have hq0 : Q = [] := by
          have := of_decide_eq_false hb
          cases Q with
          | nil => rfl
          | cons x Q => simp at this
        subst hq0
        have hzc : z = compN es p e := compN_of hB hE.fin
        unfold F56.B4
        refine (hF.le hG1).sl.pushN E_set (by decide) (by have := l20.1; have := hG1.1; omega) (n := 1) (ys := [.int .u64 (z : Nat)]) rfl rfl (by simp; omega) (by simp) fun v' G6 k6 _ _ f6 => ?_
        unfold F56.B3
        rw [wrap_id (by omega) (by omega)]
        refine hN v' G6 (k6.le (AHeap.le_trans l20 hG1) (Nat.le_refl _)) ?_
        rw [cycN_take htl, he1, Int.toNat_natCast, hlead, ← hzc]
        simpa using f6
    have hFc : Sl H2.length H4 x5 72 1 (LU (cycN es p (L.take t))) := (hF.le l4).sl
    have hzb : ∀ z ∈ cycN es p (L.take t), z < 2 ^ 64 := by
      intro z hz
      unfold cycN at hz
      obtain ⟨y, _, rfl⟩ := List.mem_map.1 hz
      exact compN_lt (by omega)
    unfold F56.B23
    refine hFc.len (by decide) (n := (cycN es p (L.take t)).length) (by simp) (pif_cases (fun hb => ?_) fun hb => ?_)
    · refine containsU_ok (p := fun z => z.testBit e) hFc (by omega) (fun z hz => has_cl (hzb z hz) o4) fun G7 l7 => asB_mk ?_
      rw [hany]
      cases hl : cLeadB es p e with
      | true => exact pif_f rfl (bfs hl _ G7 l7 fin)
      | false => exact pif_t rfl (skip hl _ G7 l7 fin)
    · have hz0 : cycN es p (L.take t) = [] := by
        have := of_decide_eq_false hb
        exact List.length_eq_zero_iff.1 (by omega)
      rw [hz0] at hany
      refine bfs ?_ _ H4 (AHeap.le_refl _) fin
      simpa using hany
  · have hge : t = L.length := by have := of_decide_eq_false hb; omega
    subst hge
    rw [List.take_length] at hF
    unfold F56.B1
    exact k _ _ lG (hF.less l12.1)

end Go.Proofs
