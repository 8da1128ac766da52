/- Contracts: covers of colourings, both sides. -/
import Derived.Test.YtfcflpcmjlbedabU20
set_option linter.unusedVariables false
set_option linter.unusedSimpArgs false
set_option maxRecDepth 100000
namespace Go.Proofs
open Go.Abs

variable {H G : AHeap} {v u f w : Value} {l m c : List Int} {es fs : List (Int × Int)} {K : Value → AHeap → Prop} {A : Nat → Prop} {B C : Nat} {ls ms : List (List Int)}

theorem fresh_cells {m0 : Nat} {t : TypeId} {z n : Nat} {cs : List Value} (h : Fresh m0 H v t z cs) (hz : 0 < z) (hn : cs.length = n * z) : cellsAt H v z n cs := by
  rcases h with ⟨rfl, h⟩ | ⟨b, k, _, rfl, ho, hk⟩
  · have : n = 0 := by
      cases n with
      | zero => rfl
      | succ n => simp [Nat.add_mul] at hn; omega
    subst this
    rcases h with rfl | ⟨a, rfl⟩
    · exact ⟨hn, _, _, rfl, .inl rfl⟩
    · exact ⟨hn, _, _, rfl, .inl rfl⟩
  · obtain rfl : k = n := Nat.eq_of_mul_eq_mul_right hz (hk.symm.trans hn)
    exact cellsAt_row ho hn
theorem RowsF.app (h : RowsF A B H v ls) (g : RowsF (fun b => B ≤ b) C H w ms) (hB : B ≤ H.length) (hC : C ≤ H.length) (hA : ∀ b, B ≤ b → A b) (hs : ls.length + ms.length ≤ 4294967296)
    (k : ∀ v' G, Oth v H G → H.length ≤ G.length → RowsF A G.length G v' (ls ++ ms) → K v' G) : apK T0 25 H v w K := by
  obtain ⟨vs, h1, h2, h3, h4⟩ := h
  obtain ⟨ws, g1, g2, g3, g4⟩ := g
  refine h1.sl.app E_row (by decide) (Nat.zero_le _) (fresh_cells g1 (by decide) (n := ms.length) (by omega)) (by omega) (fun h0 => ?_) fun v' G k1 ot nb f' => k v' G ot k1.len ?_
  · have : ms = [] := List.length_eq_zero_iff.1 (by rw [← g2, h0]; rfl)
    subst this
    rw [List.append_nil] at k
    exact k v H (fun _ _ _ h => h) (Nat.le_refl _) ((show RowsF A B H v ls from ⟨vs, h1, h2, h3, h4⟩).mono (fun _ h => h) hB)
  · refine ⟨vs ++ ws, f', by simp [h2, g2], fun b hb => ⟨hA b (by have := nb b hb; omega), (f'.bk_lt hb).2⟩, fun i hi => ?_⟩
    rw [List.length_append] at hi
    by_cases e : i < ls.length
    · obtain ⟨w', q1, q2, q3⟩ := h4 i e
      refine ⟨w', by rw [List.getElem?_append_left (by omega)]; exact q1, ?_, fun b hb => ?_⟩
      · rw [show (ls ++ ms).getD i [] = ls.getD i [] by simp [List.getD, List.getElem?_append_left e]]
        exact fresh_oth q2 fun b o hb ho => ot b o (q3 b hb).2.2.1 ho
      · obtain ⟨r1, r2, r3, r4⟩ := q3 b hb
        refine ⟨r1, by have := k1.len; omega, fun hv => by have := nb b hv; omega, fun j w2 hj hw2 => r4 j w2 hj ?_⟩
        rwa [List.getElem?_append_left (by omega)] at hw2
    · obtain ⟨j, rfl⟩ : ∃ j, i = ls.length + j := ⟨i - ls.length, by omega⟩
      obtain ⟨w', q1, q2, q3⟩ := g4 j (by omega)
      refine ⟨w', by rw [List.getElem?_append_right (by omega), h2, Nat.add_sub_cancel_left]; exact q1, ?_, fun b hb => ?_⟩
      · rw [show (ls ++ ms).getD (ls.length + j) [] = ms.getD j [] by simp [List.getD, List.getElem?_append_right]]
        exact fresh_oth q2 fun b o hb ho => ot b o (fun hv => by have := (h3 b hv).2; have : B ≤ b := (q3 b hb).1; omega) ho
      · obtain ⟨r1, r2, r3, r4⟩ := q3 b hb
        refine ⟨hA b r1, by have := k1.len; omega, fun hv => by have := nb b hv; omega, fun j' w2 hj hw2 hw3 => ?_⟩
        by_cases e2 : j' < ls.length
        · rw [List.getElem?_append_left (by omega)] at hw2
          obtain ⟨w4, s1, _, s3⟩ := h4 j' e2
          rw [hw2] at s1; cases s1
          have := (s3 b hw3).2.1
          have : B ≤ b := r1
          omega
        · rw [List.getElem?_append_right (by omega)] at hw2
          exact r4 (j' - vs.length) w2 (by omega) hw2 hw3

/-- The edges without a colour. -/
def noCol (es : List (Int × Int)) (c : List Int) (x : Int) : List Int := filtB (fun j => c.getD j 0 != x) es.length
noncomputable def cycNo (es : List (Int × Int)) (c : List Int) (x : Int) : List (List Int) := cycOf es (bitB (noCol es c x)) (noCol es c x)
noncomputable def covTo (es : List (Int × Int)) (c : List Int) : Nat → List (List Int)
  | 0 => []
  | k + 1 => covTo es c k ++ cycNo es c (2 - k)
theorem noCol_isS (es : List (Int × Int)) (c : List Int) (x : Int) : IsS (noCol es c x) es.length := asc_isS (filtB_asc _ _) fun y hy => by
  obtain ⟨j, rfl, h, _⟩ := mem_filtB.1 hy
  omega
theorem cycNo_length {x : Int} : (cycNo es c x).length ≤ es.length := Nat.le_trans cycOf_length (filtB_length _ _)
theorem covTo_length : ∀ k, (covTo es c k).length ≤ k * es.length
  | 0 => by simp [covTo]
  | k + 1 => by
    have := covTo_length k
    have := cycNo_length (es := es) (c := c) (x := 2 - k)
    rw [covTo, List.length_append, Nat.add_mul]; omega
def Vals (es : List (Int × Int)) (c : List Int) (lo hi : Int) : Prop := c.length = es.length ∧ ∀ x ∈ c, lo ≤ x ∧ x ≤ hi
noncomputable instance (es : List (Int × Int)) (c : List Int) (lo hi : Int) : Decidable (Vals es c lo hi) := Classical.propDecidable _
noncomputable def covCode (n : Int) (es : List (Int × Int)) (c : List Int) : Int := if IsG n es then (if Vals es c 0 2 then (if IsC es c then 0 else 5) else 2) else 1
noncomputable def covList (n : Int) (es : List (Int × Int)) (c : List Int) : List (List Int) := if covCode n es c = 0 then covTo es c 3 else []
theorem covCode_zero {n : Int} (h : covCode n es c = 0) : IsG n es ∧ IsC es c := by
  unfold covCode at h
  by_cases hg : IsG n es
  · rw [if_pos hg] at h
    by_cases hv : Vals es c 0 2
    · rw [if_pos hv] at h
      by_cases hc : IsC es c
      · exact ⟨hg, hc⟩
      · rw [if_neg hc] at h; cases h
    · rw [if_neg hv] at h; cases h
  · rw [if_neg hg] at h; cases h
theorem covList_small {n : Int} : (covList n es c).length ≤ 1048576 ∧ (∀ m ∈ covList n es c, m.length ≤ 4294967296) ∧ totL (covList n es c) ≤ 1000000000000 := by
  unfold covList
  split
  · rename_i h
    obtain ⟨hg, _⟩ := covCode_zero h
    have h30 : es.length ≤ 30 := by have := hg.ed.len; have := hg.ed.hi; omega
    have := covTo_length (es := es) (c := c) 3
    refine rows_small (by omega) fun m hm => ?_
    have key : ∀ k, m ∈ covTo es c k → m.length ≤ es.length := by
      intro k
      induction k with
      | zero => intro h; cases h
      | succ k ih =>
        intro h
        rcases List.mem_append.1 h with h | h
        · exact ih h
        · exact cycOf_row h
    have := key 3 hm
    omega
  · exact rows_small (by simp) (by simp)

/-- At each vertex three colours. -/
theorem col_at {n : Int} (hg : IsG n es) (hl : c.length = es.length) (hr : ∀ x ∈ c, 0 ≤ x ∧ x ≤ 2) :
    IsC es c ↔ ∀ w : Nat, (w : Int) < n → ∀ a b, a < b → b < 3 → c.getD ((atL es w).getD a 0).toNat 0 ≠ c.getD ((atL es w).getD b 0).toNat 0 := by
  have asc : ∀ w : Int, Asc (atL es w) := fun w => filtB_asc _ _
  constructor
  · intro hc w hw a b hab hb
    have h3 := hg.three (v := w) (by omega) hw
    obtain ⟨i, hi1, hi2, hi3⟩ := at_get (es := es) (w := w) (t := a) (by omega)
    obtain ⟨j, hj1, hj2, hj3⟩ := at_get (es := es) (w := w) (t := b) (by omega)
    have hlt : (i : Int) < j := by
      have := asc w
      unfold Asc at this
      rw [List.pairwise_iff_getElem] at this
      have := this a b (by omega) (by omega) hab
      rwa [← getD_of (d := 0), ← getD_of (d := 0), hi1, hj1] at this
    rw [hi1, hj1, Int.toNat_natCast, Int.toNat_natCast]
    exact hc.col j hj2 i (by omega) ⟨w, hi3, hj3⟩
  · intro h
    refine ⟨hl, hr, fun j hj i hij ⟨w, h1, h2⟩ => ?_⟩
    obtain ⟨e1, e2, e3, e4, _⟩ := hg.ed.ends es[i] (List.getElem_mem (by omega))
    rw [getD_of (by omega)] at h1
    have hw : 0 ≤ w ∧ w < n := by
      unfold on at h1
      simp only [Bool.or_eq_true, beq_iff_eq] at h1
      omega
    rw [← getD_of (d := (0, 0)) (by omega)] at h1
    have mi : (i : Int) ∈ atL es w := mem_atL.2 ⟨i, rfl, by omega, h1⟩
    have mj : (j : Int) ∈ atL es w := mem_atL.2 ⟨j, rfl, hj, h2⟩
    obtain ⟨a, ha, ha'⟩ := List.getElem_of_mem mi
    obtain ⟨b, hb, hb'⟩ := List.getElem_of_mem mj
    have h3 := hg.three hw.1 hw.2
    have hab : a < b := by
      rcases Nat.lt_trichotomy a b with h | h | h
      · exact h
      · subst h; omega
      · have := asc w
        unfold Asc at this
        rw [List.pairwise_iff_getElem] at this
        have := this b a hb ha h
        omega
    have := h w.toNat (by omega) a b hab (by omega)
    rw [show ((w.toNat : Nat) : Int) = w by omega, getD_of ha, getD_of hb, ha', hb'] at this
    simpa using this

theorem areValues_ok {n lo hi : Int} (h : Edges H v es) (hl : es.length ≤ 1048576) (hc : Ints H u c) (hcl : c.length ≤ 1048576) (k : ∀ G, H.le G → K (.bool (decide (Vals es c lo hi))) G) :
    AC Try.prog T0 53 [.agg ⟨[.int .i64 n, v]⟩, u, .int .i64 lo, .int .i64 hi] H K := by
  apply F53.ac
  unfold F53.B2
  refine newK_f (all_iv (edges_one' h)) fun H1 l1 n1 o1 => newK_f rfl fun H2 l2 n2 o2 => newK_f rfl fun H3 l3 n3 o3 => ?_
  have l13 := AHeap.le_trans l1 (AHeap.le_trans l2 l3)
  unfold F53.B1
  refine (hc.le l13).len (ld1_own ((o1.le l2).le l3) rfl ((h.le l13).len (pif_cases (fun hb => ?_) fun hb => ?_)))
  · have hlen : c.length = es.length := by have := beq_iff_eq.1 hb; omega
    refine areAllL_ok (p := fun x => decide (lo ≤ x ∧ x ≤ hi)) (hc.le l13) (by omega) rfl (fun x _ => ?_) fun G hG => asB_mk ?_
    · intro G hG K k
      refine callV_mk ?_
      apply F100.ac
      unfold F100.B2 F100.B1
      exact asP_mk (ldI_own ((o2.le l3).le hG) rfl (asP_mk (ldI_own (o3.le hG) rfl (within_ok (asB_mk (k _ (AHeap.le_refl _)))))))
    · have k := k _ (AHeap.le_trans l13 hG)
      have e : c.all (fun x => decide (lo ≤ x ∧ x ≤ hi)) = decide (Vals es c lo hi) := by
        rw [Bool.eq_iff_iff, List.all_eq_true, decide_eq_true_iff]
        constructor
        · intro h; exact ⟨hlen, fun x hx => of_decide_eq_true (h x hx)⟩
        · rintro ⟨_, h⟩ x hx; exact decide_eq_true (h x hx)
      rw [e]; exact k
  · have k := k _ l13
    rw [decide_eq_false fun hv : Vals es c lo hi => by have := hv.1; have := beq_eq_false_iff_ne.1 hb; omega] at k
    exact k

theorem specCover_ok {n : Int} (h : Edges H v es) (hl : es.length ≤ 1048576) (hc : Ints H u c) (hcl : c.length ≤ 1048576)
    (k : ∀ v' G, H.le G → RowsF (fun b => H.length ≤ b) G.length G v' (covList n es c) → K (.tuple ⟨[v', .int .i64 (covCode n es c)]⟩) G) : AC Try.prog T0 13 [.agg ⟨[.int .i64 n, v]⟩, u] H K := by
  apply F13.ac
  unfold F13.B33
  refine newK_f (all_iv (edges_one' h)) fun H1 l1 n1 o1 => ?_
  have nil : ∀ x G, H.le G → covCode n es c = x → x ≠ 0 → K (.tuple ⟨[.slice none 0 0, .int .i64 x]⟩) G := by
    intro x G hG hx h0
    have k := k (.slice none 0 0) G hG (by rw [covList, if_neg (by rw [hx]; exact h0)]; exact .nil)
    rw [hx] at k; exact k
  unfold F13.B32
  refine ldI_own o1 rfl (ld1_own o1 rfl (l01Is_ok (h.le l1) hl fun H2 l2 => asB_mk ?_))
  have l12 := AHeap.le_trans l1 l2
  have o2 := o1.le l2
  refine pif_cases (fun hb => ?_) fun hb => ?_
  · rw [Bool.not_eq_true'] at hb
    unfold F13.B31
    exact nil 1 _ l12 (by unfold covCode; rw [if_neg (of_decide_eq_false hb)]) (by decide)
  · rw [Bool.not_eq_false'] at hb
    have hg : IsG n es := of_decide_eq_true hb
    have n0 := hg.ed.lo; have nn1 := hg.ed.hi
    have h30 : es.length ≤ 30 := by have := hg.ed.len; omega
    unfold F13.B30
    refine (hc.le l12).len (ld1_own o2 rfl ((h.le l12).len (pif_cases (fun hb => ?_) fun hb => ?_)))
    · unfold F13.B29
      exact nil 2 _ l12 (by unfold covCode; rw [if_pos hg, if_neg fun hv : Vals es c 0 2 => by have := hv.1; have := bne_iff_ne.1 hb; omega]) (by decide)
    · have hlen : c.length = es.length := by have := bne_eq_false_iff_eq.1 hb; omega
      unfold F13.B28 F13.L23
      refine ⟨fun x1 x2 x6 G => u = x1 ∧ H.length = x2 ∧ H2 = G ∧ ∃ i : Nat, x6 = i ∧ i ≤ c.length ∧ ∀ j, j < i → 0 ≤ c.getD j 0 ∧ c.getD j 0 ≤ 2, fun _ _ x6 _ => c.length - x6.toNat, ⟨rfl, rfl, rfl, 0, rfl, by omega, fun j hj => absurd hj (by omega)⟩, ?_⟩
      rintro x1 x2 x6 G ⟨rfl, rfl, rfl, i, rfl, hi, hp⟩
      unfold F13.B27
      refine (hc.le l12).len (pif_cases (fun hb => ?_) fun hb => ?_)
      · have hlt : i < c.length := by have := of_decide_eq_true hb; omega
        unfold F13.B26
        refine (hc.le l12).rd (by omega) (by omega) (l01In_ok (asB_mk ?_))
        rw [Int.toNat_natCast]
        refine pif_cases (fun hs => ?_) fun hs => ?_
        · rw [Bool.not_eq_true'] at hs
          unfold F13.B25
          exact nil 2 _ l12 (by unfold covCode; rw [if_pos hg, if_neg fun hv : Vals es c 0 2 => of_decide_eq_false hs (by rw [getD_of hlt]; exact hv.2 _ (List.getElem_mem hlt))]) (by decide)
        · rw [Bool.not_eq_false'] at hs
          unfold F13.B24
          rw [wrap_id (by omega) (by omega)]
          refine ⟨⟨rfl, rfl, rfl, i + 1, by omega, by omega, fun j hj => ?_⟩, by simp; omega⟩
          by_cases e : j = i
          · subst e; exact of_decide_eq_true hs
          · exact hp j (by omega)
      · have hge : i = c.length := by have := of_decide_eq_false hb; omega
        subst hge
        have hr : ∀ x ∈ c, 0 ≤ x ∧ x ≤ 2 := fun x hx => by
          obtain ⟨j, hj, rfl⟩ := List.getElem_of_mem hx
          have := hp j hj
          rwa [getD_of hj] at this
        have hV : Vals es c 0 2 := ⟨hlen, hr⟩
        have hcol := col_at hg hlen hr
        have hcode : covCode n es c = if IsC es c then 0 else 5 := by unfold covCode; rw [if_pos hg, if_pos hV]
        unfold F13.B22 F13.L15
        refine ⟨fun x1 x2 x7 G => u = x1 ∧ H.length = x2 ∧ H2.le G ∧ ∃ w : Nat, x7 = w ∧ (w : Int) ≤ n ∧ ∀ w', w' < w → ∀ a b, a < b → b < 3 → c.getD ((atL es w').getD a 0).toNat 0 ≠ c.getD ((atL es w').getD b 0).toNat 0, fun _ _ x7 _ => (n - x7).toNat, ⟨rfl, rfl, AHeap.le_refl _, 0, rfl, by omega, fun w' h => absurd h (by omega)⟩, ?_⟩
        rintro x1 x2 x7 G ⟨rfl, rfl, hG, w, rfl, hw, hq⟩
        have lG := AHeap.le_trans l12 hG
        have oG := o2.le hG
        unfold F13.B21
        refine ldI_own oG rfl (pif_cases (fun hb => ?_) fun hb => ?_)
        · have hwn := of_decide_eq_true hb
          have h3 := hg.three (v := w) (by omega) hwn
          unfold F13.B20
          refine ldI_own oG rfl (ld1_own oG rfl (l01At_ok (h.le lG) hl fun q H3 l3 f3 => ?_))
          have hc3 := hc.le (AHeap.le_trans lG l3)
          have at3 : ∀ t : Nat, t < 3 → ∃ i : Nat, (atL es w).getD t 0 = i ∧ i < es.length := fun t ht => by
            obtain ⟨i, h1, h2, _⟩ := at_get (es := es) (w := w) (t := t) (by omega)
            exact ⟨i, h1, h2⟩
          obtain ⟨i0, a1, a2⟩ := at3 0 (by omega)
          obtain ⟨i1, b1, b2⟩ := at3 1 (by omega)
          obtain ⟨i2, c1, c2⟩ := at3 2 (by omega)
          unfold F13.B19
          refine f3.ints.rd (by decide) (by omega) ?_
          rw [show (0 : Int).toNat = 0 from rfl, a1]
          refine hc3.rd (by omega) (by omega) (f3.ints.rd (by decide) (by omega) ?_)
          rw [show (1 : Int).toNat = 1 from rfl, b1]
          refine hc3.rd (by omega) (by omega) (f3.ints.rd (by decide) (by omega) ?_)
          rw [show (2 : Int).toNat = 2 from rfl, c1]
          refine hc3.rd (by omega) (by omega) ?_
          simp only [Int.toNat_natCast]
          have no : ∀ a b, a < b → b < 3 → c.getD ((atL es w).getD a 0).toNat 0 = c.getD ((atL es w).getD b 0).toNat 0 → ∀ N, F13.B17 K N H3 := by
            intro a b hab hb3 he N
            unfold F13.B17
            exact nil 5 _ (AHeap.le_trans lG l3) (by rw [hcode, if_neg fun hi : IsC es c => hcol.1 hi w hwn a b hab hb3 he]) (by decide)
          unfold F13.B18
          refine pif_cases (fun hs => ?_) fun hs => pif_cases (fun ht => ?_) fun ht => pif_cases (fun hu => ?_) fun hu => ?_
          · exact no 0 1 (by omega) (by omega) (by rw [a1, b1]; simpa using hs) _
          · exact no 0 2 (by omega) (by omega) (by rw [a1, c1]; simpa using ht) _
          · exact no 1 2 (by omega) (by omega) (by rw [b1, c1]; simpa using hu) _
          · unfold F13.B16
            rw [wrap_id (by omega) (by omega)]
            refine ⟨⟨rfl, rfl, AHeap.le_trans hG l3, w + 1, by omega, by omega, fun w' hw' a b hab hb3 => ?_⟩, show (n - ((w : Int) + 1)).toNat < (n - (w : Int)).toNat by omega⟩
            by_cases e : w' = w
            · subst e
              have : (a = 0 ∧ b = 1) ∨ (a = 0 ∧ b = 2) ∨ (a = 1 ∧ b = 2) := by omega
              rcases this with ⟨rfl, rfl⟩ | ⟨rfl, rfl⟩ | ⟨rfl, rfl⟩
              · rw [a1, b1]; simpa using hs
              · rw [a1, c1]; simpa using ht
              · rw [b1, c1]; simpa using hu
            · exact hq w' (by omega) a b hab hb3
        · have hge := of_decide_eq_false hb
          have hC : IsC es c := hcol.2 fun w' hw' => hq w' (by omega)
          rw [if_pos hC] at hcode
          unfold F13.B14
          refine newK_f rfl fun H4 l4 n4 o4 => ?_
          have l14 := AHeap.le_trans lG l4
          unfold F13.B13 F13.L2
          refine ⟨fun x1 x2 x12 x13 G' => u = x1 ∧ H.length = x2 ∧ G.le G' ∧ ∃ k : Nat, x13 = 2 - (k : Int) ∧ k ≤ 3 ∧ RowsF (fun b => G.length ≤ b) G'.length G' x12 (covTo es c k), fun _ _ _ x13 _ => (x13 + 1).toNat, ⟨rfl, rfl, l4, 0, rfl, by omega, .nil1 o4 (Nat.le_refl _) o4.lt⟩, ?_⟩
          rintro x1 x2 x12 x13 G1 ⟨rfl, rfl, hG1, k0, rfl, hk0, hR⟩
          have lG1 := AHeap.le_trans lG hG1
          have oG1 := oG.le hG1
          unfold F13.B12
          refine pif_cases (fun hb => ?_) fun hb => ?_
          · have hk3 : k0 < 3 := by have := of_decide_eq_true hb; omega
            unfold F13.B11
            refine newK_f rfl fun H5 l5 n5 o5 => ?_
            unfold F13.B10 F13.L5
            refine ⟨fun x1 x2 x12' x13 x14 x15 G' => u = x1 ∧ H.length = x2 ∧ x12 = x12' ∧ 2 - (k0 : Int) = x13 ∧ G1.le G' ∧ ∃ i : Nat, x15 = i ∧ i ≤ es.length ∧ Fresh G1.length G' x14 2 1 (LI (filtB (fun j => c.getD j 0 != 2 - (k0 : Int)) i)), fun _ _ _ _ _ x15 _ => es.length - x15.toNat, ⟨rfl, rfl, rfl, rfl, l5, 0, rfl, by omega, .inr ⟨_, 0, Nat.le_refl _, rfl, o5, rfl⟩⟩, ?_⟩
            rintro x1 x2 x12' x13 x14 x15 G2 ⟨rfl, rfl, rfl, rfl, hG2, i, rfl, hi, hF⟩
            have lG2 := AHeap.le_trans lG1 hG2
            unfold F13.B9
            refine (hc.le lG2).len (pif_cases (fun hb => ?_) fun hb => ?_)
            · have hlt : i < es.length := by have := of_decide_eq_true hb; omega
              unfold F13.B8
              refine (hc.le lG2).rd (by omega) (by omega) ?_
              rw [Int.toNat_natCast]
              refine pif_cases (fun hs => ?_) fun hs => ?_
              · unfold F13.B7
                refine hF.sl.pushN E_int (by decide) hG2.1 (n := 1) (ys := [.int .i64 i]) rfl rfl (by have := filtB_length (fun j => c.getD j 0 != 2 - (k0 : Int)) i; simp only [List.length_map, List.length_singleton]; omega) (by simp) fun v' G3 k3 _ _ f3 => ?_
                unfold F13.B6
                rw [wrap_id (by omega) (by omega)]
                refine ⟨⟨rfl, rfl, rfl, rfl, k3.le hG2 (Nat.le_refl _), i + 1, by omega, by omega, ?_⟩, by simp; omega⟩
                rw [filtB_succ, if_pos hs]; simpa using f3
              · unfold F13.B6
                rw [wrap_id (by omega) (by omega)]
                refine ⟨⟨rfl, rfl, rfl, rfl, hG2, i + 1, by omega, by omega, ?_⟩, by simp; omega⟩
                rw [filtB_succ, if_neg (by rw [hs]; decide), List.append_nil]; exact hF
            · have hge : i = es.length := by have := of_decide_eq_false hb; omega
              subst hge
              unfold F13.B4
              refine ldI_own (oG1.le hG2) rfl (ld1_own (oG1.le hG2) rfl (l07Cycles_ok (l := noCol es c (2 - (k0 : Int))) (h.le lG2) hg hF.ints (noCol_isS _ _ _) fun w' G3 l3 hR3 => ?_))
              have hcl2 := covTo_length (es := es) (c := c) k0
              have hcn := cycNo_length (es := es) (c := c) (x := 2 - (k0 : Int))
              have hk03 : k0 * es.length ≤ 90 := Nat.le_trans (Nat.mul_le_mul (show k0 ≤ 3 by omega) h30) (by decide)
              refine ((hR.le hG2).le l3).app (hR3.mono (fun b hb => Nat.le_trans hG2.1 hb) (Nat.le_refl _)) (Nat.le_trans hG2.1 l3.1) (Nat.le_refl _) (fun b hb => Nat.le_trans hG1.1 hb) (by unfold cycNo at hcn; omega) fun v' G4 ot hlen4 hR4 => ?_
              unfold F13.B3
              rw [wrap_id (by omega) (by omega)]
              refine ⟨⟨rfl, rfl, ?_, k0 + 1, by omega, by omega, hR4⟩, show (2 - (k0 : Int) - 1 + 1).toNat < (2 - (k0 : Int) + 1).toNat by omega⟩
              refine ⟨by have := hG1.1; have := hG2.1; have := l3.1; omega, fun b o ho => ot b o (fun hv => ?_) (l3.2 _ _ (hG2.2 _ _ (hG1.2 _ _ ho)))⟩
              obtain ⟨vs, _, _, q3, _⟩ := hR
              have : G.length ≤ b := (q3 b hv).1
              have := lt_of_get ho
              omega
          · have hk3 : k0 = 3 := by have := of_decide_eq_false hb; omega
            subst hk3
            unfold F13.B1
            have k := k x12 G1 lG1 (by rw [covList, if_pos hcode]; exact hR.mono (fun b hb => Nat.le_trans lG.1 hb) (Nat.le_refl _))
            rw [hcode] at k; exact k

theorem implCover_ok {n : Int} (h : Edges H v es) (hl : es.length ≤ 1048576) (hc : Ints H u c) (hcl : c.length ≤ 1048576)
    (k : ∀ v' G, H.le G → RowsF (fun b => H.length ≤ b) G.length G v' (covList n es c) → K (.tuple ⟨[v', .int .i64 (covCode n es c)]⟩) G) : AC Try.prog T0 16 [.agg ⟨[.int .i64 n, v]⟩, u] H K := by
  apply F16.ac
  unfold F16.B22
  refine newK_f (all_iv (edges_one' h)) fun H1 l1 n1 o1 => ?_
  have nil : ∀ x G, H.le G → covCode n es c = x → x ≠ 0 → K (.tuple ⟨[.slice none 0 0, .int .i64 x]⟩) G := by
    intro x G hG hx h0
    have k := k (.slice none 0 0) G hG (by rw [covList, if_neg (by rw [hx]; exact h0)]; exact .nil)
    rw [hx] at k; exact k
  unfold F16.B21
  refine ldI_own o1 rfl (ld1_own o1 rfl (ldI_own o1 rfl (ld1_own o1 rfl (areValues_ok (h.le l1) hl (hc.le l1) hcl fun H2 l2 => asB_mk ⟨l2, graphCode_ok (h.le (AHeap.le_trans l1 l2)) hl fun H3 l3 => asI_mk ?_⟩))))
  have l13 := AHeap.le_trans l1 (AHeap.le_trans l2 l3)
  have o3 := (o1.le l2).le l3
  unfold F16.B20
  by_cases hg : IsG n es
  · rw [if_pos hg]
    have n0 := hg.ed.lo; have nn1 := hg.ed.hi
    have h30 : es.length ≤ 30 := by have := hg.ed.len; omega
    by_cases hV : Vals es c 0 2
    · rw [decide_eq_true hV, if_pos rfl]
      refine pif_f rfl ?_
      have hcode : covCode n es c = if IsC es c then 0 else 5 := by unfold covCode; rw [if_pos hg, if_pos hV]
      unfold F16.B18
      refine ldI_own o3 rfl (ld1_own o3 rfl (isColouring_ok (h.le l13) hl hg (hc.le l13) hcl fun H4 l4 => asB_mk ?_))
      have l14 := AHeap.le_trans l13 l4
      have o4 := o3.le l4
      refine pif_cases (fun hb => ?_) fun hb => ?_
      · rw [Bool.not_eq_true'] at hb
        unfold F16.B17
        exact nil 5 _ l14 (by rw [hcode, if_neg (of_decide_eq_false hb)]) (by decide)
      · rw [Bool.not_eq_false'] at hb
        rw [if_pos (of_decide_eq_true hb)] at hcode
        have hlen := hV.1
        unfold F16.B16 F16.B15
        refine newK_f rfl fun H5 l5 n5 o5 => ?_
        have i5 : Ints H5 (.slice (some ⟨H4.length, 0, none⟩) 3 (3 + 1)) [2, 1, 0] := own_ints (l := [2, 1, 0]) o5
        unfold F16.L2
        refine ⟨fun x1 x2 x7 x25 x26 x27 G => u = x1 ∧ H.length = x2 ∧ .slice (some ⟨H4.length, 0, none⟩) 3 (3 + 1) = x25 ∧ 3 = x26 ∧ H5.le G ∧ ∃ k : Nat, x27 = k ∧ k ≤ 3 ∧ RowsF (fun b => H5.length ≤ b) G.length G x7 (covTo es c k), fun _ _ _ _ _ x27 _ => 3 - x27.toNat, ⟨rfl, rfl, rfl, rfl, AHeap.le_refl _, 0, rfl, by omega, .nil⟩, ?_⟩
        rintro x1 x2 x7 x25 x26 x27 G1 ⟨rfl, rfl, rfl, rfl, hG1, k0, rfl, hk0, hR⟩
        have lG1 := AHeap.le_trans l14 (AHeap.le_trans l5 hG1)
        have oG1 := (o4.le l5).le hG1
        unfold F16.B14
        refine pif_cases (fun hb => ?_) fun hb => ?_
        · have hk3 : k0 < 3 := by have := of_decide_eq_true hb; omega
          have hget : ([2, 1, 0] : List Int).getD k0 0 = 2 - (k0 : Int) := by
            rcases (by omega : k0 = 0 ∨ k0 = 1 ∨ k0 = 2) with rfl | rfl | rfl <;> rfl
          unfold F16.B13
          refine (i5.le hG1).rd (by omega) (by simp; omega) ?_
          rw [Int.toNat_natCast, hget]
          unfold F16.B12 F16.B11
          refine (hc.le lG1).len ?_
          unfold F16.L5
          refine ⟨fun x1 x2 x7' x9 x10 x25 x26 x27 x31 x32 x33 G => u = x1 ∧ H.length = x2 ∧ x7 = x7' ∧ 2 - (k0 : Int) = x9 ∧ .slice (some ⟨H4.length, 0, none⟩) 3 (3 + 1) = x25 ∧ 3 = x26 ∧ (k0 : Int) = x27 ∧ u = x31 ∧ (c.length : Int) = x32 ∧ G1 = G ∧ ∃ i : Nat, x33 = i ∧ i ≤ es.length ∧ x10 = (setN (filtB (fun j => c.getD j 0 != 2 - (k0 : Int)) i) : Nat), fun _ _ _ _ _ _ _ _ _ _ x33 _ => es.length - x33.toNat, ⟨rfl, rfl, rfl, rfl, rfl, rfl, rfl, rfl, rfl, rfl, 0, rfl, by omega, rfl⟩, ?_⟩
          rintro x1 x2 x7' x9 x10 x25 x26 x27 x31 x32 x33 G2 ⟨rfl, rfl, rfl, rfl, rfl, rfl, rfl, rfl, rfl, rfl, i, rfl, hi, rfl⟩
          have hfl : ∀ i, i ≤ es.length → setN (filtB (fun j => c.getD j 0 != 2 - (k0 : Int)) i) < 2 ^ 64 := fun i hi => setN_lt fun x hx => by
            obtain ⟨j, rfl, h1, _⟩ := mem_filtB.1 hx
            omega
          unfold F16.B10
          refine pif_cases (fun hb => ?_) fun hb => ?_
          · have hlt : i < es.length := by have := of_decide_eq_true hb; omega
            unfold F16.B9
            refine (hc.le lG1).rd (by omega) (by omega) ?_
            rw [Int.toNat_natCast]
            unfold F16.B8
            refine pif_cases (fun hs => ?_) fun hs => ?_
            · unfold F16.B7
              refine ⟨by omega, ?_⟩
              have pi : 2 ^ i < 2 ^ 64 := Nat.pow_lt_pow_right (by decide) (by omega)
              rw [one_shl (by omega) (by omega), Int.toNat_natCast, bits_or (hfl i hi) pi]
              unfold F16.B6
              rw [wrap_id (by omega) (by omega)]
              refine ⟨⟨rfl, rfl, rfl, rfl, rfl, rfl, rfl, rfl, rfl, rfl, i + 1, by omega, by omega, ?_⟩, by simp; omega⟩
              rw [filtB_succ, if_pos hs]
              simp [setN]
            · unfold F16.B6
              rw [wrap_id (by omega) (by omega)]
              refine ⟨⟨rfl, rfl, rfl, rfl, rfl, rfl, rfl, rfl, rfl, rfl, i + 1, by omega, by omega, ?_⟩, by simp; omega⟩
              rw [filtB_succ, if_neg (by rw [hs]; decide), List.append_nil]
          · have hge : i = es.length := by have := of_decide_eq_false hb; omega
            subst hge
            have hS := noCol_isS es c (2 - (k0 : Int))
            rw [show filtB (fun j => c.getD j 0 != 2 - (k0 : Int)) es.length = noCol es c (2 - (k0 : Int)) from rfl]
            unfold F16.B4
            refine ldI_own oG1 rfl (ld1_own oG1 rfl (cycles_ok (h.le lG1) hg (set_lt hS (by omega)) (fun j hj => bitB_lt hS hj) fun w3 G3 l3 f3 => ?_))
            rw [set_bits hS, show (fun j => (setN (noCol es c (2 - (k0 : Int)))).testBit j) = bitB (noCol es c (2 - (k0 : Int))) from rfl] at f3
            have hzb : ∀ z ∈ cycN es (bitB (noCol es c (2 - (k0 : Int)))) (noCol es c (2 - (k0 : Int))), z < 2 ^ 64 := by
              intro z hz
              unfold cycN at hz
              obtain ⟨y, _, rfl⟩ := List.mem_map.1 hz
              exact compN_lt (by omega)
            have hll := hS.short
            refine lists_ok f3.sl (by have : (cycN es (bitB (noCol es c (2 - (k0 : Int)))) (noCol es c (2 - (k0 : Int)))).length ≤ (noCol es c (2 - (k0 : Int))).length := (by unfold cycN; rw [List.length_map]; exact List.length_filter_le _ _); omega) hzb fun w4 G4 l4 hR4 => ?_
            rw [cycN_lists (by omega)] at hR4
            have hcl2 := covTo_length (es := es) (c := c) k0
            have hcn := cycNo_length (es := es) (c := c) (x := 2 - (k0 : Int))
            have hk03 : k0 * es.length ≤ 90 := Nat.le_trans (Nat.mul_le_mul (show k0 ≤ 3 by omega) h30) (by decide)
            refine ((hR.le l3).le l4).app (hR4.mono (fun b hb => Nat.le_trans l3.1 hb) (Nat.le_refl _)) (Nat.le_trans l3.1 l4.1) (Nat.le_refl _) (fun b hb => Nat.le_trans hG1.1 hb) (by unfold cycNo at hcn; omega) fun v' G5 ot hlen5 hR5 => ?_
            unfold F16.B3
            rw [wrap_id (by omega) (by omega)]
            refine ⟨⟨rfl, rfl, rfl, rfl, ?_, k0 + 1, by omega, by omega, hR5⟩, by simp; omega⟩
            refine ⟨by have := hG1.1; have := l3.1; have := l4.1; omega, fun b o ho => ot b o (fun hv => ?_) (l4.2 _ _ (l3.2 _ _ (hG1.2 _ _ ho)))⟩
            obtain ⟨vs, _, _, q3, _⟩ := hR
            have : H5.length ≤ b := (q3 b hv).1
            have := lt_of_get ho
            omega
        · have hk3 : k0 = 3 := by have := of_decide_eq_false hb; omega
          subst hk3
          unfold F16.B1
          have k := k x7 G1 lG1 (by rw [covList, if_pos hcode]; exact hR.mono (fun b hb => Nat.le_trans (Nat.le_trans l14.1 l5.1) hb) (Nat.le_refl _))
          rw [hcode] at k; exact k
    · rw [decide_eq_false hV]
      refine pif_t rfl ?_
      unfold F16.B19
      exact nil 2 _ l13 (by unfold covCode; rw [if_pos hg, if_neg hV]) (by decide)
  · rw [if_neg hg]
    refine pif_t rfl ?_
    unfold F16.B19
    exact nil 1 _ l13 (by unfold covCode; rw [if_neg hg]) (by decide)
end Go.Proofs
