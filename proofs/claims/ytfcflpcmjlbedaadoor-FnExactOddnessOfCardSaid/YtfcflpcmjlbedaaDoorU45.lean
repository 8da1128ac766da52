/- Contracts: numbers of odd cycles; best matchings, both sides. -/
import Derived.Test.YtfcflpcmjlbedaaDoorU43
import Derived.Test.YtfcflpcmjlbedaaDoorU17
import Derived.Test.YtfcflpcmjlbedaaDoorU40
set_option linter.unusedVariables false
set_option linter.unusedSimpArgs false
set_option maxRecDepth 100000
namespace Go.Proofs
open Go.Abs

variable {H G : AHeap} {v u f : Value} {l m c D : List Int} {es fs : List (Int × Int)} {K : Value → AHeap → Prop} {A A' : Nat → Prop} {B : Nat} {ls ms cs : List (List Int)}

def oddSum (l : List Nat) : Nat := (l.map (· % 2)).sum
theorem oddSum_snoc (l : List Nat) (x : Nat) : oddSum (l ++ [x]) = oddSum l + x % 2 := by unfold oddSum; simp
theorem oddSum_le (l : List Nat) : oddSum l ≤ l.length := by
  unfold oddSum
  induction l with
  | nil => simp
  | cons a l ih => simp; omega
theorem tmod2 (x : Nat) : Int.tmod ((x : Nat) : Int) 2 = ((x % 2 : Nat) : Int) := by
  rw [Int.tmod_eq_emod_of_nonneg (by omega)]; omega
theorem l04Odd_ok (h : RowsF A B H v cs) (hl : cs.length ≤ 1000000) (k : K (.int .i64 (oddSum (cs.map List.length) : Nat)) H) : AC Tryd.prog T0 59 [v] H K := by
  apply F59.ac
  unfold F59.B8 F59.B7 F59.B6 F59.L2
  refine ⟨fun x0 x3 x4 G => v = x0 ∧ H = G ∧ ∃ i : Nat, x4 = i ∧ i ≤ cs.length ∧ x3 = (oddSum ((cs.take i).map List.length) : Nat), fun _ _ x4 _ => cs.length - x4.toNat, ⟨rfl, rfl, 0, rfl, by omega, by simp [oddSum]⟩, ?_⟩
  rintro x0 x3 x4 G ⟨rfl, rfl, i, rfl, hi, rfl⟩
  have ho := oddSum_le ((cs.take i).map List.length)
  rw [List.length_map, List.length_take] at ho
  unfold F59.B5
  refine h.len (pif_cases (fun hb => ?_) fun hb => ?_)
  · have hil : i < cs.length := by have := of_decide_eq_true hb; omega
    unfold F59.B4
    refine h.row hil fun w fw => fw.ints.len ?_
    unfold F59.B3
    rw [tmod2, wrap_id (by omega) (by omega), wrap_id (by omega) (by omega)]
    refine ⟨⟨rfl, rfl, i + 1, by omega, by omega, ?_⟩, by show cs.length - ((i : Int) + 1).toNat < cs.length - (i : Int).toNat; omega⟩
    rw [List.take_succ_eq_append_getElem hil, List.map_append, List.map_singleton, oddSum_snoc, getD_of hil]; omega
  · have hil : i = cs.length := by have := of_decide_eq_false hb; omega
    subst hil
    unfold F59.B1
    rw [List.take_length]; exact k

section
variable {p p' : Nat → Bool}
theorem eAdj_congr (h : ∀ j, j < es.length → p j = p' j) : eAdj es p = eAdj es p' := by
  funext i j
  unfold eAdj
  rw [eq_iff_iff]
  constructor
  · rintro ⟨h1, h2, h3⟩; exact ⟨h1, by rw [← h j h1]; exact h2, h3⟩
  · rintro ⟨h1, h2, h3⟩; exact ⟨h1, by rw [h j h1]; exact h2, h3⟩
theorem lensTo_congr (h : ∀ j, j < es.length → p j = p' j) : ∀ k, k ≤ es.length → lensTo es p k = lensTo es p' k
  | 0, _ => rfl
  | k + 1, hk => by
    have hc : compL es p k = compL es p' k := by unfold compL; rw [eAdj_congr h]
    have hl : cLeadB es p k = cLeadB es p' k := by
      rw [Bool.eq_iff_iff, cLeadB_iff, cLeadB_iff]
      unfold cLead
      rw [eAdj_congr h]
      constructor
      · intro g j h1 h2; exact g j h1 (by rw [h j (by omega)]; exact h2)
      · intro g j h1 h2; exact g j h1 (by rw [← h j (by omega)]; exact h2)
    rw [lensTo, lensTo, lensTo_congr h k (by omega), hc, hl, h k (by omega)]
theorem cycN_lens (hm : es.length ≤ 64) : ∀ k, (cycN es p (filtB p k)).map (fun z => popc z 64) = lensTo es p k
  | 0 => rfl
  | k + 1 => by
    have ih := cycN_lens hm k
    unfold cycN at ih ⊢
    rw [filtB_succ, List.filter_append, List.map_append, List.map_append, ih, lensTo]
    congr 1
    cases h1 : p k with
    | false => simp
    | true =>
      cases h2 : cLeadB es p k with
      | false => simp [h2]
      | true =>
        have : popc (compN es p k) 64 = (compL es p k).length := by rw [← compN_list hm]; rfl
        simp [h2, this]
end
noncomputable def oddN (es : List (Int × Int)) (l : List Int) : Nat := oddSum (lensTo es (leftP l) es.length)
theorem lensTo_length (es : List (Int × Int)) (p : Nat → Bool) : ∀ k, (lensTo es p k).length ≤ k
  | 0 => Nat.le_refl _
  | k + 1 => by
    have := lensTo_length es p k
    rw [lensTo, List.length_append]
    split <;> simp <;> omega
theorem oddN_le (es : List (Int × Int)) (l : List Int) : oddN es l ≤ es.length := Nat.le_trans (oddSum_le _) (lensTo_length _ _ _)

theorem left_ok {n : Int} (h : Edges H v es) (hg : IsG n es) (hS : IsS l es.length)
    (k : ∀ v' G Z, H.le G → Fresh H.length G v' 52 1 (LU Z) → Z.map (fun z => popc z 64) = lensTo es (leftP l) es.length → (∀ z ∈ Z, z < 2 ^ 64) → K v' G) : AC Tryd.prog T0 74 [.agg ⟨[.int .i64 n, v]⟩, .int .u64 (setN l : Nat)] H K := by
  have h30 : es.length ≤ 30 := by have := hg.ed.len; have := hg.ed.hi; omega
  have hs : setN l < 2 ^ 64 := setN_lt fun x hx => by have := hS.range x hx; omega
  have hp : (2 : Nat) ^ es.length < 2 ^ 61 := Nat.pow_lt_pow_right (by decide) (by omega)
  have hp64 : (2 : Nat) ^ 61 < 2 ^ 64 := by decide
  have hmp := Nat.two_pow_pos es.length
  apply F74.ac
  unfold F74.B2
  refine newK_f (all_iv (edges_one' h)) fun H1 l1 _ o1 => ?_
  unfold F74.B1
  refine ldI_own o1 rfl (ld1_own o1 rfl (ldI_own o1 rfl (ld1_own o1 rfl (every_ok (h.le l1) (by omega) fun H2 l2 => asI_mk ⟨l2, ?_⟩))))
  rw [bits_andnot (by omega) hs]
  obtain ⟨X, hX⟩ : ∃ X, X = (2 ^ es.length - 1) &&& (2 ^ 64 - (setN l + 1)) := ⟨_, rfl⟩
  rw [← hX]
  have hXl : X < 2 ^ 64 := by rw [hX]; exact Nat.lt_of_le_of_lt Nat.and_le_left (by omega)
  have hXb : ∀ j, X.testBit j = (decide (j < es.length) && leftP l j) := fun j => by rw [hX, andnot_bit (by omega) hs, Nat.testBit_two_pow_sub_one]; rfl
  have l12 := AHeap.le_trans l1 l2
  refine cycles_ok (h.le l12) hg hXl (fun j hj => by rw [hXb, Bool.and_eq_true] at hj; exact of_decide_eq_true hj.1) fun v' G lG fG => ?_
  refine k v' G _ (AHeap.le_trans l12 lG) (fG.less l12.1) ?_ fun z hz => ?_
  · rw [cycN_lens (by omega)]
    exact lensTo_congr (fun j hj => by show X.testBit j = _; rw [hXb]; simp [hj]) _ (Nat.le_refl _)
  · unfold cycN at hz
    obtain ⟨y, _, rfl⟩ := List.mem_map.1 hz
    exact compN_lt (by omega)
theorem odd_ok {n : Int} (h : Edges H v es) (hg : IsG n es) (hS : IsS l es.length) (k : ∀ G, H.le G → K (.int .i64 (oddN es l : Nat)) G) : AC Tryd.prog T0 62 [.agg ⟨[.int .i64 n, v]⟩, .int .u64 (setN l : Nat)] H K := by
  apply F62.ac
  unfold F62.B9
  refine newK_f (all_iv (edges_one' h)) fun H1 l1 _ o1 => ?_
  unfold F62.B8 F62.B7
  refine ldI_own o1 rfl (ld1_own o1 rfl (left_ok (h.le l1) hg hS fun w H2 Z l2 f2 hZ hz64 => ?_))
  have h30 : es.length ≤ 30 := by have := hg.ed.len; have := hg.ed.hi; omega
  have hZl : Z.length ≤ 30 := by
    have := congrArg List.length hZ
    rw [List.length_map] at this
    have := lensTo_length es (leftP l) es.length
    omega
  have l12 := AHeap.le_trans l1 l2
  refine f2.sl.len (by decide) (n := Z.length) (by simp) ?_
  unfold F62.L2
  refine ⟨fun x5 x10 x11 x12 G => w = x10 ∧ (Z.length : Int) = x11 ∧ H2 = G ∧ ∃ i : Nat, x12 = i ∧ i ≤ Z.length ∧ x5 = (oddSum ((Z.take i).map fun z => popc z 64) : Nat), fun _ _ _ x12 _ => Z.length - x12.toNat, ⟨rfl, rfl, rfl, 0, rfl, by omega, by simp [oddSum]⟩, ?_⟩
  rintro x5 x10 x11 x12 G ⟨rfl, rfl, rfl, i, rfl, hi, rfl⟩
  have ho := oddSum_le ((Z.take i).map fun z => popc z 64)
  rw [List.length_map, List.length_take] at ho
  unfold F62.B6
  refine pif_cases (fun hb => ?_) fun hb => ?_
  · have hil : i < Z.length := by have := of_decide_eq_true hb; omega
    unfold F62.B5
    refine Sl_rdI f2.sl (by omega) (by simp; omega) (by rw [Int.toNat_natCast]; exact LU_get hil) ?_
    rw [getD_of hil]
    unfold F62.B4
    refine size_ok (hz64 _ (List.getElem_mem hil)) (asI_mk ?_)
    unfold F62.B3
    rw [tmod2, wrap_id (by omega) (by omega), wrap_id (by omega) (by omega)]
    refine ⟨⟨rfl, rfl, rfl, i + 1, by omega, by omega, ?_⟩, by show Z.length - ((i : Int) + 1).toNat < Z.length - (i : Int).toNat; omega⟩
    rw [List.take_succ_eq_append_getElem hil, List.map_append, List.map_singleton, oddSum_snoc]; omega
  · have hil : i = Z.length := by have := of_decide_eq_false hb; omega
    subst hil
    unfold F62.B1
    have k := k _ l12
    unfold oddN at k
    rw [← hZ] at k
    rw [List.take_length]; exact k

/-- The best so far, and how many odd cycles it leaves; -1 ahead of the first. -/
noncomputable def bestS (es : List (Int × Int)) (b : List Int × Int) (l : List Int) : List Int × Int := if b.2 < 0 ∨ (oddN es l : Int) < b.2 then (l, (oddN es l : Int)) else b
noncomputable def bestF (es : List (Int × Int)) (L : List (List Int)) : List Int × Int := L.foldl (bestS es) ([], -1)
theorem bestF_snoc (L : List (List Int)) (l : List Int) : bestF es (L ++ [l]) = bestS es (bestF es L) l := by unfold bestF; rw [List.foldl_append]; rfl
theorem bestF_rng (L : List (List Int)) : ∀ b : List Int × Int, -1 ≤ b.2 → b.2 ≤ es.length → -1 ≤ (L.foldl (bestS es) b).2 ∧ (L.foldl (bestS es) b).2 ≤ es.length := by
  induction L with
  | nil => exact fun b h1 h2 => ⟨h1, h2⟩
  | cons l L ih =>
    intro b h1 h2
    rw [List.foldl_cons]
    have := oddN_le es l
    refine ih _ ?_ ?_
    · unfold bestS
      split
      · show (-1 : Int) ≤ (oddN es l : Int); omega
      · exact h1
    · unfold bestS
      split
      · show (oddN es l : Int) ≤ es.length; omega
      · exact h2
theorem bestF_rng0 (L : List (List Int)) : -1 ≤ (bestF es L).2 ∧ (bestF es L).2 ≤ es.length := bestF_rng L _ (by decide) (by show (-1 : Int) ≤ es.length; omega)
theorem bestF_none {L : List (List Int)} : (bestF es L).2 = -1 ↔ L = [] := by
  have nn : ∀ (L : List (List Int)) (b : List Int × Int), 0 ≤ b.2 → 0 ≤ (L.foldl (bestS es) b).2 := by
    intro L
    induction L with
    | nil => exact fun b h => h
    | cons l L ih =>
      intro b h
      rw [List.foldl_cons]
      refine ih _ ?_
      unfold bestS
      split
      · simp
      · exact h
  constructor
  · intro h
    cases L with
    | nil => rfl
    | cons l L =>
      unfold bestF at h
      rw [List.foldl_cons] at h
      have := nn L (bestS es ([], -1) l) (by unfold bestS; rw [if_pos (.inl (by decide))]; simp)
      omega
  · rintro rfl; rfl
noncomputable def isZero (es : List (Int × Int)) (d : List (List Int)) : Bool := @decide ((bestF es d).2 = 0) (Classical.propDecidable _)
theorem best_zero (L : List (List Int)) : ∀ b : List Int × Int, b.2 = 0 → L.foldl (bestS es) b = b := by
  induction L with
  | nil => exact fun b _ => rfl
  | cons l L ih =>
    intro b h
    rw [List.foldl_cons]
    have : bestS es b l = b := by unfold bestS; rw [if_neg (by omega)]
    rw [this]; exact ih b h
theorem best_up : ∀ (L d : List (List Int)), bestF es (d ++ upToD (isZero es) d L) = bestF es (d ++ L)
  | [], d => rfl
  | x :: L, d => by
    rw [upToD]
    by_cases h : isZero es (d ++ [x]) = true
    · rw [if_pos h]
      have h0 : (bestF es (d ++ [x])).2 = 0 := by unfold isZero at h; simpa using h
      have : bestF es (d ++ x :: L) = bestF es (d ++ [x]) := by
        rw [show d ++ x :: L = (d ++ [x]) ++ L by simp]
        unfold bestF at h0 ⊢
        rw [List.foldl_append]
        exact best_zero L _ h0
      rw [this]
    · rw [if_neg h]
      have := best_up L (d ++ [x])
      rw [List.append_assoc, List.append_assoc] at this
      exact this
theorem mats_row2 {n : Int} (hg : IsG n es) : ∀ l ∈ mats n es, IsS l es.length ∧ l.length ≤ 30 ∧ OneAt n es l := fun l hl => ⟨(mats_row hg l hl).1, (mats_row hg l hl).2, mats_one hg hl⟩
theorem RowsF.rowA (h : RowsF A B H v ls) {i : Nat} (hi : i < ls.length) {K : Value → Prop} (k : ∀ w, Fresh 0 H w 2 1 (LI (ls.getD i [])) → (∀ b, bk w = some b → A b) → K w) : idxK v i 1 (fun b o => ld1 H b o K) := by
  obtain ⟨vs, h1, h2, h3, h4⟩ := h
  obtain ⟨w, g1, g2, g3⟩ := h4 i hi
  exact Sl_rd h1.sl (by omega) (by omega) (by rw [Int.toNat_natCast]; exact g1) (k w g2 fun b hb => (g3 b hb).1)
theorem fresh_more {m0 m1 : Nat} {t : TypeId} {z : Nat} {xs : List Value} (h : Fresh m0 H v t z xs) (hb : ∀ b, bk v = some b → m1 ≤ b) : Fresh m1 H v t z xs := by
  rcases h with h | ⟨b, n, h1, rfl, h3, h4⟩
  · exact .inl h
  · exact .inr ⟨b, n, hb b rfl, rfl, h3, h4⟩

theorem l04Best_ok {n : Int} (h : Edges H v es) (hg : IsG n es)
    (k : ∀ w G, H.le G → Fresh H.length G w 2 1 (LI (bestF es (mats n es)).1) → K (.tuple ⟨[w, .int .i64 (bestF es (mats n es)).2, .bool (decide (mats n es ≠ []))]⟩) G) : AC Tryd.prog T0 43 [.agg ⟨[.int .i64 n, v]⟩] H K := by
  have h30 : es.length ≤ 30 := by have := hg.ed.len; have := hg.ed.hi; omega
  have hml := mats_length hg
  have hrow := mats_row2 hg
  apply F43.ac
  unfold F43.B11
  refine newK_f (all_iv (edges_one' h)) fun H1 l1 _ o1 => ?_
  unfold F43.B10
  refine ldI_own o1 rfl (ld1_own o1 rfl (l04All_ok hg (h.le l1) fun q H2 l2 hR => newK_f rfl fun H3 l3 n3 o3 => ?_))
  have l12 := AHeap.le_trans l1 l2
  have b1 := l1.1
  have b2 := l2.1
  unfold F43.B9 F43.L2
  refine ⟨fun x1 x5 x6 x7 x8 G => H.length = x1 ∧ q = x5 ∧ H2.le G ∧ ∃ i : Nat, x8 = i ∧ i ≤ (mats n es).length ∧ x7 = (bestF es ((mats n es).take i)).2 ∧ Fresh H.length G x6 2 1 (LI (bestF es ((mats n es).take i)).1), fun _ _ _ _ x8 _ => (mats n es).length - x8.toNat,
    ⟨rfl, rfl, l3, 0, rfl, by omega, by simp [bestF], by simpa [bestF] using (show Fresh H.length H3 _ _ _ _ from .inr ⟨_, 0, by omega, rfl, o3, rfl⟩)⟩, ?_⟩
  rintro x1 x5 x6 x7 x8 G ⟨rfl, rfl, hG, i, rfl, hi, rfl, hF⟩
  have lG := AHeap.le_trans l12 hG
  have oG := (o1.le l2).le hG
  have hRG := hR.le hG
  unfold F43.B8
  refine hRG.len (pif_cases (fun hb => ?_) fun hb => ?_)
  · have hil : i < (mats n es).length := by have := of_decide_eq_true hb; omega
    obtain ⟨q1, q2, q3⟩ := hrow _ (List.getElem_mem hil)
    rw [← getD_of (d := []) hil] at q1 q2 q3
    have hsnoc : bestF es ((mats n es).take (i + 1)) = bestS es (bestF es ((mats n es).take i)) ((mats n es).getD i []) := by
      rw [List.take_succ_eq_append_getElem hil, bestF_snoc, getD_of hil]
    unfold F43.B7
    refine ldI_own oG rfl (ld1_own oG rfl (hRG.row hil fun r hr => l04Cycles_ok (h.le lG) hg hr.ints q1 q3 fun w G2 cs l4 hR2 hlen => ?_))
    have hcs : cs.length ≤ 30 := by
      have := congrArg List.length hlen
      rw [List.length_map] at this
      have := lensTo_length es (leftP ((mats n es).getD i [])) es.length
      omega
    refine l04Odd_ok hR2 (by omega) (asI_mk ?_)
    rw [hlen, show oddSum (lensTo es (leftP ((mats n es).getD i [])) es.length) = oddN es ((mats n es).getD i []) from rfl]
    have hG2 := AHeap.le_trans hG l4
    have upd : ((bestF es ((mats n es).take i)).2 < 0 ∨ (oddN es ((mats n es).getD i []) : Int) < (bestF es ((mats n es).take i)).2) → ∀ N2 : Nat → Value → Value → Int → Int → AHeap → Prop, (∀ w, Fresh H.length G2 w 2 1 (LI (bestF es ((mats n es).take (i + 1))).1) → N2 H.length q w (bestF es ((mats n es).take (i + 1))).2 ((i : Int) + 1) G2) → F43.B5 K N2 H.length q (i : Nat) (oddN es ((mats n es).getD i []) : Nat) G2 := by
      intro hc N2 hN
      have e : bestF es ((mats n es).take (i + 1)) = ((mats n es).getD i [], (oddN es ((mats n es).getD i []) : Int)) := by rw [hsnoc]; unfold bestS; rw [if_pos hc]
      rw [e] at hN
      unfold F43.B5
      refine (hR.le hG2).rowA hil fun w fw hb => ?_
      unfold F43.B4 F43.B3
      rw [wrap_id (by omega) (by omega)]
      exact hN w (fresh_more fw fun b hb' => by have := hb b hb'; omega)
    have fin : ∀ w, Fresh H.length G2 w 2 1 (LI (bestF es ((mats n es).take (i + 1))).1) → (H.length = H.length ∧ q = q ∧ H2.le G2 ∧ ∃ i' : Nat, (i : Int) + 1 = i' ∧ i' ≤ (mats n es).length ∧ (bestF es ((mats n es).take (i + 1))).2 = (bestF es ((mats n es).take i')).2 ∧ Fresh H.length G2 w 2 1 (LI (bestF es ((mats n es).take i')).1)) ∧ (mats n es).length - ((i : Int) + 1).toNat < (mats n es).length - (i : Int).toNat :=
      fun w hw => ⟨⟨rfl, rfl, hG2, i + 1, by omega, by omega, rfl, hw⟩, by omega⟩
    unfold F43.B6
    refine pif_cases (fun hb => ?_) fun hb => pif_cases (fun hb2 => ?_) fun hb2 => ?_
    · exact upd (.inl (of_decide_eq_true hb)) _ fin
    · exact upd (.inr (of_decide_eq_true hb2)) _ fin
    · have hc : ¬ ((bestF es ((mats n es).take i)).2 < 0 ∨ (oddN es ((mats n es).getD i []) : Int) < (bestF es ((mats n es).take i)).2) := by
        have h1 := of_decide_eq_false hb
        have h2 := of_decide_eq_false hb2
        omega
      have e : bestF es ((mats n es).take (i + 1)) = bestF es ((mats n es).take i) := by rw [hsnoc]; unfold bestS; rw [if_neg hc]
      have fin := fin x6 (by rw [e]; exact hF.le l4)
      unfold F43.B3
      rw [wrap_id (by omega) (by omega), ← e]
      exact fin
  · have hil : i = (mats n es).length := by have := of_decide_eq_false hb; omega
    subst hil
    rw [List.take_length] at hF ⊢
    unfold F43.B1
    refine hRG.len ?_
    have e : decide ((((mats n es).length : Int) : Int) > 0) = decide (mats n es ≠ []) := by
      congr 1
      rw [eq_iff_iff]
      cases hl : mats n es <;> simp
    rw [e]
    exact k _ _ lG hF

theorem best_ok {n : Int} (hT : Tab H) (h : Edges H v es) (hg : IsG n es)
    (k : ∀ G, H.le G → K (.tuple ⟨[.int .u64 (setN (bestF es (mats n es)).1 : Nat), .int .i64 (bestF es (mats n es)).2, .bool (decide (mats n es ≠ []))]⟩) G) : AC Tryd.prog T0 44 [.agg ⟨[.int .i64 n, v]⟩] H K := by
  have h30 : es.length ≤ 30 := by have := hg.ed.len; have := hg.ed.hi; omega
  have hrow := mats_row2 hg
  apply F44.ac
  unfold F44.B5
  refine newK_f (all_iv (edges_one' h)) fun H1 l1 n1 o1 => ?_
  unfold F44.B4
  refine newK_f rfl fun H2 l2 n2 o2 => ?_
  unfold F44.B3
  refine newK_f rfl fun H3 l3 n3 o3 => stK_f o3 (by simp) (by simp [Value.oneCell']) rfl fun H4 b4 o4 => ?_
  obtain ⟨a, ha⟩ : ∃ a, a = H1.length := ⟨_, rfl⟩
  obtain ⟨b, hb⟩ : ∃ b, b = H2.length := ⟨_, rfl⟩
  rw [← ha] at o2; rw [← hb] at o4; rw [← ha, ← hb]
  have hab : a + 1 = b := by omega
  have o24 : Own H4 a 52 [.int .u64 0] := b4.own (o2.le l3) (by omega)
  have o4 : Own H4 b 2 [.int .i64 (-1)] := by simpa using o4
  have l24 : H2.le H4 := b4.le l3 (Nat.le_refl _)
  have l14 := AHeap.le_trans l2 l24
  have l04 := AHeap.le_trans l1 l14
  have o14 := o1.le l14
  have hb1 := l1.1
  have hl4 : H4.length = H2.length + 1 := by rw [b4.len]; omega
  unfold F44.B2
  refine ldI_own o14 rfl (ld1_own o14 rfl (matchings_ok hg (H0 := H) (Pv0 := fun x => x = a ∨ x = b) (q := isZero es)
    (J := fun done Pv G => (∀ x, Pv x ↔ (x = a ∨ x = b)) ∧ b < G.length ∧ (∀ l ∈ done, l ∈ mats n es) ∧ Own G a 52 [.int .u64 (setN (bestF es done).1 : Nat)] ∧ Own G b 2 [.int .i64 (bestF es done).2])
    h l04 (fun x hx => by omega) hT rfl ⟨fun x => Iff.rfl, by omega, (fun l hl => by cases hl), o24, o4⟩ ?_ ?_ ?_ ?_))
  · rintro done Pv G G2 ⟨h1, h2, h3, h4, h5⟩ hle
    exact ⟨h1, by have := hle.1; omega, h3, h4.le hle, h5.le hle⟩
  · rintro done Pv G x ⟨h1, h2, h3, h4, h5⟩ hx
    have := (h1 x).1 hx; omega
  · rintro done Pv l G ⟨h1, h2, h3, h4, h5⟩ hF hlm _ K hK
    obtain ⟨q1, q2, q3⟩ := hrow l hlm
    obtain ⟨h0G, _⟩ := hF.base l04 (fun x hx => by omega)
    have oG : Own G H.length _ [.int .i64 n, v] := hF.old _ _ (by omega) o14
    have hmem : ∀ l' ∈ done ++ [l], l' ∈ mats n es := fun l' hl' => by
      rcases List.mem_append.1 hl' with h | h
      · exact h3 l' h
      · rw [List.mem_singleton] at h; rw [h]; exact hlm
    refine callV_mk ?_
    apply F61.ac
    unfold F61.B5 F61.B4
    refine asP_mk (ldI_own oG rfl (ld1_own oG rfl (odd_ok (h.le h0G) hg q1 fun G2 lG2 => asI_mk ?_)))
    have h4' := h4.le lG2
    have h5' := h5.le lG2
    have hr := bestF_rng0 (es := es) done
    have hsn := bestF_snoc (es := es) done l
    have last : ∀ G3, (∀ x o, ¬ Pv x → G2[x]? = some (some o) → G3[x]? = some (some o)) → G3.length = G2.length → Own G3 a 52 [.int .u64 (setN (bestF es (done ++ [l])).1 : Nat)] → Own G3 b 2 [.int .i64 (bestF es (done ++ [l])).2] → F61.B1 K (.pointer (some ⟨b, 0, none⟩)) G3 := by
      intro G3 hold hlen3 oa ob
      unfold F61.B1
      refine asP_mk (ldI_own ob rfl ?_)
      have e : ((bestF es (done ++ [l])).2 == 0) = isZero es (done ++ [l]) := by
        rw [Bool.eq_iff_iff, beq_iff_eq]; unfold isZero; simp
      rw [e]
      exact hK G3 Pv ⟨h1, by rw [hlen3]; have := lG2.1; omega, hmem, oa, ob⟩ ⟨by rw [hlen3]; exact lG2.1, fun x hx => .inl hx, fun x o hx ho => hold x o hx (lG2.2 _ _ ho)⟩
    have upd : ((bestF es done).2 < 0 ∨ (oddN es l : Int) < (bestF es done).2) → F61.B2 K (setN l : Nat) (.pointer (some ⟨b, 0, none⟩)) (.pointer (some ⟨a, 0, none⟩)) (oddN es l : Nat) G2 := by
      intro hc
      have e : bestF es (done ++ [l]) = (l, (oddN es l : Int)) := by rw [hsn]; unfold bestS; rw [if_pos hc]
      unfold F61.B2
      refine asP_mk (stK_f h4' (by simp) (by simp [Value.oneCell']) rfl fun G3 b3 o3' => asP_mk (stK_f (b3.own h5' (by omega)) (by simp) (by simp [Value.oneCell']) rfl fun G4 b4' o4' => ?_))
      refine last G4 (fun x o hx ho => ?_) (by rw [b4'.len, b3.len]) ?_ ?_
      · have hn : ¬ (x = a ∨ x = b) := fun h => hx ((h1 x).2 h)
        rw [b4'.same x (by omega), b3.same x (by omega)]; exact ho
      · rw [e]; exact b4'.own (by simpa using o3') (by omega)
      · rw [e]; simpa using o4'
    unfold F61.B3
    refine asP_mk (ldI_own h5' rfl (pif_cases (fun hb => ?_) fun hb => asP_mk (ldI_own h5' rfl (pif_cases (fun hb2 => ?_) fun hb2 => ?_))))
    · exact upd (.inl (by have := beq_iff_eq.1 hb; omega))
    · exact upd (.inr (of_decide_eq_true hb2))
    · have h1' : (bestF es done).2 ≠ -1 := fun e => by rw [e] at hb; simp at hb
      have h2' := of_decide_eq_false hb2
      have e : bestF es (done ++ [l]) = bestF es done := by rw [hsn]; unfold bestS; rw [if_neg (by omega)]
      refine last G2 (fun x o _ ho => ho) rfl ?_ ?_
      · rw [e]; exact h4'
      · rw [e]; exact h5'
  · rintro G Pv ⟨h1, h2, h3, h4, h5⟩ hF
    have e : bestF es (upToD (isZero es) [] (mats n es)) = bestF es (mats n es) := by
      have := best_up (es := es) (mats n es) []
      simpa using this
    rw [e] at h4 h5
    have hbG := (hF.base l04 (fun x hx => by omega)).1
    refine asB_mk ?_
    unfold F44.B1
    refine ldI_own h4 rfl (ldI_own h5 rfl (ldI_own h5 rfl ?_))
    have e2 : ((bestF es (mats n es)).2 != -1) = decide (mats n es ≠ []) := by
      rw [Bool.eq_iff_iff, bne_iff_ne, decide_eq_true_iff]
      exact not_congr bestF_none
    rw [e2]
    exact k G hbG

noncomputable def bmCode (n : Int) (es : List (Int × Int)) : Int := if IsG n es then (if mats n es = [] then 4 else 0) else 1
noncomputable def odVal (n : Int) (es : List (Int × Int)) : Int := if bmCode n es = 0 then (bestF es (mats n es)).2 else 0
end Go.Proofs
