/- Contracts: numbers of odd cycles; best matchings, both sides. -/
import Derived.Test.YtfcflpcmjlbedabU43
import Derived.Test.YtfcflpcmjlbedabU17
import Derived.Test.YtfcflpcmjlbedabU40
set_option linter.unusedVariables false
set_option linter.unusedSimpArgs false
set_option maxRecDepth 100000
namespace Go.Proofs
open Go.Abs

variable {H G : AHeap} {v u f : Value} {l m c D : List Int} {es fs : List (Int × Int)} {K : Value → AHeap → Prop} {A A' : Nat → Prop} {B : Nat} {ls ms cs : List (List Int)}

def oddSum (l : List Nat) : Nat := (l.map (· % 2)).sum
theorem oddSum_snoc (l : List Nat) (x : Nat) : oddSum (l ++ [x]) = oddSum l + x % 2 := by unfold oddSum; simp
theorem oddSum_le (l : List Nat) : oddSum l ≤ l.length := by
  unfold oddSum
  induction l with
  | nil => simp
  | cons a l ih => simp; omega
theorem tmod2 (x : Nat) : Int.tmod ((x : Nat) : Int) 2 = ((x % 2 : Nat) : Int) := by
  rw [Int.tmod_eq_emod_of_nonneg (by omega)]; omega
theorem l04Odd_ok (h : RowsF A B H v cs) (hl : cs.length ≤ 1000000) (k : K (.int .i64 (oddSum (cs.map List.length) : Nat)) H) : AC Try.prog T0 76 [v] H K := by
  apply F76.ac
  unfold F76.B8 F76.B7 F76.B6 F76.L2
  refine ⟨fun x0 x3 x4 G => v = x0 ∧ H = G ∧ ∃ i : Nat, x4 = i ∧ i ≤ cs.length ∧ x3 = (oddSum ((cs.take i).map List.length) : Nat), fun _ _ x4 _ => cs.length - x4.toNat, ⟨rfl, rfl, 0, rfl, by omega, by simp [oddSum]⟩, ?_⟩
  rintro x0 x3 x4 G ⟨rfl, rfl, i, rfl, hi, rfl⟩
  have ho := oddSum_le ((cs.take i).map List.length)
  rw [List.length_map, List.length_take] at ho
  unfold F76.B5
  refine h.len (pif_cases (fun hb => ?_) fun hb => ?_)
  · have hil : i < cs.length := by have := of_decide_eq_true hb; omega
    unfold F76.B4
    refine h.row hil fun w fw => fw.ints.len ?_
    unfold F76.B3
    rw [tmod2, wrap_id (by omega) (by omega), wrap_id (by omega) (by omega)]
    refine ⟨⟨rfl, rfl, i + 1, by omega, by omega, ?_⟩, by show cs.length - ((i : Int) + 1).toNat < cs.length - (i : Int).toNat; omega⟩
    rw [List.take_succ_eq_append_getElem hil, List.map_append, List.map_singleton, oddSum_snoc, getD_of hil]; omega
  · have hil : i = cs.length := by have := of_decide_eq_false hb; omega
    subst hil
    unfold F76.B1
    rw [List.take_length]; exact k

section
variable {p p' : Nat → Bool}
theorem eAdj_congr (h : ∀ j, j < es.length → p j = p' j) : eAdj es p = eAdj es p' := by
  funext i j
  unfold eAdj
  rw [eq_iff_iff]
  constructor
  · rintro ⟨h1, h2, h3⟩; exact ⟨h1, by rw [← h j h1]; exact h2, h3⟩
  · rintro ⟨h1, h2, h3⟩; exact ⟨h1, by rw [h j h1]; exact h2, h3⟩
theorem lensTo_congr (h : ∀ j, j < es.length → p j = p' j) : ∀ k, k ≤ es.length → lensTo es p k = lensTo es p' k
  | 0, _ => rfl
  | k + 1, hk => by
    have hc : compL es p k = compL es p' k := by unfold compL; rw [eAdj_congr h]
    have hl : cLeadB es p k = cLeadB es p' k := by
      rw [Bool.eq_iff_iff, cLeadB_iff, cLeadB_iff]
      unfold cLead
      rw [eAdj_congr h]
      constructor
      · intro g j h1 h2; exact g j h1 (by rw [h j (by omega)]; exact h2)
      · intro g j h1 h2; exact g j h1 (by rw [← h j (by omega)]; exact h2)
    rw [lensTo, lensTo, lensTo_congr h k (by omega), hc, hl, h k (by omega)]
theorem cycN_lens (hm : es.length ≤ 64) : ∀ k, (cycN es p (filtB p k)).map (fun z => popc z 64) = lensTo es p k
  | 0 => rfl
  | k + 1 => by
    have ih := cycN_lens hm k
    unfold cycN at ih ⊢
    rw [filtB_succ, List.filter_append, List.map_append, List.map_append, ih, lensTo]
    congr 1
    cases h1 : p k with
    | false => simp
    | true =>
      cases h2 : cLeadB es p k with
      | false => simp [h2]
      | true =>
        have : popc (compN es p k) 64 = (compL es p k).length := by rw [← compN_list hm]; rfl
        simp [h2, this]
end
noncomputable def oddN (es : List (Int × Int)) (l : List Int) : Nat := oddSum (lensTo es (leftP l) es.length)
theorem lensTo_length (es : List (Int × Int)) (p : Nat → Bool) : ∀ k, (lensTo es p k).length ≤ k
  | 0 => Nat.le_refl _
  | k + 1 => by
    have := lensTo_length es p k
    rw [lensTo, List.length_append]
    split <;> simp <;> omega
theorem left_ok {n : Int} (h : Edges H v es) (hg : IsG n es) (hS : IsS l es.length)
    (k : ∀ v' G Z, H.le G → Fresh H.length G v' 72 1 (LU Z) → Z.map (fun z => popc z 64) = lensTo es (leftP l) es.length → (∀ z ∈ Z, z < 2 ^ 64) → K v' G) : AC Try.prog T0 79 [.agg ⟨[.int .i64 n, v]⟩, .int .u64 (setN l : Nat)] H K := by
  have h30 : es.length ≤ 30 := by have := hg.ed.len; have := hg.ed.hi; omega
  have hs : setN l < 2 ^ 64 := setN_lt fun x hx => by have := hS.range x hx; omega
  have hp : (2 : Nat) ^ es.length < 2 ^ 61 := Nat.pow_lt_pow_right (by decide) (by omega)
  have hp64 : (2 : Nat) ^ 61 < 2 ^ 64 := by decide
  have hmp := Nat.two_pow_pos es.length
  apply F79.ac
  unfold F79.B2
  refine newK_f (all_iv (edges_one' h)) fun H1 l1 _ o1 => ?_
  unfold F79.B1
  refine ldI_own o1 rfl (ld1_own o1 rfl (ldI_own o1 rfl (ld1_own o1 rfl (every_ok (h.le l1) (by omega) fun H2 l2 => asI_mk ⟨l2, ?_⟩))))
  rw [bits_andnot (by omega) hs]
  obtain ⟨X, hX⟩ : ∃ X, X = (2 ^ es.length - 1) &&& (2 ^ 64 - (setN l + 1)) := ⟨_, rfl⟩
  rw [← hX]
  have hXl : X < 2 ^ 64 := by rw [hX]; exact Nat.lt_of_le_of_lt Nat.and_le_left (by omega)
  have hXb : ∀ j, X.testBit j = (decide (j < es.length) && leftP l j) := fun j => by rw [hX, andnot_bit (by omega) hs, Nat.testBit_two_pow_sub_one]; rfl
  have l12 := AHeap.le_trans l1 l2
  refine cycles_ok (h.le l12) hg hXl (fun j hj => by rw [hXb, Bool.and_eq_true] at hj; exact of_decide_eq_true hj.1) fun v' G lG fG => ?_
  refine k v' G _ (AHeap.le_trans l12 lG) (fG.less l12.1) ?_ fun z hz => ?_
  · rw [cycN_lens (by omega)]
    exact lensTo_congr (fun j hj => by show X.testBit j = _; rw [hXb]; simp [hj]) _ (Nat.le_refl _)
  · unfold cycN at hz
    obtain ⟨y, _, rfl⟩ := List.mem_map.1 hz
    exact compN_lt (by omega)
theorem odd_ok {n : Int} (h : Edges H v es) (hg : IsG n es) (hS : IsS l es.length) (k : ∀ G, H.le G → K (.int .i64 (oddN es l : Nat)) G) : AC Try.prog T0 78 [.agg ⟨[.int .i64 n, v]⟩, .int .u64 (setN l : Nat)] H K := by
  apply F78.ac
  unfold F78.B9
  refine newK_f (all_iv (edges_one' h)) fun H1 l1 _ o1 => ?_
  unfold F78.B8 F78.B7
  refine ldI_own o1 rfl (ld1_own o1 rfl (left_ok (h.le l1) hg hS fun w H2 Z l2 f2 hZ hz64 => ?_))
  have h30 : es.length ≤ 30 := by have := hg.ed.len; have := hg.ed.hi; omega
  have hZl : Z.length ≤ 30 := by
    have := congrArg List.length hZ
    rw [List.length_map] at this
    have := lensTo_length es (leftP l) es.length
    omega
  have l12 := AHeap.le_trans l1 l2
  refine f2.sl.len (by decide) (n := Z.length) (by simp) ?_
  unfold F78.L2
  refine ⟨fun x5 x10 x11 x12 G => w = x10 ∧ (Z.length : Int) = x11 ∧ H2 = G ∧ ∃ i : Nat, x12 = i ∧ i ≤ Z.length ∧ x5 = (oddSum ((Z.take i).map fun z => popc z 64) : Nat), fun _ _ _ x12 _ => Z.length - x12.toNat, ⟨rfl, rfl, rfl, 0, rfl, by omega, by simp [oddSum]⟩, ?_⟩
  rintro x5 x10 x11 x12 G ⟨rfl, rfl, rfl, i, rfl, hi, rfl⟩
  have ho := oddSum_le ((Z.take i).map fun z => popc z 64)
  rw [List.length_map, List.length_take] at ho
  unfold F78.B6
  refine pif_cases (fun hb => ?_) fun hb => ?_
  · have hil : i < Z.length := by have := of_decide_eq_true hb; omega
    unfold F78.B5
    refine Sl_rdI f2.sl (by omega) (by simp; omega) (by rw [Int.toNat_natCast]; exact LU_get hil) ?_
    rw [getD_of hil]
    unfold F78.B4
    refine size_ok (hz64 _ (List.getElem_mem hil)) (asI_mk ?_)
    unfold F78.B3
    rw [tmod2, wrap_id (by omega) (by omega), wrap_id (by omega) (by omega)]
    refine ⟨⟨rfl, rfl, rfl, i + 1, by omega, by omega, ?_⟩, by show Z.length - ((i : Int) + 1).toNat < Z.length - (i : Int).toNat; omega⟩
    rw [List.take_succ_eq_append_getElem hil, List.map_append, List.map_singleton, oddSum_snoc]; omega
  · have hil : i = Z.length := by have := of_decide_eq_false hb; omega
    subst hil
    unfold F78.B1
    have k := k _ l12
    unfold oddN at k
    rw [← hZ] at k
    rw [List.take_length]; exact k

end Go.Proofs
