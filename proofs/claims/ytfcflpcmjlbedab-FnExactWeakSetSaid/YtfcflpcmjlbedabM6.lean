/- Plain mathematics: sets as ascending lists; degrees. -/
import Derived.Test.YtfcflpcmjlbedabM5
set_option linter.unusedVariables false
set_option linter.unusedSimpArgs false
namespace Go.Proofs
open Go.Abs

/-- The numbers less than n with a mark. -/
def filtB (S : Nat → Bool) (k : Nat) : List Int := ((List.range k).filter S).map Int.ofNat
theorem filtB_succ (S : Nat → Bool) (k : Nat) : filtB S (k + 1) = filtB S k ++ (if S k then [(k : Int)] else []) := by
  unfold filtB
  rw [List.range_succ, List.filter_append, List.map_append]
  congr 1
  cases h : S k <;> simp [h]
theorem filtB_length (S : Nat → Bool) (k : Nat) : (filtB S k).length ≤ k := by
  unfold filtB; rw [List.length_map]
  exact Nat.le_trans (List.length_filter_le _ _) (by simp)
theorem filtB_congr {S S' : Nat → Bool} {k : Nat} (h : ∀ i, i < k → S i = S' i) : filtB S k = filtB S' k := by
  unfold filtB
  rw [List.filter_congr fun i hi => h i (List.mem_range.1 hi)]
theorem bits_lt {s n : Nat} (h : ∀ j, s.testBit j = true → j < n) : s < 2 ^ n := by
  apply Nat.lt_pow_two_of_testBit
  intro i hi
  cases hb : s.testBit i with
  | false => rfl
  | true => have := h i hb; omega
theorem bitsL_filt {s n : Nat} (hn : n ≤ 64) (h : ∀ j, s.testBit j = true → j < n) : bitsL s = filtB (fun j => s.testBit j) n := by
  have e := bitsTo_end (Nat.div_eq_of_lt (bits_lt h)) (64 - n)
  rw [show n + (64 - n) = 64 by omega] at e
  exact e
theorem mem_filtB {S : Nat → Bool} {k : Nat} {x : Int} : x ∈ filtB S k ↔ ∃ j : Nat, x = j ∧ j < k ∧ S j = true := by
  unfold filtB
  rw [List.mem_map]
  constructor
  · rintro ⟨j, hj, rfl⟩
    rw [List.mem_filter, List.mem_range] at hj
    exact ⟨j, rfl, hj⟩
  · rintro ⟨j, rfl, h⟩
    exact ⟨j, by rw [List.mem_filter, List.mem_range]; exact h, rfl⟩
/-- Ascending. -/
def Asc (l : List Int) : Prop := l.Pairwise (· < ·)
theorem Asc.ext : ∀ {l m : List Int}, Asc l → Asc m → (∀ x, x ∈ l ↔ x ∈ m) → l = m
  | [], [], _, _, _ => rfl
  | [], b :: m, _, _, h => absurd ((h b).2 (by simp)) (by simp)
  | a :: l, [], _, _, h => absurd ((h a).1 (by simp)) (by simp)
  | a :: l, b :: m, hl, hm, h => by
    unfold Asc at hl hm
    rw [List.pairwise_cons] at hl hm
    have hab : a = b := by
      have h1 := (h a).1 (by simp)
      have h2 := (h b).2 (by simp)
      rcases List.mem_cons.1 h1 with rfl | h1
      · rfl
      · rcases List.mem_cons.1 h2 with h2 | h2
        · exact h2.symm
        · have := hl.1 b h2; have := hm.1 a h1; omega
    subst hab
    rw [Asc.ext hl.2 hm.2 fun x => ?_]
    constructor
    · intro hx
      rcases List.mem_cons.1 ((h x).1 (by simp [hx])) with rfl | hx'
      · exact absurd (hl.1 x hx) (Int.lt_irrefl _)
      · exact hx'
    · intro hx
      rcases List.mem_cons.1 ((h x).2 (by simp [hx])) with rfl | hx'
      · exact absurd (hm.1 x hx) (Int.lt_irrefl _)
      · exact hx'
theorem filtB_asc (S : Nat → Bool) (k : Nat) : Asc (filtB S k) := by
  unfold filtB Asc
  refine List.Pairwise.map _ (fun a b (h : a < b) => Int.ofNat_lt.2 h) ?_
  exact List.Pairwise.filter _ List.pairwise_lt_range
theorem IsS.asc {l : List Int} {n : Int} (h : IsS l n) : Asc l := by
  have key : ∀ i j, i < j → j < l.length → l.getD i 0 < l.getD j 0 := by
    intro i j hij hj
    induction j with
    | zero => omega
    | succ j ih =>
      have := (h (j + 1) hj).2.2 (by omega)
      rw [Nat.add_sub_cancel] at this
      by_cases e : i = j
      · subst e; exact this
      · have := ih (by omega) (by omega); omega
  unfold Asc
  rw [List.pairwise_iff_getElem]
  intro i j hi hj hij
  have := key i j hij hj
  rwa [getD_of hi, getD_of hj] at this
/-- A set's bits. -/
def bitB (l : List Int) (j : Nat) : Bool := (setN l).testBit j
theorem bitB_mem {l : List Int} {n : Int} (h : IsS l n) (j : Nat) : bitB l j = true ↔ (j : Int) ∈ l := by
  unfold bitB
  rw [setN_bit fun x hx => (h.range x hx).1]; simp
theorem bitB_lt {l : List Int} {n : Nat} (h : IsS l n) {j : Nat} (hj : bitB l j = true) : j < n := by
  have := h.range _ ((bitB_mem h j).1 hj); omega
theorem IsS.filt {l : List Int} {n : Nat} (h : IsS l n) : l = filtB (bitB l) n := by
  refine Asc.ext h.asc (filtB_asc _ _) fun x => ?_
  rw [mem_filtB]
  constructor
  · intro hx
    have := h.range x hx
    refine ⟨x.toNat, by omega, by omega, (bitB_mem h _).2 ?_⟩
    rwa [show ((x.toNat : Nat) : Int) = x by omega]
  · rintro ⟨j, rfl, _, hj⟩
    exact (bitB_mem h j).1 hj

end Go.Proofs
