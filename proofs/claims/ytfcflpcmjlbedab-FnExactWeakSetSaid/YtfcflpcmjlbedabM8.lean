/- Plain mathematics: the parts of what is left, as lists of vertices. -/
import Derived.Test.YtfcflpcmjlbedabM7
set_option linter.unusedVariables false
set_option linter.unusedSimpArgs false
namespace Go.Proofs
open Go.Abs

noncomputable def vLeadB (fs : List (Int × Int)) (i : Nat) : Bool := @decide (∀ b, b < i → ¬ Rch (vAdj fs) b i) (Classical.propDecidable _)
noncomputable def sideL (fs : List (Int × Int)) (n v : Nat) : List Int := filtB (rchB (vAdj fs) v) n
/-- The sides with the least vertices less than k. -/
noncomputable def sidesTo (fs : List (Int × Int)) (n k : Nat) : List (List Int) := ((List.range k).filter (vLeadB fs)).map (sideL fs n)
noncomputable def sidesL (fs : List (Int × Int)) (n : Nat) : List (List Int) := sidesTo fs n n
theorem getD_set_ne {l : List Int} {i j : Nat} {x : Int} (h : i ≠ j) : (l.set i x).getD j 0 = l.getD j 0 := by simp [List.getD, List.getElem?_set, h]
theorem getD_set_self {l : List Int} {i : Nat} {x : Int} (h : i < l.length) : (l.set i x).getD i 0 = x := by simp [List.getD, h]
/-- Each vertex's place among the sides. -/
def PlaceTo (fs : List (Int × Int)) (n : Nat) (P : List Int) (k t : Nat) : Prop := P.length = n ∧ (∀ j, j < k → ∀ x : Nat, (x : Int) ∈ (sidesL fs n).getD j [] → P.getD x 0 = j) ∧ ∀ t', t' < t → P.getD (((sidesL fs n).getD k []).getD t' 0).toNat 0 = k
theorem PlaceTo.next {fs : List (Int × Int)} {n : Nat} {P : List Int} {k : Nat} (h : PlaceTo fs n P k ((sidesL fs n).getD k []).length) : PlaceTo fs n P (k + 1) 0 := by
  obtain ⟨h1, h2, h3⟩ := h
  refine ⟨h1, fun j hj x hx => ?_, fun t' h => absurd h (by omega)⟩
  by_cases e : j = k
  · subst e
    obtain ⟨t, ht, hte⟩ := List.getElem_of_mem hx
    have := h3 t ht
    rw [getD_of ht, hte] at this
    simpa using this
  · exact h2 j (by omega) x hx
end Go.Proofs
