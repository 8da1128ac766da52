/- Contracts: cycles of a set, whether a set is a cycle, both sides. -/
import Derived.Test.YtfcflpcmjlbedaaU18
import Derived.Test.YtfcflpcmjlbedaaU19
set_option linter.unusedVariables false
set_option linter.unusedSimpArgs false
set_option maxRecDepth 100000
namespace Go.Proofs
open Go.Abs

variable {H G : AHeap} {v u f : Value} {l m c : List Int} {es fs : List (Int × Int)} {K : Value → AHeap → Prop} {A : Nat → Prop} {B : Nat} {ls : List (List Int)}

noncomputable def edCode (n : Int) (es : List (Int × Int)) (l : List Int) : Int := if IsG n es then (if IsS l es.length then 0 else 2) else 1
theorem edCode_zero {n : Int} (h : edCode n es l = 0) : IsG n es ∧ IsS l es.length := by
  unfold edCode at h
  by_cases hg : IsG n es
  · rw [if_pos hg] at h
    by_cases hs : IsS l es.length
    · exact ⟨hg, hs⟩
    · rw [if_neg hs] at h; cases h
  · rw [if_neg hg] at h; cases h
end Go.Proofs
