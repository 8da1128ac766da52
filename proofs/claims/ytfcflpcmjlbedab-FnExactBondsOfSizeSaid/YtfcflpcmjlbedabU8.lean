/- Contracts: colourings. -/
import Derived.Test.YtfcflpcmjlbedabU6
import Derived.Test.YtfcflpcmjlbedabM3
set_option linter.unusedVariables false
set_option linter.unusedSimpArgs false
set_option maxRecDepth 100000
namespace Go.Proofs
open Go.Abs

variable {H : AHeap} {v u f : Value} {l m c : List Int} {es fs : List (Int × Int)} {K : Value → AHeap → Prop}

/-- An edge's end. -/
def en (e : Int × Int) (k : Nat) : Int := if k = 0 then e.1 else e.2
theorem on_en {e : Int × Int} {k : Nat} : on e (en e k) = true := by
  unfold on en; split <;> simp
theorem on_cases {e : Int × Int} {v : Int} (h : on e v = true) : v = en e 0 ∨ v = en e 1 := by
  unfold on at h; unfold en
  simp only [Bool.or_eq_true, beq_iff_eq] at h
  rcases h with h | h
  · left; simp [h]
  · right; simp [h]
end Go.Proofs
