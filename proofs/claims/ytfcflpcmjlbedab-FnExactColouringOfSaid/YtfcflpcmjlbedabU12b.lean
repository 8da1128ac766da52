/- Contracts: other ends. -/
import Derived.Test.YtfcflpcmjlbedabU12
set_option linter.unusedVariables false
set_option linter.unusedSimpArgs false
set_option maxRecDepth 100000
namespace Go.Proofs
open Go.Abs

variable {H G : AHeap} {v u f : Value} {l m c D : List Int} {es fs : List (Int × Int)} {K : Value → AHeap → Prop} {A A' : Nat → Prop} {B : Nat} {ls ms : List (List Int)}

theorem on_oth {e : Int × Int} {x : Int} (h : on e x = true) : e.1 + e.2 - x = e.1 ∨ e.1 + e.2 - x = e.2 := by
  unfold on at h
  simp only [Bool.or_eq_true, beq_iff_eq] at h
  omega
end Go.Proofs
