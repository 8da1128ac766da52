/- Contracts: other ends. -/
import Derived.Test.YtfcflpcmjlbedaaDoorU12
set_option linter.unusedVariables false
set_option linter.unusedSimpArgs false
set_option maxRecDepth 100000
namespace Go.Proofs
open Go.Abs

variable {H G : AHeap} {v u f : Value} {l m c D : List Int} {es fs : List (Int × Int)} {K : Value → AHeap → Prop} {A A' : Nat → Prop} {B : Nat} {ls ms : List (List Int)}

theorem other_ok {e : Int × Int} {x : Int} (h1 : 0 ≤ e.1 ∧ e.1 ≤ 1000000) (h2 : 0 ≤ e.2 ∧ e.2 ≤ 1000000) (h3 : 0 ≤ x ∧ x ≤ 1000000) (k : ∀ G, H.le G → K (.int .i64 (e.1 + e.2 - x)) G) : AC Tryd.prog T0 55 [ve e, .int .i64 x] H K := by
  apply F55.ac
  unfold F55.B2
  refine newK_f rfl fun H1 l1 n1 o1 => ?_
  unfold F55.B1
  have k := k _ l1
  refine ldI_own o1 rfl (ldI_own o1 rfl ?_)
  rw [wrap_id (x := e.1 + e.2) (by omega) (by omega), wrap_id (by omega) (by omega)]
  exact k

theorem on_oth {e : Int × Int} {x : Int} (h : on e x = true) : e.1 + e.2 - x = e.1 ∨ e.1 + e.2 - x = e.2 := by
  unfold on at h
  simp only [Bool.or_eq_true, beq_iff_eq] at h
  omega
end Go.Proofs
