/- Contracts: the cycles of a set of edges, the program's way. -/
import Derived.Test.YtfcflpcmjlbedaaDoorK2
import Derived.Test.YtfcflpcmjlbedaaDoorU15
set_option linter.unusedVariables false
set_option linter.unusedSimpArgs false
set_option maxRecDepth 100000
namespace Go.Proofs
open Go.Abs

variable {H G : AHeap} {v u f : Value} {l m c : List Int} {es fs : List (Int × Int)} {K : Value → AHeap → Prop} {A : Nat → Prop} {B : Nat} {ls : List (List Int)}

noncomputable def tiSet : TI := (T0 52).getD ⟨.bool, 0, 0, undef⟩
theorem E_set : Elem T0 52 1 := ⟨tiSet, by kernel_rfl, by kernel_rfl, of_decide_eq_true (by kernel_rfl), by kernel_rfl⟩
theorem LU_get {Z : List Nat} {i : Nat} (h : i < Z.length) : (LU Z)[i]? = some (.int .u64 (Z.getD i 0 : Nat)) := by simp [h]

end Go.Proofs
