/- The program's types. -/
import Derived.Test.YtodklioaeooocaaA19
import Derived.Test.YtodklioaeooocaaProg
namespace Go.Proofs
open Go.Abs
noncomputable def T0 : TT := tyOf Try.prog
theorem T0_ok : TT.ok Try.prog T0 := tyOf_ok _
theorem mixed : Try.prog.follows .mixedOrders = true := by kernel_rfl
end Go.Proofs
