/- The program's types. -/
import Derived.Test.YtkmjiikgkhhciaaP3
import Derived.Test.YtkmjiikgkhhciaaProg
namespace Go.Proofs
open Go.Abs
noncomputable def T0 : TT := tyOf Try.prog
theorem T0_ok : TT.ok Try.prog T0 := tyOf_ok _
theorem mixed : Try.prog.follows .mixedOrders = true := by kernel_rfl
noncomputable abbrev ob (f : Func) (l : List Dir) : List Oper := opsIn (codeAt (bodyOf f) l)
end Go.Proofs
