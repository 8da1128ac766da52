/- The program's types. -/
import Derived.Test.YtfcflpcmjlbedaaDoorP3
import Derived.Test.YtfcflpcmjlbedaaDoorProg
namespace Go.Proofs
open Go.Abs
noncomputable def T0 : TT := tyOf Tryd.prog
theorem T0_ok : TT.ok Tryd.prog T0 := tyOf_ok _
theorem mixed : Tryd.prog.follows .mixedOrders = true := by kernel_rfl
noncomputable abbrev ob (f : Func) (l : List Dir) : List Oper := opsIn (codeAt (bodyOf f) l)
end Go.Proofs
