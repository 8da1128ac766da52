/- The program's types. -/
import Derived.Test.YtngacbdogjmpaaaGreatX36P3
import Derived.Test.YtngacbdogjmpaaaGreatProg
namespace Go.Proofs
open Go.Abs
noncomputable def T0:TT:=tyOf Tryz.prog
theorem zA7:TT.ok Tryz.prog T0:=zyq _
theorem mixed:Tryz.prog.follows .mixedOrders=true:=by kernel_rfl
noncomputable abbrev ob (f:Func) (l:List Dir):List Oper:=opsIn (codeAt (bodyOf f) l)
end Go.Proofs
