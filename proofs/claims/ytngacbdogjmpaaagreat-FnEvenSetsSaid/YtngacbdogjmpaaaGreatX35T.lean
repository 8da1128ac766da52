/- The program's types. -/
import Derived.Test.YtngacbdogjmpaaaGreatX35P3
import Derived.Test.YtngacbdogjmpaaaGreatProg
namespace Go.Proofs
open Go.Abs
noncomputable def T0:TT:=tyOf Tryz.prog
theorem T0_ok:TT.ok Tryz.prog T0:=tyOf_ok _
theorem mixed:Tryz.prog.follows .mixedOrders=true:=by kernel_rfl
noncomputable abbrev ob (f:Func) (l:List Dir):List Oper:=opsIn (codeAt (bodyOf f) l)
end Go.Proofs
