/- Contracts: cycles of a set, whether a set is a cycle, both sides. -/
import Derived.Test.YtfcflpcmjlbedabU18
import Derived.Test.YtfcflpcmjlbedabU19
set_option linter.unusedVariables false
set_option linter.unusedSimpArgs false
set_option maxRecDepth 100000
namespace Go.Proofs
open Go.Abs

variable {H G : AHeap} {v u f : Value} {l m c : List Int} {es fs : List (Int × Int)} {K : Value → AHeap → Prop} {A : Nat → Prop} {B : Nat} {ls : List (List Int)}

end Go.Proofs
