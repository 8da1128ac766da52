/- Contracts: the cycles of a set of edges, the reference's way. -/
import Derived.Test.YtfcflpcmjlbedabU16
import Derived.Test.YtfcflpcmjlbedabU17
set_option linter.unusedVariables false
set_option linter.unusedSimpArgs false
set_option maxRecDepth 100000
namespace Go.Proofs
open Go.Abs

variable {H G : AHeap} {v u f : Value} {l m c : List Int} {es fs : List (Int × Int)} {K : Value → AHeap → Prop} {A : Nat → Prop} {B : Nat} {ls : List (List Int)}

end Go.Proofs
