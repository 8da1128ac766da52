/- Contracts: all matchings, the reference's way. -/
import Derived.Test.YtfcflpcmjlbedabU12b
import Derived.Test.YtfcflpcmjlbedabU8
import Derived.Test.YtfcflpcmjlbedabU13
import Derived.Test.YtfcflpcmjlbedabK3
import Derived.Test.YtfcflpcmjlbedabU38
set_option linter.unusedVariables false
set_option linter.unusedSimpArgs false
set_option maxRecDepth 100000
namespace Go.Proofs
open Go.Abs

variable {H G : AHeap} {v u f : Value} {l m c D : List Int} {es fs : List (Int × Int)} {K : Value → AHeap → Prop} {A A' : Nat → Prop} {B : Nat} {ls ms : List (List Int)}

end Go.Proofs
