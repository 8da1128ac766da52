/- Plain mathematics: how many bits a number has. -/
import Derived.Test.YtfcflpcmjlbedaaDoorM4
set_option linter.unusedVariables false
set_option linter.unusedSimpArgs false
namespace Go.Proofs
open Go.Abs

end Go.Proofs
