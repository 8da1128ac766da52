/- Plain mathematics: all matchings, in order. -/
import Derived.Test.YtfcflpcmjlbedabM9
set_option linter.unusedVariables false
set_option linter.unusedSimpArgs false
namespace Go.Proofs
open Go.Abs

/-- How many vertices have no bit. -/
def left (s n : Nat) : Nat := unseen (fun j => s.testBit j) n
section
variable {n : Int} {es : List (Int × Int)}
end
end Go.Proofs
