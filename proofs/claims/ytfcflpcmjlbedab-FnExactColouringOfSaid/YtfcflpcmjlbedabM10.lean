/- Plain mathematics: all matchings, in order. -/
import Derived.Test.YtfcflpcmjlbedabM9
set_option linter.unusedVariables false
set_option linter.unusedSimpArgs false
namespace Go.Proofs
open Go.Abs

/-- The other end of an edge. -/
def othN (es : List (Int × Int)) (e : Int) (v : Nat) : Nat := ((es.getD e.toNat (0, 0)).1 + (es.getD e.toNat (0, 0)).2 - v).toNat
/-- How many vertices have no bit. -/
def left (s n : Nat) : Nat := unseen (fun j => s.testBit j) n
section
variable {n : Int} {es : List (Int × Int)}
end
end Go.Proofs
