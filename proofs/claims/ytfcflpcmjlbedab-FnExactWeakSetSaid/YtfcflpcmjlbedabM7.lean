/- Plain mathematics: the cycles of a set of edges: its connected parts. -/
import Derived.Test.YtfcflpcmjlbedabM6
set_option linter.unusedVariables false
set_option linter.unusedSimpArgs false
namespace Go.Proofs
open Go.Abs

/-- Edges of a kind that have a vertex in common. -/
def eAdj (es : List (Int × Int)) (p : Nat → Bool) (i j : Nat) : Prop := j < es.length ∧ p j = true ∧ share (es.getD i (0, 0)) (es.getD j (0, 0))
noncomputable def rchB (adj : Nat → Nat → Prop) (e : Nat) (j : Nat) : Bool := decide (Rch adj e j)
section
variable {es : List (Int × Int)} {p : Nat → Bool} {l : List Int}
end
/-- Vertices that an edge joins. -/
def vAdj (fs : List (Int × Int)) (a b : Nat) : Prop := ((a : Int), (b : Int)) ∈ fs ∨ ((b : Int), (a : Int)) ∈ fs
end Go.Proofs
