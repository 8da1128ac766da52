/-
  No cell of these rows narrows 'for every input' (looked for: loops, veiled, ifaces, maps, wideKeys, modest, calm, conditions, laid).
  DERIVED. THE GIVEN ROWS OF THIS SEAT. 6 by the template 'for every input the law returns true; each argument reads behind the call as it read before'; 0 by the template 'total and deterministic' (their statements: YtkmjiikgkhhciaaTotals.lean).
  GIVEN WITH THE SEED: the statements are not yours to turn. If you find one false, say at which input.
  Laid BY PROGRAM, IN A SANDBOX (cutbox-rows.mjs): the forced cells as the released guide's own fill.sh prints them over the translation 27d4362c43843fab… (all of the seat's roots in one cut). By AI agents, Wed Nov 11 2026. No macro, syntax, notation, axiom, sorry.
-/
import Derived.Test.YtkmjiikgkhhciaaChecked
import GoSem.Claim
import GoSem.ClaimJoined
import GoSem.ClaimMapViews
import Derived.JoinedTies
import Derived.KernelRfl
namespace Go.Proofs.Ytkmjiikgkhhciaa
/- THE CELL 'sum', in the pinned program and in every row, IS THE sha256 OF THE DUMP (.gsa) THAT YtkmjiikgkhhciaaProg.lean LOADS. Nothing in Lean hashes anything: it is a label: what it is worth is what the hold of that sum in a sandbox is worth. -/
noncomputable def Try.pinned : Pinned := { name := "ytkmjiikgkhhciaa", sum := "27d4362c43843fab4cb7477db2592e3c5cd93a12f5d2d124b49b5d1cc9afebe9", checked := Try.checked }
namespace Rows
def none {H : Type} : Left H := { results := [], args := [] }

/-- 'laws.FnExactCountReached': WHATEVER THE INPUT: true; the input reads as it did. -/
def fnExactCountReachedSpec : ChangeSpec := { name := "fnExactCountReached", fn := fun _ => fun
  | [d1, d2] => { results := [.lit (.bool true)], args := [d1, d2] }
  | _ => none }
def fnExactCountReachedRow : OpenClaim := { program := "ytkmjiikgkhhciaa", sum := "27d4362c43843fab4cb7477db2592e3c5cd93a12f5d2d124b49b5d1cc9afebe9", func := "loop.example/g01329/laws.FnExactCountReached", spec := "fnExactCountReached", unfollowed := true, recurses := true, plainKeys := false, apart := false }
def FnExactCountReachedSaid : Prop := fnExactCountReachedRow.holds Try.pinned (OpenSpec.ofChange fnExactCountReachedSpec)

/-- ITS FALSE NEIGHBOUR: 'it returns false'. Refute it at one input. -/
def fnExactCountReachedWrong : ChangeSpec := { name := "fnExactCountReached", fn := fun _ => fun
  | [d1, d2] => { results := [.lit (.bool false)], args := [d1, d2] }
  | _ => none }
def FnExactCountReachedWrongFalsely : Prop := fnExactCountReachedRow.holds Try.pinned (OpenSpec.ofChange fnExactCountReachedWrong)

/-- 'laws.FnExactIsOrientedBy': WHATEVER THE INPUT: true; the input reads as it did. -/
def fnExactIsOrientedBySpec : ChangeSpec := { name := "fnExactIsOrientedBy", fn := fun _ => fun
  | [d1, d2, d3] => { results := [.lit (.bool true)], args := [d1, d2, d3] }
  | _ => none }
def fnExactIsOrientedByRow : OpenClaim := { program := "ytkmjiikgkhhciaa", sum := "27d4362c43843fab4cb7477db2592e3c5cd93a12f5d2d124b49b5d1cc9afebe9", func := "loop.example/g01329/laws.FnExactIsOrientedBy", spec := "fnExactIsOrientedBy", unfollowed := true, recurses := true, plainKeys := false, apart := false }
def FnExactIsOrientedBySaid : Prop := fnExactIsOrientedByRow.holds Try.pinned (OpenSpec.ofChange fnExactIsOrientedBySpec)

/-- ITS FALSE NEIGHBOUR: 'it returns false'. Refute it at one input. -/
def fnExactIsOrientedByWrong : ChangeSpec := { name := "fnExactIsOrientedBy", fn := fun _ => fun
  | [d1, d2, d3] => { results := [.lit (.bool false)], args := [d1, d2, d3] }
  | _ => none }
def FnExactIsOrientedByWrongFalsely : Prop := fnExactIsOrientedByRow.holds Try.pinned (OpenSpec.ofChange fnExactIsOrientedByWrong)

/-- 'laws.FnExactNewDesk': WHATEVER THE INPUT: true; the input reads as it did. -/
def fnExactNewDeskSpec : ChangeSpec := { name := "fnExactNewDesk", fn := fun _ => fun
  | [] => { results := [.lit (.bool true)], args := [] }
  | _ => none }
def fnExactNewDeskRow : OpenClaim := { program := "ytkmjiikgkhhciaa", sum := "27d4362c43843fab4cb7477db2592e3c5cd93a12f5d2d124b49b5d1cc9afebe9", func := "loop.example/g01329/laws.FnExactNewDesk", spec := "fnExactNewDesk", unfollowed := true, recurses := true, plainKeys := false, apart := false }
def FnExactNewDeskSaid : Prop := fnExactNewDeskRow.holds Try.pinned (OpenSpec.ofChange fnExactNewDeskSpec)

/-- ITS FALSE NEIGHBOUR: 'it returns false'. Refute it at one input. -/
def fnExactNewDeskWrong : ChangeSpec := { name := "fnExactNewDesk", fn := fun _ => fun
  | [] => { results := [.lit (.bool false)], args := [] }
  | _ => none }
def FnExactNewDeskWrongFalsely : Prop := fnExactNewDeskRow.holds Try.pinned (OpenSpec.ofChange fnExactNewDeskWrong)

/-- 'laws.FnExactCyclesLeft': WHATEVER THE INPUT: true; the input reads as it did. -/
def fnExactCyclesLeftSpec : ChangeSpec := { name := "fnExactCyclesLeft", fn := fun _ => fun
  | [d1, d2] => { results := [.lit (.bool true)], args := [d1, d2] }
  | _ => none }
def fnExactCyclesLeftRow : OpenClaim := { program := "ytkmjiikgkhhciaa", sum := "27d4362c43843fab4cb7477db2592e3c5cd93a12f5d2d124b49b5d1cc9afebe9", func := "loop.example/g01329/laws.FnExactCyclesLeft", spec := "fnExactCyclesLeft", unfollowed := true, recurses := true, plainKeys := false, apart := false }
def FnExactCyclesLeftSaid : Prop := fnExactCyclesLeftRow.holds Try.pinned (OpenSpec.ofChange fnExactCyclesLeftSpec)

/-- ITS FALSE NEIGHBOUR: 'it returns false'. Refute it at one input. -/
def fnExactCyclesLeftWrong : ChangeSpec := { name := "fnExactCyclesLeft", fn := fun _ => fun
  | [d1, d2] => { results := [.lit (.bool false)], args := [d1, d2] }
  | _ => none }
def FnExactCyclesLeftWrongFalsely : Prop := fnExactCyclesLeftRow.holds Try.pinned (OpenSpec.ofChange fnExactCyclesLeftWrong)

/-- 'laws.FnExactCountRounds': WHATEVER THE INPUT: true; the input reads as it did. -/
def fnExactCountRoundsSpec : ChangeSpec := { name := "fnExactCountRounds", fn := fun _ => fun
  | [d] => { results := [.lit (.bool true)], args := [d] }
  | _ => none }
def fnExactCountRoundsRow : OpenClaim := { program := "ytkmjiikgkhhciaa", sum := "27d4362c43843fab4cb7477db2592e3c5cd93a12f5d2d124b49b5d1cc9afebe9", func := "loop.example/g01329/laws.FnExactCountRounds", spec := "fnExactCountRounds", unfollowed := true, recurses := true, plainKeys := false, apart := false }
def FnExactCountRoundsSaid : Prop := fnExactCountRoundsRow.holds Try.pinned (OpenSpec.ofChange fnExactCountRoundsSpec)

/-- ITS FALSE NEIGHBOUR: 'it returns false'. Refute it at one input. -/
def fnExactCountRoundsWrong : ChangeSpec := { name := "fnExactCountRounds", fn := fun _ => fun
  | [d] => { results := [.lit (.bool false)], args := [d] }
  | _ => none }
def FnExactCountRoundsWrongFalsely : Prop := fnExactCountRoundsRow.holds Try.pinned (OpenSpec.ofChange fnExactCountRoundsWrong)

/-- 'laws.FnExactCyclesByLength': WHATEVER THE INPUT: true; the input reads as it did. -/
def fnExactCyclesByLengthSpec : ChangeSpec := { name := "fnExactCyclesByLength", fn := fun _ => fun
  | [d] => { results := [.lit (.bool true)], args := [d] }
  | _ => none }
def fnExactCyclesByLengthRow : OpenClaim := { program := "ytkmjiikgkhhciaa", sum := "27d4362c43843fab4cb7477db2592e3c5cd93a12f5d2d124b49b5d1cc9afebe9", func := "loop.example/g01329/laws.FnExactCyclesByLength", spec := "fnExactCyclesByLength", unfollowed := true, recurses := true, plainKeys := false, apart := false }
def FnExactCyclesByLengthSaid : Prop := fnExactCyclesByLengthRow.holds Try.pinned (OpenSpec.ofChange fnExactCyclesByLengthSpec)

/-- ITS FALSE NEIGHBOUR: 'it returns false'. Refute it at one input. -/
def fnExactCyclesByLengthWrong : ChangeSpec := { name := "fnExactCyclesByLength", fn := fun _ => fun
  | [d] => { results := [.lit (.bool false)], args := [d] }
  | _ => none }
def FnExactCyclesByLengthWrongFalsely : Prop := fnExactCyclesByLengthRow.holds Try.pinned (OpenSpec.ofChange fnExactCyclesByLengthWrong)

/- THE SECOND FORM. 'bulk': how many values and letters a reading holds, each counted each time it is reached (what is shared counts as often as it is met; a slice's spare places count too). A statement '..UptoSaid' is the law's where the arguments, and the package variables that the reading takes, are together of bulk at most 1048576: NARROWER than '..Said'. Prove '..Said' where nothing that the law and all that it calls make is longer than what came in: it says more and counts as full. Else prove '..UptoSaid'. A law counts once. -/
mutual
def uptoBulk {H : Type} : DataW H → Nat
  | .lit (.string bytes) => bytes.length + 1
  | .lit _ => 1
  | .nil => 1
  | .ptr d => uptoBulk d + 1
  | .slice elems spare => uptoBulkAll elems + uptoBulkAll spare + 1
  | .agg parts => uptoBulkAll parts + 1
  | .iface _ d => uptoBulk d + 1
  | .map entries => uptoBulkEntries entries + 1
  | .held _ => 1
def uptoBulkAll {H : Type} : List (DataW H) → Nat
  | [] => 0
  | d :: r => uptoBulk d + uptoBulkAll r
def uptoBulkEntries {H : Type} : List (Lit × DataW H) → Nat
  | [] => 0
  | x :: r => uptoBulkEntry x + uptoBulkEntries r
def uptoBulkEntry {H : Type} : Lit × DataW H → Nat
  | (.string bytes, d) => bytes.length + uptoBulk d + 1
  | (_, d) => uptoBulk d + 1
 end
def uptoSmall : (H : Type) → List (DataW H) → Bool := fun _ ds => decide (uptoBulkAll ds ≤ 1048576)
def OpenSpec.upto (s : _root_.Go.ChangeSpec) : _root_.Go.OpenSpec := { _root_.Go.OpenSpec.ofChange s with cond := some uptoSmall }

/-- 'laws.FnExactCountReached', WHERE WHAT IT READS IS OF BULK AT MOST 1048576: true; the input reads as it did. -/
def fnExactCountReachedUptoRow : OpenClaim := { program := "ytkmjiikgkhhciaa", sum := "27d4362c43843fab4cb7477db2592e3c5cd93a12f5d2d124b49b5d1cc9afebe9", func := "loop.example/g01329/laws.FnExactCountReached", spec := "fnExactCountReached", unfollowed := true, recurses := true, plainKeys := false, apart := false, narrowed := true }
def FnExactCountReachedUptoSaid : Prop := fnExactCountReachedUptoRow.holds Try.pinned (OpenSpec.upto fnExactCountReachedSpec)

/-- 'laws.FnExactIsOrientedBy', WHERE WHAT IT READS IS OF BULK AT MOST 1048576: true; the input reads as it did. -/
def fnExactIsOrientedByUptoRow : OpenClaim := { program := "ytkmjiikgkhhciaa", sum := "27d4362c43843fab4cb7477db2592e3c5cd93a12f5d2d124b49b5d1cc9afebe9", func := "loop.example/g01329/laws.FnExactIsOrientedBy", spec := "fnExactIsOrientedBy", unfollowed := true, recurses := true, plainKeys := false, apart := false, narrowed := true }
def FnExactIsOrientedByUptoSaid : Prop := fnExactIsOrientedByUptoRow.holds Try.pinned (OpenSpec.upto fnExactIsOrientedBySpec)

/-- 'laws.FnExactNewDesk', WHERE WHAT IT READS IS OF BULK AT MOST 1048576: true; the input reads as it did. -/
def fnExactNewDeskUptoRow : OpenClaim := { program := "ytkmjiikgkhhciaa", sum := "27d4362c43843fab4cb7477db2592e3c5cd93a12f5d2d124b49b5d1cc9afebe9", func := "loop.example/g01329/laws.FnExactNewDesk", spec := "fnExactNewDesk", unfollowed := true, recurses := true, plainKeys := false, apart := false, narrowed := true }
def FnExactNewDeskUptoSaid : Prop := fnExactNewDeskUptoRow.holds Try.pinned (OpenSpec.upto fnExactNewDeskSpec)

/-- 'laws.FnExactCyclesLeft', WHERE WHAT IT READS IS OF BULK AT MOST 1048576: true; the input reads as it did. -/
def fnExactCyclesLeftUptoRow : OpenClaim := { program := "ytkmjiikgkhhciaa", sum := "27d4362c43843fab4cb7477db2592e3c5cd93a12f5d2d124b49b5d1cc9afebe9", func := "loop.example/g01329/laws.FnExactCyclesLeft", spec := "fnExactCyclesLeft", unfollowed := true, recurses := true, plainKeys := false, apart := false, narrowed := true }
def FnExactCyclesLeftUptoSaid : Prop := fnExactCyclesLeftUptoRow.holds Try.pinned (OpenSpec.upto fnExactCyclesLeftSpec)

/-- 'laws.FnExactCountRounds', WHERE WHAT IT READS IS OF BULK AT MOST 1048576: true; the input reads as it did. -/
def fnExactCountRoundsUptoRow : OpenClaim := { program := "ytkmjiikgkhhciaa", sum := "27d4362c43843fab4cb7477db2592e3c5cd93a12f5d2d124b49b5d1cc9afebe9", func := "loop.example/g01329/laws.FnExactCountRounds", spec := "fnExactCountRounds", unfollowed := true, recurses := true, plainKeys := false, apart := false, narrowed := true }
def FnExactCountRoundsUptoSaid : Prop := fnExactCountRoundsUptoRow.holds Try.pinned (OpenSpec.upto fnExactCountRoundsSpec)

/-- 'laws.FnExactCyclesByLength', WHERE WHAT IT READS IS OF BULK AT MOST 1048576: true; the input reads as it did. -/
def fnExactCyclesByLengthUptoRow : OpenClaim := { program := "ytkmjiikgkhhciaa", sum := "27d4362c43843fab4cb7477db2592e3c5cd93a12f5d2d124b49b5d1cc9afebe9", func := "loop.example/g01329/laws.FnExactCyclesByLength", spec := "fnExactCyclesByLength", unfollowed := true, recurses := true, plainKeys := false, apart := false, narrowed := true }
def FnExactCyclesByLengthUptoSaid : Prop := fnExactCyclesByLengthUptoRow.holds Try.pinned (OpenSpec.upto fnExactCyclesByLengthSpec)

end Rows
end Go.Proofs.Ytkmjiikgkhhciaa
