/-
  No cell of these rows narrows 'for every input' (looked for: loops, veiled, ifaces, maps, wideKeys, modest, calm, conditions, laid).
  DERIVED. THE GIVEN ROWS OF THIS SEAT. 9 by the template 'for every input the law returns true; each argument reads behind the call as it read before'; 0 by the template 'total and deterministic' (their statements: YtfcflpcmjlbedabTotals.lean).
  GIVEN WITH THE SEED: the statements are not yours to turn. If you find one false, say at which input.
  Laid BY PROGRAM, IN A SANDBOX (cutbox-rows.mjs): the forced cells as the released guide's own fill.sh prints them over the translation 5eeb587cae570bcb… (all of the seat's roots in one cut). By AI agents, Wed Nov 11 2026. No macro, syntax, notation, axiom, sorry.
-/
import Derived.Test.YtfcflpcmjlbedabChecked
import GoSem.Claim
import GoSem.ClaimJoined
import GoSem.ClaimMapViews
import Derived.JoinedTies
import Derived.KernelRfl
namespace Go.Proofs.Ytfcflpcmjlbedab
/- THE CELL 'sum', in the pinned program and in every row, IS THE sha256 OF THE DUMP (.gsa) THAT YtfcflpcmjlbedabProg.lean LOADS. Nothing in Lean hashes anything: it is a label: what it is worth is what the hold of that sum in a sandbox is worth. -/
noncomputable def Try.pinned : Pinned := { name := "ytfcflpcmjlbedab", sum := "5eeb587cae570bcbedff8aaf4f8aa4a91a9e38e9d7e40e5b21e7396171a11ca9", checked := Try.checked }
namespace Rows
def none {H : Type} : Left H := { results := [], args := [] }

/-- 'laws.FnExactCoverOfColouring': WHATEVER THE INPUT: true; the input reads as it did. -/
def fnExactCoverOfColouringSpec : ChangeSpec := { name := "fnExactCoverOfColouring", fn := fun _ => fun
  | [d1, d2] => { results := [.lit (.bool true)], args := [d1, d2] }
  | _ => none }
def fnExactCoverOfColouringRow : OpenClaim := { program := "ytfcflpcmjlbedab", sum := "5eeb587cae570bcbedff8aaf4f8aa4a91a9e38e9d7e40e5b21e7396171a11ca9", func := "loop.example/g01329/laws.FnExactCoverOfColouring", spec := "fnExactCoverOfColouring", unfollowed := true, recurses := true, plainKeys := false, apart := false }
def FnExactCoverOfColouringSaid : Prop := fnExactCoverOfColouringRow.holds Try.pinned (OpenSpec.ofChange fnExactCoverOfColouringSpec)

/-- ITS FALSE NEIGHBOUR: 'it returns false'. Refute it at one input. -/
def fnExactCoverOfColouringWrong : ChangeSpec := { name := "fnExactCoverOfColouring", fn := fun _ => fun
  | [d1, d2] => { results := [.lit (.bool false)], args := [d1, d2] }
  | _ => none }
def FnExactCoverOfColouringWrongFalsely : Prop := fnExactCoverOfColouringRow.holds Try.pinned (OpenSpec.ofChange fnExactCoverOfColouringWrong)

/-- 'laws.FnExactCyclesOfSet': WHATEVER THE INPUT: true; the input reads as it did. -/
def fnExactCyclesOfSetSpec : ChangeSpec := { name := "fnExactCyclesOfSet", fn := fun _ => fun
  | [d1, d2] => { results := [.lit (.bool true)], args := [d1, d2] }
  | _ => none }
def fnExactCyclesOfSetRow : OpenClaim := { program := "ytfcflpcmjlbedab", sum := "5eeb587cae570bcbedff8aaf4f8aa4a91a9e38e9d7e40e5b21e7396171a11ca9", func := "loop.example/g01329/laws.FnExactCyclesOfSet", spec := "fnExactCyclesOfSet", unfollowed := true, recurses := true, plainKeys := false, apart := false }
def FnExactCyclesOfSetSaid : Prop := fnExactCyclesOfSetRow.holds Try.pinned (OpenSpec.ofChange fnExactCyclesOfSetSpec)

/-- ITS FALSE NEIGHBOUR: 'it returns false'. Refute it at one input. -/
def fnExactCyclesOfSetWrong : ChangeSpec := { name := "fnExactCyclesOfSet", fn := fun _ => fun
  | [d1, d2] => { results := [.lit (.bool false)], args := [d1, d2] }
  | _ => none }
def FnExactCyclesOfSetWrongFalsely : Prop := fnExactCyclesOfSetRow.holds Try.pinned (OpenSpec.ofChange fnExactCyclesOfSetWrong)

/-- 'laws.FnExactResistanceOf': WHATEVER THE INPUT: true; the input reads as it did. -/
def fnExactResistanceOfSpec : ChangeSpec := { name := "fnExactResistanceOf", fn := fun _ => fun
  | [d] => { results := [.lit (.bool true)], args := [d] }
  | _ => none }
def fnExactResistanceOfRow : OpenClaim := { program := "ytfcflpcmjlbedab", sum := "5eeb587cae570bcbedff8aaf4f8aa4a91a9e38e9d7e40e5b21e7396171a11ca9", func := "loop.example/g01329/laws.FnExactResistanceOf", spec := "fnExactResistanceOf", unfollowed := true, recurses := true, plainKeys := false, apart := false }
def FnExactResistanceOfSaid : Prop := fnExactResistanceOfRow.holds Try.pinned (OpenSpec.ofChange fnExactResistanceOfSpec)

/-- ITS FALSE NEIGHBOUR: 'it returns false'. Refute it at one input. -/
def fnExactResistanceOfWrong : ChangeSpec := { name := "fnExactResistanceOf", fn := fun _ => fun
  | [d] => { results := [.lit (.bool false)], args := [d] }
  | _ => none }
def FnExactResistanceOfWrongFalsely : Prop := fnExactResistanceOfRow.holds Try.pinned (OpenSpec.ofChange fnExactResistanceOfWrong)

/-- 'laws.FnExactIsDoubleCover': WHATEVER THE INPUT: true; the input reads as it did. -/
def fnExactIsDoubleCoverSpec : ChangeSpec := { name := "fnExactIsDoubleCover", fn := fun _ => fun
  | [d1, d2] => { results := [.lit (.bool true)], args := [d1, d2] }
  | _ => none }
def fnExactIsDoubleCoverRow : OpenClaim := { program := "ytfcflpcmjlbedab", sum := "5eeb587cae570bcbedff8aaf4f8aa4a91a9e38e9d7e40e5b21e7396171a11ca9", func := "loop.example/g01329/laws.FnExactIsDoubleCover", spec := "fnExactIsDoubleCover", unfollowed := true, recurses := true, plainKeys := false, apart := false }
def FnExactIsDoubleCoverSaid : Prop := fnExactIsDoubleCoverRow.holds Try.pinned (OpenSpec.ofChange fnExactIsDoubleCoverSpec)

/-- ITS FALSE NEIGHBOUR: 'it returns false'. Refute it at one input. -/
def fnExactIsDoubleCoverWrong : ChangeSpec := { name := "fnExactIsDoubleCover", fn := fun _ => fun
  | [d1, d2] => { results := [.lit (.bool false)], args := [d1, d2] }
  | _ => none }
def FnExactIsDoubleCoverWrongFalsely : Prop := fnExactIsDoubleCoverRow.holds Try.pinned (OpenSpec.ofChange fnExactIsDoubleCoverWrong)

/-- 'laws.FnExactWeakSet': WHATEVER THE INPUT: true; the input reads as it did. -/
def fnExactWeakSetSpec : ChangeSpec := { name := "fnExactWeakSet", fn := fun _ => fun
  | [d] => { results := [.lit (.bool true)], args := [d] }
  | _ => none }
def fnExactWeakSetRow : OpenClaim := { program := "ytfcflpcmjlbedab", sum := "5eeb587cae570bcbedff8aaf4f8aa4a91a9e38e9d7e40e5b21e7396171a11ca9", func := "loop.example/g01329/laws.FnExactWeakSet", spec := "fnExactWeakSet", unfollowed := true, recurses := true, plainKeys := false, apart := false }
def FnExactWeakSetSaid : Prop := fnExactWeakSetRow.holds Try.pinned (OpenSpec.ofChange fnExactWeakSetSpec)

/-- ITS FALSE NEIGHBOUR: 'it returns false'. Refute it at one input. -/
def fnExactWeakSetWrong : ChangeSpec := { name := "fnExactWeakSet", fn := fun _ => fun
  | [d] => { results := [.lit (.bool false)], args := [d] }
  | _ => none }
def FnExactWeakSetWrongFalsely : Prop := fnExactWeakSetRow.holds Try.pinned (OpenSpec.ofChange fnExactWeakSetWrong)

/-- 'laws.FnExactColouringOf': WHATEVER THE INPUT: true; the input reads as it did. -/
def fnExactColouringOfSpec : ChangeSpec := { name := "fnExactColouringOf", fn := fun _ => fun
  | [d1, d2] => { results := [.lit (.bool true)], args := [d1, d2] }
  | _ => none }
def fnExactColouringOfRow : OpenClaim := { program := "ytfcflpcmjlbedab", sum := "5eeb587cae570bcbedff8aaf4f8aa4a91a9e38e9d7e40e5b21e7396171a11ca9", func := "loop.example/g01329/laws.FnExactColouringOf", spec := "fnExactColouringOf", unfollowed := true, recurses := true, plainKeys := false, apart := false }
def FnExactColouringOfSaid : Prop := fnExactColouringOfRow.holds Try.pinned (OpenSpec.ofChange fnExactColouringOfSpec)

/-- ITS FALSE NEIGHBOUR: 'it returns false'. Refute it at one input. -/
def fnExactColouringOfWrong : ChangeSpec := { name := "fnExactColouringOf", fn := fun _ => fun
  | [d1, d2] => { results := [.lit (.bool false)], args := [d1, d2] }
  | _ => none }
def FnExactColouringOfWrongFalsely : Prop := fnExactColouringOfRow.holds Try.pinned (OpenSpec.ofChange fnExactColouringOfWrong)

/-- 'laws.FnExactBondsOfSize': WHATEVER THE INPUT: true; the input reads as it did. -/
def fnExactBondsOfSizeSpec : ChangeSpec := { name := "fnExactBondsOfSize", fn := fun _ => fun
  | [d1, d2] => { results := [.lit (.bool true)], args := [d1, d2] }
  | _ => none }
def fnExactBondsOfSizeRow : OpenClaim := { program := "ytfcflpcmjlbedab", sum := "5eeb587cae570bcbedff8aaf4f8aa4a91a9e38e9d7e40e5b21e7396171a11ca9", func := "loop.example/g01329/laws.FnExactBondsOfSize", spec := "fnExactBondsOfSize", unfollowed := true, recurses := true, plainKeys := false, apart := false }
def FnExactBondsOfSizeSaid : Prop := fnExactBondsOfSizeRow.holds Try.pinned (OpenSpec.ofChange fnExactBondsOfSizeSpec)

/-- ITS FALSE NEIGHBOUR: 'it returns false'. Refute it at one input. -/
def fnExactBondsOfSizeWrong : ChangeSpec := { name := "fnExactBondsOfSize", fn := fun _ => fun
  | [d1, d2] => { results := [.lit (.bool false)], args := [d1, d2] }
  | _ => none }
def FnExactBondsOfSizeWrongFalsely : Prop := fnExactBondsOfSizeRow.holds Try.pinned (OpenSpec.ofChange fnExactBondsOfSizeWrong)

/-- 'laws.FnExactIsOrientedBy': WHATEVER THE INPUT: true; the input reads as it did. -/
def fnExactIsOrientedBySpec : ChangeSpec := { name := "fnExactIsOrientedBy", fn := fun _ => fun
  | [d1, d2, d3] => { results := [.lit (.bool true)], args := [d1, d2, d3] }
  | _ => none }
def fnExactIsOrientedByRow : OpenClaim := { program := "ytfcflpcmjlbedab", sum := "5eeb587cae570bcbedff8aaf4f8aa4a91a9e38e9d7e40e5b21e7396171a11ca9", func := "loop.example/g01329/laws.FnExactIsOrientedBy", spec := "fnExactIsOrientedBy", unfollowed := true, recurses := true, plainKeys := false, apart := false }
def FnExactIsOrientedBySaid : Prop := fnExactIsOrientedByRow.holds Try.pinned (OpenSpec.ofChange fnExactIsOrientedBySpec)

/-- ITS FALSE NEIGHBOUR: 'it returns false'. Refute it at one input. -/
def fnExactIsOrientedByWrong : ChangeSpec := { name := "fnExactIsOrientedBy", fn := fun _ => fun
  | [d1, d2, d3] => { results := [.lit (.bool false)], args := [d1, d2, d3] }
  | _ => none }
def FnExactIsOrientedByWrongFalsely : Prop := fnExactIsOrientedByRow.holds Try.pinned (OpenSpec.ofChange fnExactIsOrientedByWrong)

/-- 'laws.FnExactNewDesk': WHATEVER THE INPUT: true; the input reads as it did. -/
def fnExactNewDeskSpec : ChangeSpec := { name := "fnExactNewDesk", fn := fun _ => fun
  | [] => { results := [.lit (.bool true)], args := [] }
  | _ => none }
def fnExactNewDeskRow : OpenClaim := { program := "ytfcflpcmjlbedab", sum := "5eeb587cae570bcbedff8aaf4f8aa4a91a9e38e9d7e40e5b21e7396171a11ca9", func := "loop.example/g01329/laws.FnExactNewDesk", spec := "fnExactNewDesk", unfollowed := true, recurses := true, plainKeys := false, apart := false }
def FnExactNewDeskSaid : Prop := fnExactNewDeskRow.holds Try.pinned (OpenSpec.ofChange fnExactNewDeskSpec)

/-- ITS FALSE NEIGHBOUR: 'it returns false'. Refute it at one input. -/
def fnExactNewDeskWrong : ChangeSpec := { name := "fnExactNewDesk", fn := fun _ => fun
  | [] => { results := [.lit (.bool false)], args := [] }
  | _ => none }
def FnExactNewDeskWrongFalsely : Prop := fnExactNewDeskRow.holds Try.pinned (OpenSpec.ofChange fnExactNewDeskWrong)

/- THE SECOND FORM. 'bulk': how many values and letters a reading holds, each counted each time it is reached (what is shared counts as often as it is met; a slice's spare places count too). A statement '..UptoSaid' is the law's where the arguments, and the package variables that the reading takes, are together of bulk at most 1048576: NARROWER than '..Said'. Prove '..Said' where nothing that the law and all that it calls make is longer than what came in: it says more and counts as full. Else prove '..UptoSaid'. A law counts once. -/
mutual
def uptoBulk {H : Type} : DataW H → Nat
  | .lit (.string bytes) => bytes.length + 1
  | .lit _ => 1
  | .nil => 1
  | .ptr d => uptoBulk d + 1
  | .slice elems spare => uptoBulkAll elems + uptoBulkAll spare + 1
  | .agg parts => uptoBulkAll parts + 1
  | .iface _ d => uptoBulk d + 1
  | .map entries => uptoBulkEntries entries + 1
  | .held _ => 1
def uptoBulkAll {H : Type} : List (DataW H) → Nat
  | [] => 0
  | d :: r => uptoBulk d + uptoBulkAll r
def uptoBulkEntries {H : Type} : List (Lit × DataW H) → Nat
  | [] => 0
  | x :: r => uptoBulkEntry x + uptoBulkEntries r
def uptoBulkEntry {H : Type} : Lit × DataW H → Nat
  | (.string bytes, d) => bytes.length + uptoBulk d + 1
  | (_, d) => uptoBulk d + 1
 end
def uptoSmall : (H : Type) → List (DataW H) → Bool := fun _ ds => decide (uptoBulkAll ds ≤ 1048576)
def OpenSpec.upto (s : _root_.Go.ChangeSpec) : _root_.Go.OpenSpec := { _root_.Go.OpenSpec.ofChange s with cond := some uptoSmall }

/-- 'laws.FnExactCoverOfColouring', WHERE WHAT IT READS IS OF BULK AT MOST 1048576: true; the input reads as it did. -/
def fnExactCoverOfColouringUptoRow : OpenClaim := { program := "ytfcflpcmjlbedab", sum := "5eeb587cae570bcbedff8aaf4f8aa4a91a9e38e9d7e40e5b21e7396171a11ca9", func := "loop.example/g01329/laws.FnExactCoverOfColouring", spec := "fnExactCoverOfColouring", unfollowed := true, recurses := true, plainKeys := false, apart := false, narrowed := true }
def FnExactCoverOfColouringUptoSaid : Prop := fnExactCoverOfColouringUptoRow.holds Try.pinned (OpenSpec.upto fnExactCoverOfColouringSpec)

/-- 'laws.FnExactCyclesOfSet', WHERE WHAT IT READS IS OF BULK AT MOST 1048576: true; the input reads as it did. -/
def fnExactCyclesOfSetUptoRow : OpenClaim := { program := "ytfcflpcmjlbedab", sum := "5eeb587cae570bcbedff8aaf4f8aa4a91a9e38e9d7e40e5b21e7396171a11ca9", func := "loop.example/g01329/laws.FnExactCyclesOfSet", spec := "fnExactCyclesOfSet", unfollowed := true, recurses := true, plainKeys := false, apart := false, narrowed := true }
def FnExactCyclesOfSetUptoSaid : Prop := fnExactCyclesOfSetUptoRow.holds Try.pinned (OpenSpec.upto fnExactCyclesOfSetSpec)

/-- 'laws.FnExactResistanceOf', WHERE WHAT IT READS IS OF BULK AT MOST 1048576: true; the input reads as it did. -/
def fnExactResistanceOfUptoRow : OpenClaim := { program := "ytfcflpcmjlbedab", sum := "5eeb587cae570bcbedff8aaf4f8aa4a91a9e38e9d7e40e5b21e7396171a11ca9", func := "loop.example/g01329/laws.FnExactResistanceOf", spec := "fnExactResistanceOf", unfollowed := true, recurses := true, plainKeys := false, apart := false, narrowed := true }
def FnExactResistanceOfUptoSaid : Prop := fnExactResistanceOfUptoRow.holds Try.pinned (OpenSpec.upto fnExactResistanceOfSpec)

/-- 'laws.FnExactIsDoubleCover', WHERE WHAT IT READS IS OF BULK AT MOST 1048576: true; the input reads as it did. -/
def fnExactIsDoubleCoverUptoRow : OpenClaim := { program := "ytfcflpcmjlbedab", sum := "5eeb587cae570bcbedff8aaf4f8aa4a91a9e38e9d7e40e5b21e7396171a11ca9", func := "loop.example/g01329/laws.FnExactIsDoubleCover", spec := "fnExactIsDoubleCover", unfollowed := true, recurses := true, plainKeys := false, apart := false, narrowed := true }
def FnExactIsDoubleCoverUptoSaid : Prop := fnExactIsDoubleCoverUptoRow.holds Try.pinned (OpenSpec.upto fnExactIsDoubleCoverSpec)

/-- 'laws.FnExactWeakSet', WHERE WHAT IT READS IS OF BULK AT MOST 1048576: true; the input reads as it did. -/
def fnExactWeakSetUptoRow : OpenClaim := { program := "ytfcflpcmjlbedab", sum := "5eeb587cae570bcbedff8aaf4f8aa4a91a9e38e9d7e40e5b21e7396171a11ca9", func := "loop.example/g01329/laws.FnExactWeakSet", spec := "fnExactWeakSet", unfollowed := true, recurses := true, plainKeys := false, apart := false, narrowed := true }
def FnExactWeakSetUptoSaid : Prop := fnExactWeakSetUptoRow.holds Try.pinned (OpenSpec.upto fnExactWeakSetSpec)

/-- 'laws.FnExactColouringOf', WHERE WHAT IT READS IS OF BULK AT MOST 1048576: true; the input reads as it did. -/
def fnExactColouringOfUptoRow : OpenClaim := { program := "ytfcflpcmjlbedab", sum := "5eeb587cae570bcbedff8aaf4f8aa4a91a9e38e9d7e40e5b21e7396171a11ca9", func := "loop.example/g01329/laws.FnExactColouringOf", spec := "fnExactColouringOf", unfollowed := true, recurses := true, plainKeys := false, apart := false, narrowed := true }
def FnExactColouringOfUptoSaid : Prop := fnExactColouringOfUptoRow.holds Try.pinned (OpenSpec.upto fnExactColouringOfSpec)

/-- 'laws.FnExactBondsOfSize', WHERE WHAT IT READS IS OF BULK AT MOST 1048576: true; the input reads as it did. -/
def fnExactBondsOfSizeUptoRow : OpenClaim := { program := "ytfcflpcmjlbedab", sum := "5eeb587cae570bcbedff8aaf4f8aa4a91a9e38e9d7e40e5b21e7396171a11ca9", func := "loop.example/g01329/laws.FnExactBondsOfSize", spec := "fnExactBondsOfSize", unfollowed := true, recurses := true, plainKeys := false, apart := false, narrowed := true }
def FnExactBondsOfSizeUptoSaid : Prop := fnExactBondsOfSizeUptoRow.holds Try.pinned (OpenSpec.upto fnExactBondsOfSizeSpec)

/-- 'laws.FnExactIsOrientedBy', WHERE WHAT IT READS IS OF BULK AT MOST 1048576: true; the input reads as it did. -/
def fnExactIsOrientedByUptoRow : OpenClaim := { program := "ytfcflpcmjlbedab", sum := "5eeb587cae570bcbedff8aaf4f8aa4a91a9e38e9d7e40e5b21e7396171a11ca9", func := "loop.example/g01329/laws.FnExactIsOrientedBy", spec := "fnExactIsOrientedBy", unfollowed := true, recurses := true, plainKeys := false, apart := false, narrowed := true }
def FnExactIsOrientedByUptoSaid : Prop := fnExactIsOrientedByUptoRow.holds Try.pinned (OpenSpec.upto fnExactIsOrientedBySpec)

/-- 'laws.FnExactNewDesk', WHERE WHAT IT READS IS OF BULK AT MOST 1048576: true; the input reads as it did. -/
def fnExactNewDeskUptoRow : OpenClaim := { program := "ytfcflpcmjlbedab", sum := "5eeb587cae570bcbedff8aaf4f8aa4a91a9e38e9d7e40e5b21e7396171a11ca9", func := "loop.example/g01329/laws.FnExactNewDesk", spec := "fnExactNewDesk", unfollowed := true, recurses := true, plainKeys := false, apart := false, narrowed := true }
def FnExactNewDeskUptoSaid : Prop := fnExactNewDeskUptoRow.holds Try.pinned (OpenSpec.upto fnExactNewDeskSpec)

end Rows
end Go.Proofs.Ytfcflpcmjlbedab
