/-
  No cell of these rows narrows 'for every input' (looked for: loops, veiled, ifaces, maps, wideKeys, modest, calm, conditions, laid).
  DERIVED. THE GIVEN ROWS OF THIS SEAT. 7 by the template 'for every input the law returns true; each argument reads behind the call as it read before'; 0 by the template 'total and deterministic' (their statements: YtfcflpcmjlbedaaTotals.lean).
  GIVEN WITH THE SEED: the statements are not yours to turn. If you find one false, say at which input.
  Laid BY PROGRAM, IN A SANDBOX (cutbox-rows.mjs): the forced cells as the released guide's own fill.sh prints them over the translation 86369e7477946897… (all of the seat's roots in one cut). By AI agents, Wed Nov 11 2026. No macro, syntax, notation, axiom, sorry.
-/
import Derived.Test.YtfcflpcmjlbedaaChecked
import GoSem.Claim
import GoSem.ClaimJoined
import GoSem.ClaimMapViews
import Derived.JoinedTies
import Derived.KernelRfl
namespace Go.Proofs.Ytfcflpcmjlbedaa
/- THE CELL 'sum', in the pinned program and in every row, IS THE sha256 OF THE DUMP (.gsa) THAT YtfcflpcmjlbedaaProg.lean LOADS. Nothing in Lean hashes anything: it is a label: what it is worth is what the hold of that sum in a sandbox is worth. -/
noncomputable def Try.pinned : Pinned := { name := "ytfcflpcmjlbedaa", sum := "86369e74779468975da1b91423cddb2e9de382f57911386cbc036154a2453b67", checked := Try.checked }
namespace Rows
def none {H : Type} : Left H := { results := [], args := [] }

/-- 'laws.FnExactSumOfSets': WHATEVER THE INPUT: true; the input reads as it did. -/
def fnExactSumOfSetsSpec : ChangeSpec := { name := "fnExactSumOfSets", fn := fun _ => fun
  | [d1, d2, d3] => { results := [.lit (.bool true)], args := [d1, d2, d3] }
  | _ => none }
def fnExactSumOfSetsRow : OpenClaim := { program := "ytfcflpcmjlbedaa", sum := "86369e74779468975da1b91423cddb2e9de382f57911386cbc036154a2453b67", func := "loop.example/g01329/laws.FnExactSumOfSets", spec := "fnExactSumOfSets", unfollowed := true, recurses := true, apart := false }
def FnExactSumOfSetsSaid : Prop := fnExactSumOfSetsRow.holds Try.pinned (OpenSpec.ofChange fnExactSumOfSetsSpec)

/-- ITS FALSE NEIGHBOUR: 'it returns false'. Refute it at one input. -/
def fnExactSumOfSetsWrong : ChangeSpec := { name := "fnExactSumOfSets", fn := fun _ => fun
  | [d1, d2, d3] => { results := [.lit (.bool false)], args := [d1, d2, d3] }
  | _ => none }
def FnExactSumOfSetsWrongFalsely : Prop := fnExactSumOfSetsRow.holds Try.pinned (OpenSpec.ofChange fnExactSumOfSetsWrong)

/-- 'laws.FnExactIsDesk': WHATEVER THE INPUT: true; the input reads as it did. -/
def fnExactIsDeskSpec : ChangeSpec := { name := "fnExactIsDesk", fn := fun _ => fun
  | [d] => { results := [.lit (.bool true)], args := [d] }
  | _ => none }
def fnExactIsDeskRow : OpenClaim := { program := "ytfcflpcmjlbedaa", sum := "86369e74779468975da1b91423cddb2e9de382f57911386cbc036154a2453b67", func := "loop.example/g01329/laws.FnExactIsDesk", spec := "fnExactIsDesk", unfollowed := true, recurses := true, apart := false }
def FnExactIsDeskSaid : Prop := fnExactIsDeskRow.holds Try.pinned (OpenSpec.ofChange fnExactIsDeskSpec)

/-- ITS FALSE NEIGHBOUR: 'it returns false'. Refute it at one input. -/
def fnExactIsDeskWrong : ChangeSpec := { name := "fnExactIsDesk", fn := fun _ => fun
  | [d] => { results := [.lit (.bool false)], args := [d] }
  | _ => none }
def FnExactIsDeskWrongFalsely : Prop := fnExactIsDeskRow.holds Try.pinned (OpenSpec.ofChange fnExactIsDeskWrong)

/-- 'laws.FnExactChainOf': WHATEVER THE INPUT: true; the input reads as it did. -/
def fnExactChainOfSpec : ChangeSpec := { name := "fnExactChainOf", fn := fun _ => fun
  | [d1, d2, d3, d4] => { results := [.lit (.bool true)], args := [d1, d2, d3, d4] }
  | _ => none }
def fnExactChainOfRow : OpenClaim := { program := "ytfcflpcmjlbedaa", sum := "86369e74779468975da1b91423cddb2e9de382f57911386cbc036154a2453b67", func := "loop.example/g01329/laws.FnExactChainOf", spec := "fnExactChainOf", unfollowed := true, recurses := true, apart := false }
def FnExactChainOfSaid : Prop := fnExactChainOfRow.holds Try.pinned (OpenSpec.ofChange fnExactChainOfSpec)

/-- ITS FALSE NEIGHBOUR: 'it returns false'. Refute it at one input. -/
def fnExactChainOfWrong : ChangeSpec := { name := "fnExactChainOf", fn := fun _ => fun
  | [d1, d2, d3, d4] => { results := [.lit (.bool false)], args := [d1, d2, d3, d4] }
  | _ => none }
def FnExactChainOfWrongFalsely : Prop := fnExactChainOfRow.holds Try.pinned (OpenSpec.ofChange fnExactChainOfWrong)

/-- 'laws.FnExactIsCycle': WHATEVER THE INPUT: true; the input reads as it did. -/
def fnExactIsCycleSpec : ChangeSpec := { name := "fnExactIsCycle", fn := fun _ => fun
  | [d1, d2] => { results := [.lit (.bool true)], args := [d1, d2] }
  | _ => none }
def fnExactIsCycleRow : OpenClaim := { program := "ytfcflpcmjlbedaa", sum := "86369e74779468975da1b91423cddb2e9de382f57911386cbc036154a2453b67", func := "loop.example/g01329/laws.FnExactIsCycle", spec := "fnExactIsCycle", unfollowed := true, recurses := true, apart := false }
def FnExactIsCycleSaid : Prop := fnExactIsCycleRow.holds Try.pinned (OpenSpec.ofChange fnExactIsCycleSpec)

/-- ITS FALSE NEIGHBOUR: 'it returns false'. Refute it at one input. -/
def fnExactIsCycleWrong : ChangeSpec := { name := "fnExactIsCycle", fn := fun _ => fun
  | [d1, d2] => { results := [.lit (.bool false)], args := [d1, d2] }
  | _ => none }
def FnExactIsCycleWrongFalsely : Prop := fnExactIsCycleRow.holds Try.pinned (OpenSpec.ofChange fnExactIsCycleWrong)

/-- 'laws.FnExactExchangeChain': WHATEVER THE INPUT: true; the input reads as it did. -/
def fnExactExchangeChainSpec : ChangeSpec := { name := "fnExactExchangeChain", fn := fun _ => fun
  | [d1, d2, d3, d4] => { results := [.lit (.bool true)], args := [d1, d2, d3, d4] }
  | _ => none }
def fnExactExchangeChainRow : OpenClaim := { program := "ytfcflpcmjlbedaa", sum := "86369e74779468975da1b91423cddb2e9de382f57911386cbc036154a2453b67", func := "loop.example/g01329/laws.FnExactExchangeChain", spec := "fnExactExchangeChain", unfollowed := true, recurses := true, apart := false }
def FnExactExchangeChainSaid : Prop := fnExactExchangeChainRow.holds Try.pinned (OpenSpec.ofChange fnExactExchangeChainSpec)

/-- ITS FALSE NEIGHBOUR: 'it returns false'. Refute it at one input. -/
def fnExactExchangeChainWrong : ChangeSpec := { name := "fnExactExchangeChain", fn := fun _ => fun
  | [d1, d2, d3, d4] => { results := [.lit (.bool false)], args := [d1, d2, d3, d4] }
  | _ => none }
def FnExactExchangeChainWrongFalsely : Prop := fnExactExchangeChainRow.holds Try.pinned (OpenSpec.ofChange fnExactExchangeChainWrong)

/-- 'laws.FnExactCountReached': WHATEVER THE INPUT: true; the input reads as it did. -/
def fnExactCountReachedSpec : ChangeSpec := { name := "fnExactCountReached", fn := fun _ => fun
  | [d1, d2] => { results := [.lit (.bool true)], args := [d1, d2] }
  | _ => none }
def fnExactCountReachedRow : OpenClaim := { program := "ytfcflpcmjlbedaa", sum := "86369e74779468975da1b91423cddb2e9de382f57911386cbc036154a2453b67", func := "loop.example/g01329/laws.FnExactCountReached", spec := "fnExactCountReached", unfollowed := true, recurses := true, apart := false }
def FnExactCountReachedSaid : Prop := fnExactCountReachedRow.holds Try.pinned (OpenSpec.ofChange fnExactCountReachedSpec)

/-- ITS FALSE NEIGHBOUR: 'it returns false'. Refute it at one input. -/
def fnExactCountReachedWrong : ChangeSpec := { name := "fnExactCountReached", fn := fun _ => fun
  | [d1, d2] => { results := [.lit (.bool false)], args := [d1, d2] }
  | _ => none }
def FnExactCountReachedWrongFalsely : Prop := fnExactCountReachedRow.holds Try.pinned (OpenSpec.ofChange fnExactCountReachedWrong)

/-- 'laws.FnExactIsBond': WHATEVER THE INPUT: true; the input reads as it did. -/
def fnExactIsBondSpec : ChangeSpec := { name := "fnExactIsBond", fn := fun _ => fun
  | [d1, d2] => { results := [.lit (.bool true)], args := [d1, d2] }
  | _ => none }
def fnExactIsBondRow : OpenClaim := { program := "ytfcflpcmjlbedaa", sum := "86369e74779468975da1b91423cddb2e9de382f57911386cbc036154a2453b67", func := "loop.example/g01329/laws.FnExactIsBond", spec := "fnExactIsBond", unfollowed := true, recurses := true, apart := false }
def FnExactIsBondSaid : Prop := fnExactIsBondRow.holds Try.pinned (OpenSpec.ofChange fnExactIsBondSpec)

/-- ITS FALSE NEIGHBOUR: 'it returns false'. Refute it at one input. -/
def fnExactIsBondWrong : ChangeSpec := { name := "fnExactIsBond", fn := fun _ => fun
  | [d1, d2] => { results := [.lit (.bool false)], args := [d1, d2] }
  | _ => none }
def FnExactIsBondWrongFalsely : Prop := fnExactIsBondRow.holds Try.pinned (OpenSpec.ofChange fnExactIsBondWrong)

/- THE SECOND FORM. 'bulk': how many values and letters a reading holds, each counted each time it is reached (what is shared counts as often as it is met; a slice's spare places count too). A statement '..UptoSaid' is the law's where the arguments, and the package variables that the reading takes, are together of bulk at most 1048576: NARROWER than '..Said'. Prove '..Said' where nothing that the law and all that it calls make is longer than what came in: it says more and counts as full. Else prove '..UptoSaid'. A law counts once. -/
mutual
def uptoBulk {H : Type} : DataW H → Nat
  | .lit (.string bytes) => bytes.length + 1
  | .lit _ => 1
  | .nil => 1
  | .ptr d => uptoBulk d + 1
  | .slice elems spare => uptoBulkAll elems + uptoBulkAll spare + 1
  | .agg parts => uptoBulkAll parts + 1
  | .iface _ d => uptoBulk d + 1
  | .map entries => uptoBulkEntries entries + 1
  | .held _ => 1
def uptoBulkAll {H : Type} : List (DataW H) → Nat
  | [] => 0
  | d :: r => uptoBulk d + uptoBulkAll r
def uptoBulkEntries {H : Type} : List (Lit × DataW H) → Nat
  | [] => 0
  | x :: r => uptoBulkEntry x + uptoBulkEntries r
def uptoBulkEntry {H : Type} : Lit × DataW H → Nat
  | (.string bytes, d) => bytes.length + uptoBulk d + 1
  | (_, d) => uptoBulk d + 1
 end
def uptoSmall : (H : Type) → List (DataW H) → Bool := fun _ ds => decide (uptoBulkAll ds ≤ 1048576)
def OpenSpec.upto (s : _root_.Go.ChangeSpec) : _root_.Go.OpenSpec := { _root_.Go.OpenSpec.ofChange s with cond := some uptoSmall }

/-- 'laws.FnExactSumOfSets', WHERE WHAT IT READS IS OF BULK AT MOST 1048576: true; the input reads as it did. -/
def fnExactSumOfSetsUptoRow : OpenClaim := { program := "ytfcflpcmjlbedaa", sum := "86369e74779468975da1b91423cddb2e9de382f57911386cbc036154a2453b67", func := "loop.example/g01329/laws.FnExactSumOfSets", spec := "fnExactSumOfSets", unfollowed := true, recurses := true, apart := false, narrowed := true }
def FnExactSumOfSetsUptoSaid : Prop := fnExactSumOfSetsUptoRow.holds Try.pinned (OpenSpec.upto fnExactSumOfSetsSpec)

/-- 'laws.FnExactIsDesk', WHERE WHAT IT READS IS OF BULK AT MOST 1048576: true; the input reads as it did. -/
def fnExactIsDeskUptoRow : OpenClaim := { program := "ytfcflpcmjlbedaa", sum := "86369e74779468975da1b91423cddb2e9de382f57911386cbc036154a2453b67", func := "loop.example/g01329/laws.FnExactIsDesk", spec := "fnExactIsDesk", unfollowed := true, recurses := true, apart := false, narrowed := true }
def FnExactIsDeskUptoSaid : Prop := fnExactIsDeskUptoRow.holds Try.pinned (OpenSpec.upto fnExactIsDeskSpec)

/-- 'laws.FnExactChainOf', WHERE WHAT IT READS IS OF BULK AT MOST 1048576: true; the input reads as it did. -/
def fnExactChainOfUptoRow : OpenClaim := { program := "ytfcflpcmjlbedaa", sum := "86369e74779468975da1b91423cddb2e9de382f57911386cbc036154a2453b67", func := "loop.example/g01329/laws.FnExactChainOf", spec := "fnExactChainOf", unfollowed := true, recurses := true, apart := false, narrowed := true }
def FnExactChainOfUptoSaid : Prop := fnExactChainOfUptoRow.holds Try.pinned (OpenSpec.upto fnExactChainOfSpec)

/-- 'laws.FnExactIsCycle', WHERE WHAT IT READS IS OF BULK AT MOST 1048576: true; the input reads as it did. -/
def fnExactIsCycleUptoRow : OpenClaim := { program := "ytfcflpcmjlbedaa", sum := "86369e74779468975da1b91423cddb2e9de382f57911386cbc036154a2453b67", func := "loop.example/g01329/laws.FnExactIsCycle", spec := "fnExactIsCycle", unfollowed := true, recurses := true, apart := false, narrowed := true }
def FnExactIsCycleUptoSaid : Prop := fnExactIsCycleUptoRow.holds Try.pinned (OpenSpec.upto fnExactIsCycleSpec)

/-- 'laws.FnExactExchangeChain', WHERE WHAT IT READS IS OF BULK AT MOST 1048576: true; the input reads as it did. -/
def fnExactExchangeChainUptoRow : OpenClaim := { program := "ytfcflpcmjlbedaa", sum := "86369e74779468975da1b91423cddb2e9de382f57911386cbc036154a2453b67", func := "loop.example/g01329/laws.FnExactExchangeChain", spec := "fnExactExchangeChain", unfollowed := true, recurses := true, apart := false, narrowed := true }
def FnExactExchangeChainUptoSaid : Prop := fnExactExchangeChainUptoRow.holds Try.pinned (OpenSpec.upto fnExactExchangeChainSpec)

/-- 'laws.FnExactCountReached', WHERE WHAT IT READS IS OF BULK AT MOST 1048576: true; the input reads as it did. -/
def fnExactCountReachedUptoRow : OpenClaim := { program := "ytfcflpcmjlbedaa", sum := "86369e74779468975da1b91423cddb2e9de382f57911386cbc036154a2453b67", func := "loop.example/g01329/laws.FnExactCountReached", spec := "fnExactCountReached", unfollowed := true, recurses := true, apart := false, narrowed := true }
def FnExactCountReachedUptoSaid : Prop := fnExactCountReachedUptoRow.holds Try.pinned (OpenSpec.upto fnExactCountReachedSpec)

/-- 'laws.FnExactIsBond', WHERE WHAT IT READS IS OF BULK AT MOST 1048576: true; the input reads as it did. -/
def fnExactIsBondUptoRow : OpenClaim := { program := "ytfcflpcmjlbedaa", sum := "86369e74779468975da1b91423cddb2e9de382f57911386cbc036154a2453b67", func := "loop.example/g01329/laws.FnExactIsBond", spec := "fnExactIsBond", unfollowed := true, recurses := true, apart := false, narrowed := true }
def FnExactIsBondUptoSaid : Prop := fnExactIsBondUptoRow.holds Try.pinned (OpenSpec.upto fnExactIsBondSpec)

end Rows
end Go.Proofs.Ytfcflpcmjlbedaa
