/-
  No cell of these rows narrows 'for every input' (looked for: loops, veiled, ifaces, maps, wideKeys, modest, calm, conditions, laid).
  DERIVED. THE GIVEN ROWS OF THIS SEAT. 4 by the template 'for every input the law returns true; each argument reads behind the call as it read before'; 0 by the template 'total and deterministic' (their statements: YtkmjiikgkhhciaaGreatTotals.lean).
  GIVEN WITH THE SEED: the statements are not yours to turn. If you find one false, say at which input.
  Laid BY PROGRAM, IN A SANDBOX (cutbox-rows.mjs): the forced cells as the released guide's own fill.sh prints them over the translation 311beef7d1116138… (all of the seat's roots in one cut). By AI agents, Wed Nov 11 2026. No macro, syntax, notation, axiom, sorry.
-/
import Derived.Test.YtkmjiikgkhhciaaGreatChecked
import GoSem.Claim
import GoSem.ClaimJoined
import GoSem.ClaimMapViews
import Derived.JoinedTies
import Derived.KernelRfl
namespace Go.Proofs.YtkmjiikgkhhciaaGreat
/- THE CELL 'sum', in the pinned program and in every row, IS THE sha256 OF THE DUMP (.gsa) THAT YtkmjiikgkhhciaaGreatProg.lean LOADS. Nothing in Lean hashes anything: it is a label: what it is worth is what the hold of that sum in a sandbox is worth. -/
noncomputable def Tryz.pinned : Pinned := { name := "ytkmjiikgkhhciaagreat", sum := "311beef7d111613850a3307e5700887a62698e042c0819a4c436e519a047130b", checked := Tryz.checked }
namespace Rows
def none {H : Type} : Left H := { results := [], args := [] }

/-- 'laws.FnBonds': WHATEVER THE INPUT: true; the input reads as it did. -/
def fnBondsSpec : ChangeSpec := { name := "fnBonds", fn := fun _ => fun
  | [d] => { results := [.lit (.bool true)], args := [d] }
  | _ => none }
def fnBondsRow : OpenClaim := { program := "ytkmjiikgkhhciaagreat", sum := "311beef7d111613850a3307e5700887a62698e042c0819a4c436e519a047130b", func := "loop.example/g01329/laws.FnBonds", spec := "fnBonds", unfollowed := true, recurses := true, apart := false }
def FnBondsSaid : Prop := fnBondsRow.holds Tryz.pinned (OpenSpec.ofChange fnBondsSpec)

/-- ITS FALSE NEIGHBOUR: 'it returns false'. Refute it at one input. -/
def fnBondsWrong : ChangeSpec := { name := "fnBonds", fn := fun _ => fun
  | [d] => { results := [.lit (.bool false)], args := [d] }
  | _ => none }
def FnBondsWrongFalsely : Prop := fnBondsRow.holds Tryz.pinned (OpenSpec.ofChange fnBondsWrong)

/-- 'laws.FnCuts': WHATEVER THE INPUT: true; the input reads as it did. -/
def fnCutsSpec : ChangeSpec := { name := "fnCuts", fn := fun _ => fun
  | [d] => { results := [.lit (.bool true)], args := [d] }
  | _ => none }
def fnCutsRow : OpenClaim := { program := "ytkmjiikgkhhciaagreat", sum := "311beef7d111613850a3307e5700887a62698e042c0819a4c436e519a047130b", func := "loop.example/g01329/laws.FnCuts", spec := "fnCuts", unfollowed := true, recurses := true, apart := false }
def FnCutsSaid : Prop := fnCutsRow.holds Tryz.pinned (OpenSpec.ofChange fnCutsSpec)

/-- ITS FALSE NEIGHBOUR: 'it returns false'. Refute it at one input. -/
def fnCutsWrong : ChangeSpec := { name := "fnCuts", fn := fun _ => fun
  | [d] => { results := [.lit (.bool false)], args := [d] }
  | _ => none }
def FnCutsWrongFalsely : Prop := fnCutsRow.holds Tryz.pinned (OpenSpec.ofChange fnCutsWrong)

/-- 'laws.FnExactAllCycles': WHATEVER THE INPUT: true; the input reads as it did. -/
def fnExactAllCyclesSpec : ChangeSpec := { name := "fnExactAllCycles", fn := fun _ => fun
  | [d] => { results := [.lit (.bool true)], args := [d] }
  | _ => none }
def fnExactAllCyclesRow : OpenClaim := { program := "ytkmjiikgkhhciaagreat", sum := "311beef7d111613850a3307e5700887a62698e042c0819a4c436e519a047130b", func := "loop.example/g01329/laws.FnExactAllCycles", spec := "fnExactAllCycles", unfollowed := true, recurses := true, apart := false }
def FnExactAllCyclesSaid : Prop := fnExactAllCyclesRow.holds Tryz.pinned (OpenSpec.ofChange fnExactAllCyclesSpec)

/-- ITS FALSE NEIGHBOUR: 'it returns false'. Refute it at one input. -/
def fnExactAllCyclesWrong : ChangeSpec := { name := "fnExactAllCycles", fn := fun _ => fun
  | [d] => { results := [.lit (.bool false)], args := [d] }
  | _ => none }
def FnExactAllCyclesWrongFalsely : Prop := fnExactAllCyclesRow.holds Tryz.pinned (OpenSpec.ofChange fnExactAllCyclesWrong)

/-- 'laws.FnChains': WHATEVER THE INPUT: true; the input reads as it did. -/
def fnChainsSpec : ChangeSpec := { name := "fnChains", fn := fun _ => fun
  | [d] => { results := [.lit (.bool true)], args := [d] }
  | _ => none }
def fnChainsRow : OpenClaim := { program := "ytkmjiikgkhhciaagreat", sum := "311beef7d111613850a3307e5700887a62698e042c0819a4c436e519a047130b", func := "loop.example/g01329/laws.FnChains", spec := "fnChains", unfollowed := true, recurses := true, apart := false }
def FnChainsSaid : Prop := fnChainsRow.holds Tryz.pinned (OpenSpec.ofChange fnChainsSpec)

/-- ITS FALSE NEIGHBOUR: 'it returns false'. Refute it at one input. -/
def fnChainsWrong : ChangeSpec := { name := "fnChains", fn := fun _ => fun
  | [d] => { results := [.lit (.bool false)], args := [d] }
  | _ => none }
def FnChainsWrongFalsely : Prop := fnChainsRow.holds Tryz.pinned (OpenSpec.ofChange fnChainsWrong)

/- THE SECOND FORM. 'bulk': how many values and letters a reading holds, each counted each time it is reached (what is shared counts as often as it is met; a slice's spare places count too). A statement '..UptoSaid' is the law's where the arguments, and the package variables that the reading takes, are together of bulk at most 1048576: NARROWER than '..Said'. Prove '..Said' where nothing that the law and all that it calls make is longer than what came in: it says more and counts as full. Else prove '..UptoSaid'. A law counts once. -/
mutual
def uptoBulk {H : Type} : DataW H → Nat
  | .lit (.string bytes) => bytes.length + 1
  | .lit _ => 1
  | .nil => 1
  | .ptr d => uptoBulk d + 1
  | .slice elems spare => uptoBulkAll elems + uptoBulkAll spare + 1
  | .agg parts => uptoBulkAll parts + 1
  | .iface _ d => uptoBulk d + 1
  | .map entries => uptoBulkEntries entries + 1
  | .held _ => 1
def uptoBulkAll {H : Type} : List (DataW H) → Nat
  | [] => 0
  | d :: r => uptoBulk d + uptoBulkAll r
def uptoBulkEntries {H : Type} : List (Lit × DataW H) → Nat
  | [] => 0
  | x :: r => uptoBulkEntry x + uptoBulkEntries r
def uptoBulkEntry {H : Type} : Lit × DataW H → Nat
  | (.string bytes, d) => bytes.length + uptoBulk d + 1
  | (_, d) => uptoBulk d + 1
 end
def uptoSmall : (H : Type) → List (DataW H) → Bool := fun _ ds => decide (uptoBulkAll ds ≤ 1048576)
def OpenSpec.upto (s : _root_.Go.ChangeSpec) : _root_.Go.OpenSpec := { _root_.Go.OpenSpec.ofChange s with cond := some uptoSmall }

/-- 'laws.FnBonds', WHERE WHAT IT READS IS OF BULK AT MOST 1048576: true; the input reads as it did. -/
def fnBondsUptoRow : OpenClaim := { program := "ytkmjiikgkhhciaagreat", sum := "311beef7d111613850a3307e5700887a62698e042c0819a4c436e519a047130b", func := "loop.example/g01329/laws.FnBonds", spec := "fnBonds", unfollowed := true, recurses := true, apart := false, narrowed := true }
def FnBondsUptoSaid : Prop := fnBondsUptoRow.holds Tryz.pinned (OpenSpec.upto fnBondsSpec)

/-- 'laws.FnCuts', WHERE WHAT IT READS IS OF BULK AT MOST 1048576: true; the input reads as it did. -/
def fnCutsUptoRow : OpenClaim := { program := "ytkmjiikgkhhciaagreat", sum := "311beef7d111613850a3307e5700887a62698e042c0819a4c436e519a047130b", func := "loop.example/g01329/laws.FnCuts", spec := "fnCuts", unfollowed := true, recurses := true, apart := false, narrowed := true }
def FnCutsUptoSaid : Prop := fnCutsUptoRow.holds Tryz.pinned (OpenSpec.upto fnCutsSpec)

/-- 'laws.FnExactAllCycles', WHERE WHAT IT READS IS OF BULK AT MOST 1048576: true; the input reads as it did. -/
def fnExactAllCyclesUptoRow : OpenClaim := { program := "ytkmjiikgkhhciaagreat", sum := "311beef7d111613850a3307e5700887a62698e042c0819a4c436e519a047130b", func := "loop.example/g01329/laws.FnExactAllCycles", spec := "fnExactAllCycles", unfollowed := true, recurses := true, apart := false, narrowed := true }
def FnExactAllCyclesUptoSaid : Prop := fnExactAllCyclesUptoRow.holds Tryz.pinned (OpenSpec.upto fnExactAllCyclesSpec)

/-- 'laws.FnChains', WHERE WHAT IT READS IS OF BULK AT MOST 1048576: true; the input reads as it did. -/
def fnChainsUptoRow : OpenClaim := { program := "ytkmjiikgkhhciaagreat", sum := "311beef7d111613850a3307e5700887a62698e042c0819a4c436e519a047130b", func := "loop.example/g01329/laws.FnChains", spec := "fnChains", unfollowed := true, recurses := true, apart := false, narrowed := true }
def FnChainsUptoSaid : Prop := fnChainsUptoRow.holds Tryz.pinned (OpenSpec.upto fnChainsSpec)

end Rows
end Go.Proofs.YtkmjiikgkhhciaaGreat
