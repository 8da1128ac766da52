/-
  DERIVED. GIVEN WITH THE SEED: THE CARDS: each row of YtjljbokjpcfblaaGreatDoorRows.lean that lists a variable, with what it lists TIED to the program's text (the seventh form; the later family's looks); each row that meets fmt, with fmt's text TOLD by the authors' own Lean function (tested against real Go, not proved from fmt's source: count such statements apart). THE CARD IS WHAT COUNTS. Prove the row's statement (the work); the ties are given (YtjljbokjpcfblaaGreatDoorTie.lean); close each card by the builder's one call (the guide's Derived/Test/ToyasCard.lean, 'card_holds'). Laid BY PROGRAM, IN A SANDBOX (cutbox-door.mjs). By AI agents, Wed Nov 11 2026. No macro, syntax, notation, axiom, sorry.
-/
import Derived.Test.YtjljbokjpcfblaaGreatDoorRows
import GoSem.ClaimSeven
namespace Go.Proofs.YtjljbokjpcfblaaGreatDoor
namespace Rows

/-- THE TIED CARD OF 'laws.FnOddness'. -/
def fnOddnessCard : Claim7 := { stood := { row := fnOddnessRow, standIns := [], harness := (true, "4ba80941be81c9cb22a0c11c752ae8dfa9545fb36c1be85bd88e1dae9a9d013f"), looks := false }, kinds := [], alts := [], laidByText := true, laidKinds := [.data], laidTests := true, laidLooks := .later }
def FnOddnessCardSaid : Prop := Claim7.holds Tryz.pinned (.plain (OpenSpec.ofChange fnOddnessSpec)) fnOddnessCard

/-- THE SECOND FORM's CARD OF 'laws.FnOddness'. -/
def fnOddnessUptoCard : Claim7 := { stood := { row := fnOddnessUptoRow, standIns := [], harness := (true, "4ba80941be81c9cb22a0c11c752ae8dfa9545fb36c1be85bd88e1dae9a9d013f"), looks := false }, kinds := [], alts := [], laidByText := true, laidKinds := [.data], laidTests := true, laidLooks := .later }
def FnOddnessUptoCardSaid : Prop := Claim7.holds Tryz.pinned (.plain (OpenSpec.upto fnOddnessSpec)) fnOddnessUptoCard
end Rows
end Go.Proofs.YtjljbokjpcfblaaGreatDoor
