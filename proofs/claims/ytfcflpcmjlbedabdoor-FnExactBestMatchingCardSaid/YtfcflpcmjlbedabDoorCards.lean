/-
  DERIVED. GIVEN WITH THE SEED: THE CARDS: each row of YtfcflpcmjlbedabDoorRows.lean that lists a variable, with what it lists TIED to the program's text (the seventh form; the later family's looks); each row that meets fmt, with fmt's text TOLD by the authors' own Lean function (tested against real Go, not proved from fmt's source: count such statements apart). THE CARD IS WHAT COUNTS. Prove the row's statement (the work); the ties are given (YtfcflpcmjlbedabDoorTie.lean); close each card by the builder's one call (the guide's Derived/Test/ToyasCard.lean, 'card_holds'). Laid BY PROGRAM, IN A SANDBOX (cutbox-door.mjs). By AI agents, Wed Nov 11 2026. No macro, syntax, notation, axiom, sorry.
-/
import Derived.Test.YtfcflpcmjlbedabDoorRows
import GoSem.ClaimSeven
namespace Go.Proofs.YtfcflpcmjlbedabDoor
namespace Rows

/-- THE TIED CARD OF 'laws.FnExactBestMatching'. -/
def fnExactBestMatchingCard : Claim7 := { stood := { row := fnExactBestMatchingRow, standIns := [], harness := (true, "1c93dcfd95d94f65815feacd42052868f270468e81c4d3069b879df44f3c85e8"), looks := false }, kinds := [], alts := [], laidByText := true, laidKinds := [.data], laidTests := true, laidLooks := .later }
def FnExactBestMatchingCardSaid : Prop := Claim7.holds Tryd.pinned (.plain (OpenSpec.ofChange fnExactBestMatchingSpec)) fnExactBestMatchingCard

/-- THE SECOND FORM's CARD OF 'laws.FnExactBestMatching'. -/
def fnExactBestMatchingUptoCard : Claim7 := { stood := { row := fnExactBestMatchingUptoRow, standIns := [], harness := (true, "1c93dcfd95d94f65815feacd42052868f270468e81c4d3069b879df44f3c85e8"), looks := false }, kinds := [], alts := [], laidByText := true, laidKinds := [.data], laidTests := true, laidLooks := .later }
def FnExactBestMatchingUptoCardSaid : Prop := Claim7.holds Tryd.pinned (.plain (OpenSpec.upto fnExactBestMatchingSpec)) fnExactBestMatchingUptoCard
end Rows
end Go.Proofs.YtfcflpcmjlbedabDoor
