/-
  DERIVED. GIVEN WITH THE SEED: THE CARDS: each row of YtngacbdogjmpaaaGreatDoorRows.lean that lists a variable, with what it lists TIED to the program's text (the seventh form; the later family's looks); each row that meets fmt, with fmt's text TOLD by the authors' own Lean function (tested against real Go, not proved from fmt's source: count such statements apart). THE CARD IS WHAT COUNTS. Prove the row's statement (the work); the ties are given (YtngacbdogjmpaaaGreatDoorTie.lean); close each card by the builder's one call (the guide's Derived/Test/ToyasCard.lean, 'card_holds'). Laid BY PROGRAM, IN A SANDBOX (cutbox-door.mjs). By AI agents, Wed Nov 11 2026. No macro, syntax, notation, axiom, sorry.
-/
import Derived.Test.YtngacbdogjmpaaaGreatDoorRows
import GoSem.ClaimSeven
namespace Go.Proofs.YtngacbdogjmpaaaGreatDoor
namespace Rows

/-- THE TIED CARD OF 'laws.FnTop'. -/
def fnTopCard : Claim7 := { stood := { row := fnTopRow, standIns := [], harness := (true, "ea39f05ce87c4720847221a828bdf061ff6110435856b440f932e7479f544840"), looks := false }, kinds := [], alts := [], laidByText := true, laidKinds := [.data], laidTests := true, laidLooks := .later }
def FnTopCardSaid : Prop := Claim7.holds Tryz.pinned (.plain (OpenSpec.ofChange fnTopSpec)) fnTopCard

/-- THE TIED CARD OF 'laws.FnDefects'. -/
def fnDefectsCard : Claim7 := { stood := { row := fnDefectsRow, standIns := [], harness := (true, "ea39f05ce87c4720847221a828bdf061ff6110435856b440f932e7479f544840"), looks := false }, kinds := [], alts := [], laidByText := true, laidKinds := [.data], laidTests := true, laidLooks := .later }
def FnDefectsCardSaid : Prop := Claim7.holds Tryz.pinned (.plain (OpenSpec.ofChange fnDefectsSpec)) fnDefectsCard

/-- THE TIED CARD OF 'laws.FnMatchings'. -/
def fnMatchingsCard : Claim7 := { stood := { row := fnMatchingsRow, standIns := [], harness := (true, "ea39f05ce87c4720847221a828bdf061ff6110435856b440f932e7479f544840"), looks := false }, kinds := [], alts := [], laidByText := true, laidKinds := [.data], laidTests := true, laidLooks := .later }
def FnMatchingsCardSaid : Prop := Claim7.holds Tryz.pinned (.plain (OpenSpec.ofChange fnMatchingsSpec)) fnMatchingsCard

/-- THE TIED CARD OF 'laws.FnPromiseOfAll'. -/
def fnPromiseOfAllCard : Claim7 := { stood := { row := fnPromiseOfAllRow, standIns := [], harness := (true, "ea39f05ce87c4720847221a828bdf061ff6110435856b440f932e7479f544840"), looks := false }, kinds := [], alts := [], laidByText := true, laidKinds := [.data], laidTests := true, laidLooks := .later }
def FnPromiseOfAllCardSaid : Prop := Claim7.holds Tryz.pinned (.plain (OpenSpec.ofChange fnPromiseOfAllSpec)) fnPromiseOfAllCard

/-- THE SECOND FORM's CARD OF 'laws.FnTop'. -/
def fnTopUptoCard : Claim7 := { stood := { row := fnTopUptoRow, standIns := [], harness := (true, "ea39f05ce87c4720847221a828bdf061ff6110435856b440f932e7479f544840"), looks := false }, kinds := [], alts := [], laidByText := true, laidKinds := [.data], laidTests := true, laidLooks := .later }
def FnTopUptoCardSaid : Prop := Claim7.holds Tryz.pinned (.plain (OpenSpec.upto fnTopSpec)) fnTopUptoCard

/-- THE SECOND FORM's CARD OF 'laws.FnDefects'. -/
def fnDefectsUptoCard : Claim7 := { stood := { row := fnDefectsUptoRow, standIns := [], harness := (true, "ea39f05ce87c4720847221a828bdf061ff6110435856b440f932e7479f544840"), looks := false }, kinds := [], alts := [], laidByText := true, laidKinds := [.data], laidTests := true, laidLooks := .later }
def FnDefectsUptoCardSaid : Prop := Claim7.holds Tryz.pinned (.plain (OpenSpec.upto fnDefectsSpec)) fnDefectsUptoCard

/-- THE SECOND FORM's CARD OF 'laws.FnMatchings'. -/
def fnMatchingsUptoCard : Claim7 := { stood := { row := fnMatchingsUptoRow, standIns := [], harness := (true, "ea39f05ce87c4720847221a828bdf061ff6110435856b440f932e7479f544840"), looks := false }, kinds := [], alts := [], laidByText := true, laidKinds := [.data], laidTests := true, laidLooks := .later }
def FnMatchingsUptoCardSaid : Prop := Claim7.holds Tryz.pinned (.plain (OpenSpec.upto fnMatchingsSpec)) fnMatchingsUptoCard

/-- THE SECOND FORM's CARD OF 'laws.FnPromiseOfAll'. -/
def fnPromiseOfAllUptoCard : Claim7 := { stood := { row := fnPromiseOfAllUptoRow, standIns := [], harness := (true, "ea39f05ce87c4720847221a828bdf061ff6110435856b440f932e7479f544840"), looks := false }, kinds := [], alts := [], laidByText := true, laidKinds := [.data], laidTests := true, laidLooks := .later }
def FnPromiseOfAllUptoCardSaid : Prop := Claim7.holds Tryz.pinned (.plain (OpenSpec.upto fnPromiseOfAllSpec)) fnPromiseOfAllUptoCard
end Rows
end Go.Proofs.YtngacbdogjmpaaaGreatDoor
