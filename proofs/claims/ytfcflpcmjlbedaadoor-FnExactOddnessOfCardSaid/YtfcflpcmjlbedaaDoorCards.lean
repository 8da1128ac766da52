/-
  DERIVED. GIVEN WITH THE SEED: THE CARDS: each row of YtfcflpcmjlbedaaDoorRows.lean that lists a variable, with what it lists TIED to the program's text (the seventh form; the later family's looks); each row that meets fmt, with fmt's text TOLD by the authors' own Lean function (tested against real Go, not proved from fmt's source: count such statements apart). THE CARD IS WHAT COUNTS. Prove the row's statement (the work); the ties are given (YtfcflpcmjlbedaaDoorTie.lean); close each card by the builder's one call (the guide's Derived/Test/ToyasCard.lean, 'card_holds'). Laid BY PROGRAM, IN A SANDBOX (cutbox-door.mjs). By AI agents, Wed Nov 11 2026. No macro, syntax, notation, axiom, sorry.
-/
import Derived.Test.YtfcflpcmjlbedaaDoorRows
import GoSem.ClaimSeven
namespace Go.Proofs.YtfcflpcmjlbedaaDoor
namespace Rows

/-- THE TIED CARD OF 'laws.FnExactFreeEdges'. -/
def fnExactFreeEdgesCard : Claim7 := { stood := { row := fnExactFreeEdgesRow, standIns := [], harness := (true, "3c670cce517cf2a5d95dfb5f58d9f702f5c93be87065333581afcc5c342ca023"), looks := false }, kinds := [], alts := [], laidByText := true, laidKinds := [.data], laidTests := true, laidLooks := .later }
def FnExactFreeEdgesCardSaid : Prop := Claim7.holds Tryd.pinned (.plain (OpenSpec.ofChange fnExactFreeEdgesSpec)) fnExactFreeEdgesCard

/-- THE TIED CARD OF 'laws.FnExactCoverNumber'. -/
def fnExactCoverNumberCard : Claim7 := { stood := { row := fnExactCoverNumberRow, standIns := [], harness := (true, "3c670cce517cf2a5d95dfb5f58d9f702f5c93be87065333581afcc5c342ca023"), looks := false }, kinds := [], alts := [], laidByText := true, laidKinds := [.data], laidTests := true, laidLooks := .later }
def FnExactCoverNumberCardSaid : Prop := Claim7.holds Tryd.pinned (.plain (OpenSpec.ofChange fnExactCoverNumberSpec)) fnExactCoverNumberCard

/-- THE TIED CARD OF 'laws.FnExactMatchingsOf'. -/
def fnExactMatchingsOfCard : Claim7 := { stood := { row := fnExactMatchingsOfRow, standIns := [], harness := (true, "3c670cce517cf2a5d95dfb5f58d9f702f5c93be87065333581afcc5c342ca023"), looks := false }, kinds := [], alts := [], laidByText := true, laidKinds := [.data], laidTests := true, laidLooks := .later }
def FnExactMatchingsOfCardSaid : Prop := Claim7.holds Tryd.pinned (.plain (OpenSpec.ofChange fnExactMatchingsOfSpec)) fnExactMatchingsOfCard

/-- THE TIED CARD OF 'laws.FnExactOddnessOf'. -/
def fnExactOddnessOfCard : Claim7 := { stood := { row := fnExactOddnessOfRow, standIns := [], harness := (true, "3c670cce517cf2a5d95dfb5f58d9f702f5c93be87065333581afcc5c342ca023"), looks := false }, kinds := [], alts := [], laidByText := true, laidKinds := [.data], laidTests := true, laidLooks := .later }
def FnExactOddnessOfCardSaid : Prop := Claim7.holds Tryd.pinned (.plain (OpenSpec.ofChange fnExactOddnessOfSpec)) fnExactOddnessOfCard

/-- THE SECOND FORM's CARD OF 'laws.FnExactFreeEdges'. -/
def fnExactFreeEdgesUptoCard : Claim7 := { stood := { row := fnExactFreeEdgesUptoRow, standIns := [], harness := (true, "3c670cce517cf2a5d95dfb5f58d9f702f5c93be87065333581afcc5c342ca023"), looks := false }, kinds := [], alts := [], laidByText := true, laidKinds := [.data], laidTests := true, laidLooks := .later }
def FnExactFreeEdgesUptoCardSaid : Prop := Claim7.holds Tryd.pinned (.plain (OpenSpec.upto fnExactFreeEdgesSpec)) fnExactFreeEdgesUptoCard

/-- THE SECOND FORM's CARD OF 'laws.FnExactCoverNumber'. -/
def fnExactCoverNumberUptoCard : Claim7 := { stood := { row := fnExactCoverNumberUptoRow, standIns := [], harness := (true, "3c670cce517cf2a5d95dfb5f58d9f702f5c93be87065333581afcc5c342ca023"), looks := false }, kinds := [], alts := [], laidByText := true, laidKinds := [.data], laidTests := true, laidLooks := .later }
def FnExactCoverNumberUptoCardSaid : Prop := Claim7.holds Tryd.pinned (.plain (OpenSpec.upto fnExactCoverNumberSpec)) fnExactCoverNumberUptoCard

/-- THE SECOND FORM's CARD OF 'laws.FnExactMatchingsOf'. -/
def fnExactMatchingsOfUptoCard : Claim7 := { stood := { row := fnExactMatchingsOfUptoRow, standIns := [], harness := (true, "3c670cce517cf2a5d95dfb5f58d9f702f5c93be87065333581afcc5c342ca023"), looks := false }, kinds := [], alts := [], laidByText := true, laidKinds := [.data], laidTests := true, laidLooks := .later }
def FnExactMatchingsOfUptoCardSaid : Prop := Claim7.holds Tryd.pinned (.plain (OpenSpec.upto fnExactMatchingsOfSpec)) fnExactMatchingsOfUptoCard

/-- THE SECOND FORM's CARD OF 'laws.FnExactOddnessOf'. -/
def fnExactOddnessOfUptoCard : Claim7 := { stood := { row := fnExactOddnessOfUptoRow, standIns := [], harness := (true, "3c670cce517cf2a5d95dfb5f58d9f702f5c93be87065333581afcc5c342ca023"), looks := false }, kinds := [], alts := [], laidByText := true, laidKinds := [.data], laidTests := true, laidLooks := .later }
def FnExactOddnessOfUptoCardSaid : Prop := Claim7.holds Tryd.pinned (.plain (OpenSpec.upto fnExactOddnessOfSpec)) fnExactOddnessOfUptoCard
end Rows
end Go.Proofs.YtfcflpcmjlbedaaDoor
