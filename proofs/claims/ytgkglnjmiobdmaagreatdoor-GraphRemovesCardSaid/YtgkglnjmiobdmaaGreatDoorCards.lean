/-
  DERIVED. GIVEN WITH THE SEED: THE CARDS: each row of YtgkglnjmiobdmaaGreatDoorRows.lean that lists a variable, with what it lists TIED to the program's text (the seventh form; the later family's looks); each row that meets fmt, with fmt's text TOLD by the authors' own Lean function (tested against real Go, not proved from fmt's source: count such statements apart). THE CARD IS WHAT COUNTS. Prove the row's statement (the work); the ties are given (YtgkglnjmiobdmaaGreatDoorTie.lean); close each card by the builder's one call (the guide's Derived/Test/ToyasCard.lean, 'card_holds'). Laid BY PROGRAM, IN A SANDBOX (cutbox-door.mjs). By AI agents, Wed Nov 11 2026. No macro, syntax, notation, axiom, sorry.
-/
import Derived.Test.YtgkglnjmiobdmaaGreatDoorRows
import GoSem.ClaimSeven
namespace Go.Proofs.YtgkglnjmiobdmaaGreatDoor
namespace Rows

/-- THE TIED CARD OF 'taprootlaw11.GraphPlays'. -/
def graphPlaysCard : Claim7 := { stood := { row := graphPlaysRow, standIns := [], harness := (true, "5d48ed1c99d50a19c3b5e0d469f8cd932c86ba24720718f764579f349c403edf"), looks := true }, kinds := [], alts := [], laidByText := true, laidKinds := [.handle], laidTests := true, laidLooks := .later }
def GraphPlaysCardSaid : Prop := Claim7.holds Tryz.pinned (.plain (OpenSpec.ofChange graphPlaysSpec)) graphPlaysCard

/-- THE TIED CARD OF 'taprootlaw11.GraphRemoves'. -/
def graphRemovesCard : Claim7 := { stood := { row := graphRemovesRow, standIns := [], harness := (true, "5d48ed1c99d50a19c3b5e0d469f8cd932c86ba24720718f764579f349c403edf"), looks := true }, kinds := [], alts := [], laidByText := true, laidKinds := [.handle], laidTests := true, laidLooks := .later }
def GraphRemovesCardSaid : Prop := Claim7.holds Tryz.pinned (.plain (OpenSpec.ofChange graphRemovesSpec)) graphRemovesCard

/-- THE SECOND FORM's CARD OF 'taprootlaw11.GraphPlays'. -/
def graphPlaysUptoCard : Claim7 := { stood := { row := graphPlaysUptoRow, standIns := [], harness := (true, "5d48ed1c99d50a19c3b5e0d469f8cd932c86ba24720718f764579f349c403edf"), looks := true }, kinds := [], alts := [], laidByText := true, laidKinds := [.handle], laidTests := true, laidLooks := .later }
def GraphPlaysUptoCardSaid : Prop := Claim7.holds Tryz.pinned (.plain (OpenSpec.upto graphPlaysSpec)) graphPlaysUptoCard

/-- THE SECOND FORM's CARD OF 'taprootlaw11.GraphRemoves'. -/
def graphRemovesUptoCard : Claim7 := { stood := { row := graphRemovesUptoRow, standIns := [], harness := (true, "5d48ed1c99d50a19c3b5e0d469f8cd932c86ba24720718f764579f349c403edf"), looks := true }, kinds := [], alts := [], laidByText := true, laidKinds := [.handle], laidTests := true, laidLooks := .later }
def GraphRemovesUptoCardSaid : Prop := Claim7.holds Tryz.pinned (.plain (OpenSpec.upto graphRemovesSpec)) graphRemovesUptoCard
end Rows
end Go.Proofs.YtgkglnjmiobdmaaGreatDoor
