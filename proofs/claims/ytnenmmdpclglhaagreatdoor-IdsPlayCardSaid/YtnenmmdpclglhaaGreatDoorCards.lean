/-
  DERIVED. GIVEN WITH THE SEED: THE CARDS: each row of YtnenmmdpclglhaaGreatDoorRows.lean that lists a variable, with what it lists TIED to the program's text (the seventh form; the later family's looks); each row that meets fmt, with fmt's text TOLD by the authors' own Lean function (tested against real Go, not proved from fmt's source: count such statements apart). THE CARD IS WHAT COUNTS. Prove the row's statement (the work); the ties are given (YtnenmmdpclglhaaGreatDoorTie.lean); close each card by the builder's one call (the guide's Derived/Test/ToyasCard.lean, 'card_holds'). Laid BY PROGRAM, IN A SANDBOX (cutbox-door.mjs). By AI agents, Wed Nov 11 2026. No macro, syntax, notation, axiom, sorry.
-/
import Derived.Test.YtnenmmdpclglhaaGreatDoorRows
import GoSem.ClaimSeven
namespace Go.Proofs.YtnenmmdpclglhaaGreatDoor
namespace Rows

/-- THE TIED CARD OF 'taprootlaw13.IdsStrips'. -/
def idsStripsCard : Claim7 := { stood := { row := idsStripsRow, standIns := [], harness := (true, "38ea4aa611e07fef03926e92375f5f146defc9f0641e92aab61526cf546f3226"), looks := true }, kinds := [], alts := [], laidByText := true, laidKinds := [.handle], laidTests := true, laidLooks := .later }
def IdsStripsCardSaid : Prop := Claim7.holds Tryz.pinned (.plain (OpenSpec.ofChange idsStripsSpec)) idsStripsCard

/-- THE TIED CARD OF 'taprootlaw13.IdsKnown'. -/
def idsKnownCard : Claim7 := { stood := { row := idsKnownRow, standIns := [], harness := (true, "38ea4aa611e07fef03926e92375f5f146defc9f0641e92aab61526cf546f3226"), looks := true }, kinds := [], alts := [], laidByText := true, laidKinds := [.handle], laidTests := true, laidLooks := .later }
def IdsKnownCardSaid : Prop := Claim7.holds Tryz.pinned (.plain (OpenSpec.ofChange idsKnownSpec)) idsKnownCard

/-- THE TIED CARD OF 'taprootlaw13.IdsPlay'. -/
def idsPlayCard : Claim7 := { stood := { row := idsPlayRow, standIns := [], harness := (true, "38ea4aa611e07fef03926e92375f5f146defc9f0641e92aab61526cf546f3226"), looks := true }, kinds := [], alts := [], laidByText := true, laidKinds := [.handle], laidTests := true, laidLooks := .later }
def IdsPlayCardSaid : Prop := Claim7.holds Tryz.pinned (.plain (OpenSpec.ofChange idsPlaySpec)) idsPlayCard

/-- THE SECOND FORM's CARD OF 'taprootlaw13.IdsStrips'. -/
def idsStripsUptoCard : Claim7 := { stood := { row := idsStripsUptoRow, standIns := [], harness := (true, "38ea4aa611e07fef03926e92375f5f146defc9f0641e92aab61526cf546f3226"), looks := true }, kinds := [], alts := [], laidByText := true, laidKinds := [.handle], laidTests := true, laidLooks := .later }
def IdsStripsUptoCardSaid : Prop := Claim7.holds Tryz.pinned (.plain (OpenSpec.upto idsStripsSpec)) idsStripsUptoCard

/-- THE SECOND FORM's CARD OF 'taprootlaw13.IdsKnown'. -/
def idsKnownUptoCard : Claim7 := { stood := { row := idsKnownUptoRow, standIns := [], harness := (true, "38ea4aa611e07fef03926e92375f5f146defc9f0641e92aab61526cf546f3226"), looks := true }, kinds := [], alts := [], laidByText := true, laidKinds := [.handle], laidTests := true, laidLooks := .later }
def IdsKnownUptoCardSaid : Prop := Claim7.holds Tryz.pinned (.plain (OpenSpec.upto idsKnownSpec)) idsKnownUptoCard

/-- THE SECOND FORM's CARD OF 'taprootlaw13.IdsPlay'. -/
def idsPlayUptoCard : Claim7 := { stood := { row := idsPlayUptoRow, standIns := [], harness := (true, "38ea4aa611e07fef03926e92375f5f146defc9f0641e92aab61526cf546f3226"), looks := true }, kinds := [], alts := [], laidByText := true, laidKinds := [.handle], laidTests := true, laidLooks := .later }
def IdsPlayUptoCardSaid : Prop := Claim7.holds Tryz.pinned (.plain (OpenSpec.upto idsPlaySpec)) idsPlayUptoCard
end Rows
end Go.Proofs.YtnenmmdpclglhaaGreatDoor
