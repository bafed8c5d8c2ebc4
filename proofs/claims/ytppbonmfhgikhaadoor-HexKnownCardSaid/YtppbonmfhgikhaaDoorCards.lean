/-
  DERIVED. GIVEN WITH THE SEED: THE CARDS: each row of YtppbonmfhgikhaaDoorRows.lean that lists a variable, with what it lists TIED to the program's text (the seventh form; the later family's looks); each row that meets fmt, with fmt's text TOLD by the authors' own Lean function (tested against real Go, not proved from fmt's source: count such statements apart). THE CARD IS WHAT COUNTS. Prove the row's statement (the work); the ties are given (YtppbonmfhgikhaaDoorTie.lean); close each card by the builder's one call (the guide's Derived/Test/ToyasCard.lean, 'card_holds'). Laid BY PROGRAM, IN A SANDBOX (cutbox-door.mjs). By AI agents, Wed Nov 11 2026. No macro, syntax, notation, axiom, sorry.
-/
import Derived.Test.YtppbonmfhgikhaaDoorRows
import GoSem.ClaimSeven
namespace Go.Proofs.YtppbonmfhgikhaaDoor
namespace Rows

/-- THE TIED CARD OF 'taprootlaw5.HexDigits'. -/
def hexDigitsCard : Claim7 := { stood := { row := hexDigitsRow, standIns := [], harness := (true, "641a3b0027e8575eb169d34ac99c9e60c93f518d168f5dd2baaef2c24bb3b45f"), looks := true }, kinds := [], alts := [], laidByText := true, laidKinds := [.handle], laidTests := true, laidLooks := .later }
def HexDigitsCardSaid : Prop := Claim7.holds Tryd.pinned (.plain (OpenSpec.ofChange hexDigitsSpec)) hexDigitsCard

/-- THE TIED CARD OF 'taprootlaw5.HexText'. -/
def hexTextCard : Claim7 := { stood := { row := hexTextRow, standIns := [], harness := (true, "641a3b0027e8575eb169d34ac99c9e60c93f518d168f5dd2baaef2c24bb3b45f"), looks := true }, kinds := [], alts := [], laidByText := true, laidKinds := [.handle], laidTests := true, laidLooks := .later }
def HexTextCardSaid : Prop := Claim7.holds Tryd.pinned (.plain (OpenSpec.ofChange hexTextSpec)) hexTextCard

/-- THE TIED CARD OF 'taprootlaw5.HexKnown'. -/
def hexKnownCard : Claim7 := { stood := { row := hexKnownRow, standIns := [], harness := (true, "641a3b0027e8575eb169d34ac99c9e60c93f518d168f5dd2baaef2c24bb3b45f"), looks := true }, kinds := [], alts := [], laidByText := true, laidKinds := [.handle], laidTests := true, laidLooks := .later }
def HexKnownCardSaid : Prop := Claim7.holds Tryd.pinned (.plain (OpenSpec.ofChange hexKnownSpec)) hexKnownCard

/-- THE SECOND FORM's CARD OF 'taprootlaw5.HexDigits'. -/
def hexDigitsUptoCard : Claim7 := { stood := { row := hexDigitsUptoRow, standIns := [], harness := (true, "641a3b0027e8575eb169d34ac99c9e60c93f518d168f5dd2baaef2c24bb3b45f"), looks := true }, kinds := [], alts := [], laidByText := true, laidKinds := [.handle], laidTests := true, laidLooks := .later }
def HexDigitsUptoCardSaid : Prop := Claim7.holds Tryd.pinned (.plain (OpenSpec.upto hexDigitsSpec)) hexDigitsUptoCard

/-- THE SECOND FORM's CARD OF 'taprootlaw5.HexText'. -/
def hexTextUptoCard : Claim7 := { stood := { row := hexTextUptoRow, standIns := [], harness := (true, "641a3b0027e8575eb169d34ac99c9e60c93f518d168f5dd2baaef2c24bb3b45f"), looks := true }, kinds := [], alts := [], laidByText := true, laidKinds := [.handle], laidTests := true, laidLooks := .later }
def HexTextUptoCardSaid : Prop := Claim7.holds Tryd.pinned (.plain (OpenSpec.upto hexTextSpec)) hexTextUptoCard

/-- THE SECOND FORM's CARD OF 'taprootlaw5.HexKnown'. -/
def hexKnownUptoCard : Claim7 := { stood := { row := hexKnownUptoRow, standIns := [], harness := (true, "641a3b0027e8575eb169d34ac99c9e60c93f518d168f5dd2baaef2c24bb3b45f"), looks := true }, kinds := [], alts := [], laidByText := true, laidKinds := [.handle], laidTests := true, laidLooks := .later }
def HexKnownUptoCardSaid : Prop := Claim7.holds Tryd.pinned (.plain (OpenSpec.upto hexKnownSpec)) hexKnownUptoCard
end Rows
end Go.Proofs.YtppbonmfhgikhaaDoor
