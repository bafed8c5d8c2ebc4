/-
  DERIVED. GIVEN WITH THE SEED: THE CARDS: each row of YtgkglnjmiobdmaaDoorRows.lean that lists a variable, with what it lists TIED to the program's text (the seventh form; the later family's looks); each row that meets fmt, with fmt's text TOLD by the authors' own Lean function (tested against real Go, not proved from fmt's source: count such statements apart). THE CARD IS WHAT COUNTS. Prove the row's statement (the work); the ties are given (YtgkglnjmiobdmaaDoorTie.lean); close each card by the builder's one call (the guide's Derived/Test/ToyasCard.lean, 'card_holds'). Laid BY PROGRAM, IN A SANDBOX (cutbox-door.mjs). By AI agents, Wed Nov 11 2026. No macro, syntax, notation, axiom, sorry.
-/
import Derived.Test.YtgkglnjmiobdmaaDoorRows
import GoSem.ClaimSeven
namespace Go.Proofs.YtgkglnjmiobdmaaDoor
namespace Rows

/-- THE TIED CARD OF 'taprootlaw11.GraphOrders'. -/
def graphOrdersCard : Claim7 := { stood := { row := graphOrdersRow, standIns := [], harness := (true, "7603b36c7b36a4c4ac353d9105027ba663a227e83bf04d22c43cbadd2724cdf4"), looks := true }, kinds := [], alts := [], laidByText := true, laidKinds := [.handle], laidTests := true, laidLooks := .later }
def GraphOrdersCardSaid : Prop := Claim7.holds Tryd.pinned (.plain (OpenSpec.ofChange graphOrdersSpec)) graphOrdersCard

/-- THE TIED CARD OF 'taprootlaw11.GraphUnion'. -/
def graphUnionCard : Claim7 := { stood := { row := graphUnionRow, standIns := [], harness := (true, "7603b36c7b36a4c4ac353d9105027ba663a227e83bf04d22c43cbadd2724cdf4"), looks := true }, kinds := [], alts := [], laidByText := true, laidKinds := [.handle], laidTests := true, laidLooks := .later }
def GraphUnionCardSaid : Prop := Claim7.holds Tryd.pinned (.plain (OpenSpec.ofChange graphUnionSpec)) graphUnionCard

/-- THE TIED CARD OF 'taprootlaw11.GraphWays'. -/
def graphWaysCard : Claim7 := { stood := { row := graphWaysRow, standIns := [], harness := (true, "7603b36c7b36a4c4ac353d9105027ba663a227e83bf04d22c43cbadd2724cdf4"), looks := true }, kinds := [], alts := [], laidByText := true, laidKinds := [.handle], laidTests := true, laidLooks := .later }
def GraphWaysCardSaid : Prop := Claim7.holds Tryd.pinned (.plain (OpenSpec.ofChange graphWaysSpec)) graphWaysCard

/-- THE TIED CARD OF 'taprootlaw11.GraphKnown'. -/
def graphKnownCard : Claim7 := { stood := { row := graphKnownRow, standIns := [], harness := (true, "7603b36c7b36a4c4ac353d9105027ba663a227e83bf04d22c43cbadd2724cdf4"), looks := true }, kinds := [], alts := [], laidByText := true, laidKinds := [.handle], laidTests := true, laidLooks := .later }
def GraphKnownCardSaid : Prop := Claim7.holds Tryd.pinned (.plain (OpenSpec.ofChange graphKnownSpec)) graphKnownCard

/-- THE SECOND FORM's CARD OF 'taprootlaw11.GraphOrders'. -/
def graphOrdersUptoCard : Claim7 := { stood := { row := graphOrdersUptoRow, standIns := [], harness := (true, "7603b36c7b36a4c4ac353d9105027ba663a227e83bf04d22c43cbadd2724cdf4"), looks := true }, kinds := [], alts := [], laidByText := true, laidKinds := [.handle], laidTests := true, laidLooks := .later }
def GraphOrdersUptoCardSaid : Prop := Claim7.holds Tryd.pinned (.plain (OpenSpec.upto graphOrdersSpec)) graphOrdersUptoCard

/-- THE SECOND FORM's CARD OF 'taprootlaw11.GraphUnion'. -/
def graphUnionUptoCard : Claim7 := { stood := { row := graphUnionUptoRow, standIns := [], harness := (true, "7603b36c7b36a4c4ac353d9105027ba663a227e83bf04d22c43cbadd2724cdf4"), looks := true }, kinds := [], alts := [], laidByText := true, laidKinds := [.handle], laidTests := true, laidLooks := .later }
def GraphUnionUptoCardSaid : Prop := Claim7.holds Tryd.pinned (.plain (OpenSpec.upto graphUnionSpec)) graphUnionUptoCard

/-- THE SECOND FORM's CARD OF 'taprootlaw11.GraphWays'. -/
def graphWaysUptoCard : Claim7 := { stood := { row := graphWaysUptoRow, standIns := [], harness := (true, "7603b36c7b36a4c4ac353d9105027ba663a227e83bf04d22c43cbadd2724cdf4"), looks := true }, kinds := [], alts := [], laidByText := true, laidKinds := [.handle], laidTests := true, laidLooks := .later }
def GraphWaysUptoCardSaid : Prop := Claim7.holds Tryd.pinned (.plain (OpenSpec.upto graphWaysSpec)) graphWaysUptoCard

/-- THE SECOND FORM's CARD OF 'taprootlaw11.GraphKnown'. -/
def graphKnownUptoCard : Claim7 := { stood := { row := graphKnownUptoRow, standIns := [], harness := (true, "7603b36c7b36a4c4ac353d9105027ba663a227e83bf04d22c43cbadd2724cdf4"), looks := true }, kinds := [], alts := [], laidByText := true, laidKinds := [.handle], laidTests := true, laidLooks := .later }
def GraphKnownUptoCardSaid : Prop := Claim7.holds Tryd.pinned (.plain (OpenSpec.upto graphKnownSpec)) graphKnownUptoCard
end Rows
end Go.Proofs.YtgkglnjmiobdmaaDoor
