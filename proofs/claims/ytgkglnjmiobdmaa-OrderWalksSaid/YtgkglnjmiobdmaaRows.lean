/-
  No cell of these rows narrows 'for every input' (looked for: loops, veiled, ifaces, maps, wideKeys, modest, calm, conditions, laid).
  DERIVED. THE GIVEN ROWS OF THIS SEAT. 5 by the template 'for every input the law returns true; each argument reads behind the call as it read before'; 0 by the template 'total and deterministic' (their statements: YtgkglnjmiobdmaaTotals.lean).
  GIVEN WITH THE SEED: the statements are not yours to turn. If you find one false, say at which input.
  Laid BY PROGRAM, IN A SANDBOX (cutbox-rows.mjs): the forced cells as the released guide's own fill.sh prints them over the translation e381dbfdf563ca42… (all of the seat's roots in one cut). By AI agents, Wed Nov 11 2026. No macro, syntax, notation, axiom, sorry.
-/
import Derived.Test.YtgkglnjmiobdmaaChecked
import GoSem.Claim
import GoSem.ClaimJoined
import GoSem.ClaimMapViews
import Derived.JoinedTies
import Derived.KernelRfl
namespace Go.Proofs.Ytgkglnjmiobdmaa
/- THE CELL 'sum', in the pinned program and in every row, IS THE sha256 OF THE DUMP (.gsa) THAT YtgkglnjmiobdmaaProg.lean LOADS. Nothing in Lean hashes anything: it is a label: what it is worth is what the hold of that sum in a sandbox is worth. -/
noncomputable def Try.pinned : Pinned := { name := "ytgkglnjmiobdmaa", sum := "e381dbfdf563ca42b6a91a540cd18975d66448ac5cb11f7ef6d83f7100a01d80", checked := Try.checked }
namespace Rows
def none {H : Type} : Left H := { results := [], args := [] }

/-- 'taprootlaw12.OrderLong': WHATEVER THE INPUT: true; the input reads as it did. -/
def orderLongSpec : ChangeSpec := { name := "orderLong", fn := fun _ => fun
  | [d] => { results := [.lit (.bool true)], args := [d] }
  | _ => none }
def orderLongRow : OpenClaim := { program := "ytgkglnjmiobdmaa", sum := "e381dbfdf563ca42b6a91a540cd18975d66448ac5cb11f7ef6d83f7100a01d80", func := "taproot/taprootlaw12.OrderLong", spec := "orderLong", inPlace := ["internal/bytealg.Compare", "maps.clone"], unfollowed := true, recurses := true, plainKeys := false, apart := false }
def OrderLongSaid : Prop := orderLongRow.holds Try.pinned (OpenSpec.ofChange orderLongSpec)

/-- ITS FALSE NEIGHBOUR: 'it returns false'. Refute it at one input. -/
def orderLongWrong : ChangeSpec := { name := "orderLong", fn := fun _ => fun
  | [d] => { results := [.lit (.bool false)], args := [d] }
  | _ => none }
def OrderLongWrongFalsely : Prop := orderLongRow.holds Try.pinned (OpenSpec.ofChange orderLongWrong)

/-- 'taprootlaw12.OrderKnown': WHATEVER THE INPUT: true; the input reads as it did. -/
def orderKnownSpec : ChangeSpec := { name := "orderKnown", fn := fun _ => fun
  | [] => { results := [.lit (.bool true)], args := [] }
  | _ => none }
def orderKnownRow : OpenClaim := { program := "ytgkglnjmiobdmaa", sum := "e381dbfdf563ca42b6a91a540cd18975d66448ac5cb11f7ef6d83f7100a01d80", func := "taproot/taprootlaw12.OrderKnown", spec := "orderKnown", inPlace := ["internal/bytealg.Compare", "maps.clone"], unfollowed := true, recurses := true, plainKeys := false, apart := false }
def OrderKnownSaid : Prop := orderKnownRow.holds Try.pinned (OpenSpec.ofChange orderKnownSpec)

/-- ITS FALSE NEIGHBOUR: 'it returns false'. Refute it at one input. -/
def orderKnownWrong : ChangeSpec := { name := "orderKnown", fn := fun _ => fun
  | [] => { results := [.lit (.bool false)], args := [] }
  | _ => none }
def OrderKnownWrongFalsely : Prop := orderKnownRow.holds Try.pinned (OpenSpec.ofChange orderKnownWrong)

/-- 'taprootlaw12.OrderWalks': WHATEVER THE INPUT: true; the input reads as it did. -/
def orderWalksSpec : ChangeSpec := { name := "orderWalks", fn := fun _ => fun
  | [d1, d2, d3, d4] => { results := [.lit (.bool true)], args := [d1, d2, d3, d4] }
  | _ => none }
def orderWalksRow : OpenClaim := { program := "ytgkglnjmiobdmaa", sum := "e381dbfdf563ca42b6a91a540cd18975d66448ac5cb11f7ef6d83f7100a01d80", func := "taproot/taprootlaw12.OrderWalks", spec := "orderWalks", inPlace := ["internal/bytealg.Compare", "maps.clone"], unfollowed := true, recurses := true, plainKeys := false, apart := false }
def OrderWalksSaid : Prop := orderWalksRow.holds Try.pinned (OpenSpec.ofChange orderWalksSpec)

/-- ITS FALSE NEIGHBOUR: 'it returns false'. Refute it at one input. -/
def orderWalksWrong : ChangeSpec := { name := "orderWalks", fn := fun _ => fun
  | [d1, d2, d3, d4] => { results := [.lit (.bool false)], args := [d1, d2, d3, d4] }
  | _ => none }
def OrderWalksWrongFalsely : Prop := orderWalksRow.holds Try.pinned (OpenSpec.ofChange orderWalksWrong)

/-- 'taprootlaw12.OrderRises': WHATEVER THE INPUT: true; the input reads as it did. -/
def orderRisesSpec : ChangeSpec := { name := "orderRises", fn := fun _ => fun
  | [d1, d2] => { results := [.lit (.bool true)], args := [d1, d2] }
  | _ => none }
def orderRisesRow : OpenClaim := { program := "ytgkglnjmiobdmaa", sum := "e381dbfdf563ca42b6a91a540cd18975d66448ac5cb11f7ef6d83f7100a01d80", func := "taproot/taprootlaw12.OrderRises", spec := "orderRises", inPlace := ["internal/bytealg.Compare", "maps.clone"], unfollowed := true, recurses := true, plainKeys := false, apart := false }
def OrderRisesSaid : Prop := orderRisesRow.holds Try.pinned (OpenSpec.ofChange orderRisesSpec)

/-- ITS FALSE NEIGHBOUR: 'it returns false'. Refute it at one input. -/
def orderRisesWrong : ChangeSpec := { name := "orderRises", fn := fun _ => fun
  | [d1, d2] => { results := [.lit (.bool false)], args := [d1, d2] }
  | _ => none }
def OrderRisesWrongFalsely : Prop := orderRisesRow.holds Try.pinned (OpenSpec.ofChange orderRisesWrong)

/-- 'taprootlaw12.OrderParts': WHATEVER THE INPUT: true; the input reads as it did. -/
def orderPartsSpec : ChangeSpec := { name := "orderParts", fn := fun _ => fun
  | [d1, d2, d3] => { results := [.lit (.bool true)], args := [d1, d2, d3] }
  | _ => none }
def orderPartsRow : OpenClaim := { program := "ytgkglnjmiobdmaa", sum := "e381dbfdf563ca42b6a91a540cd18975d66448ac5cb11f7ef6d83f7100a01d80", func := "taproot/taprootlaw12.OrderParts", spec := "orderParts", inPlace := ["internal/bytealg.Compare", "maps.clone"], unfollowed := true, recurses := true, plainKeys := false, apart := false }
def OrderPartsSaid : Prop := orderPartsRow.holds Try.pinned (OpenSpec.ofChange orderPartsSpec)

/-- ITS FALSE NEIGHBOUR: 'it returns false'. Refute it at one input. -/
def orderPartsWrong : ChangeSpec := { name := "orderParts", fn := fun _ => fun
  | [d1, d2, d3] => { results := [.lit (.bool false)], args := [d1, d2, d3] }
  | _ => none }
def OrderPartsWrongFalsely : Prop := orderPartsRow.holds Try.pinned (OpenSpec.ofChange orderPartsWrong)

/- THE SECOND FORM. 'bulk': how many values and letters a reading holds, each counted each time it is reached (what is shared counts as often as it is met; a slice's spare places count too). A statement '..UptoSaid' is the law's where the arguments, and the package variables that the reading takes, are together of bulk at most 1048576: NARROWER than '..Said'. Prove '..Said' where nothing that the law and all that it calls make is longer than what came in: it says more and counts as full. Else prove '..UptoSaid'. A law counts once. -/
mutual
def uptoBulk {H : Type} : DataW H → Nat
  | .lit (.string bytes) => bytes.length + 1
  | .lit _ => 1
  | .nil => 1
  | .ptr d => uptoBulk d + 1
  | .slice elems spare => uptoBulkAll elems + uptoBulkAll spare + 1
  | .agg parts => uptoBulkAll parts + 1
  | .iface _ d => uptoBulk d + 1
  | .map entries => uptoBulkEntries entries + 1
  | .held _ => 1
def uptoBulkAll {H : Type} : List (DataW H) → Nat
  | [] => 0
  | d :: r => uptoBulk d + uptoBulkAll r
def uptoBulkEntries {H : Type} : List (Lit × DataW H) → Nat
  | [] => 0
  | x :: r => uptoBulkEntry x + uptoBulkEntries r
def uptoBulkEntry {H : Type} : Lit × DataW H → Nat
  | (.string bytes, d) => bytes.length + uptoBulk d + 1
  | (_, d) => uptoBulk d + 1
 end
def uptoSmall : (H : Type) → List (DataW H) → Bool := fun _ ds => decide (uptoBulkAll ds ≤ 1048576)
def OpenSpec.upto (s : _root_.Go.ChangeSpec) : _root_.Go.OpenSpec := { _root_.Go.OpenSpec.ofChange s with cond := some uptoSmall }

/-- 'taprootlaw12.OrderLong', WHERE WHAT IT READS IS OF BULK AT MOST 1048576: true; the input reads as it did. -/
def orderLongUptoRow : OpenClaim := { program := "ytgkglnjmiobdmaa", sum := "e381dbfdf563ca42b6a91a540cd18975d66448ac5cb11f7ef6d83f7100a01d80", func := "taproot/taprootlaw12.OrderLong", spec := "orderLong", inPlace := ["internal/bytealg.Compare", "maps.clone"], unfollowed := true, recurses := true, plainKeys := false, apart := false, narrowed := true }
def OrderLongUptoSaid : Prop := orderLongUptoRow.holds Try.pinned (OpenSpec.upto orderLongSpec)

/-- 'taprootlaw12.OrderKnown', WHERE WHAT IT READS IS OF BULK AT MOST 1048576: true; the input reads as it did. -/
def orderKnownUptoRow : OpenClaim := { program := "ytgkglnjmiobdmaa", sum := "e381dbfdf563ca42b6a91a540cd18975d66448ac5cb11f7ef6d83f7100a01d80", func := "taproot/taprootlaw12.OrderKnown", spec := "orderKnown", inPlace := ["internal/bytealg.Compare", "maps.clone"], unfollowed := true, recurses := true, plainKeys := false, apart := false, narrowed := true }
def OrderKnownUptoSaid : Prop := orderKnownUptoRow.holds Try.pinned (OpenSpec.upto orderKnownSpec)

/-- 'taprootlaw12.OrderWalks', WHERE WHAT IT READS IS OF BULK AT MOST 1048576: true; the input reads as it did. -/
def orderWalksUptoRow : OpenClaim := { program := "ytgkglnjmiobdmaa", sum := "e381dbfdf563ca42b6a91a540cd18975d66448ac5cb11f7ef6d83f7100a01d80", func := "taproot/taprootlaw12.OrderWalks", spec := "orderWalks", inPlace := ["internal/bytealg.Compare", "maps.clone"], unfollowed := true, recurses := true, plainKeys := false, apart := false, narrowed := true }
def OrderWalksUptoSaid : Prop := orderWalksUptoRow.holds Try.pinned (OpenSpec.upto orderWalksSpec)

/-- 'taprootlaw12.OrderRises', WHERE WHAT IT READS IS OF BULK AT MOST 1048576: true; the input reads as it did. -/
def orderRisesUptoRow : OpenClaim := { program := "ytgkglnjmiobdmaa", sum := "e381dbfdf563ca42b6a91a540cd18975d66448ac5cb11f7ef6d83f7100a01d80", func := "taproot/taprootlaw12.OrderRises", spec := "orderRises", inPlace := ["internal/bytealg.Compare", "maps.clone"], unfollowed := true, recurses := true, plainKeys := false, apart := false, narrowed := true }
def OrderRisesUptoSaid : Prop := orderRisesUptoRow.holds Try.pinned (OpenSpec.upto orderRisesSpec)

/-- 'taprootlaw12.OrderParts', WHERE WHAT IT READS IS OF BULK AT MOST 1048576: true; the input reads as it did. -/
def orderPartsUptoRow : OpenClaim := { program := "ytgkglnjmiobdmaa", sum := "e381dbfdf563ca42b6a91a540cd18975d66448ac5cb11f7ef6d83f7100a01d80", func := "taproot/taprootlaw12.OrderParts", spec := "orderParts", inPlace := ["internal/bytealg.Compare", "maps.clone"], unfollowed := true, recurses := true, plainKeys := false, apart := false, narrowed := true }
def OrderPartsUptoSaid : Prop := orderPartsUptoRow.holds Try.pinned (OpenSpec.upto orderPartsSpec)

end Rows
end Go.Proofs.Ytgkglnjmiobdmaa
