/-
  No cell of these rows narrows 'for every input' (looked for: loops, veiled, ifaces, maps, wideKeys, modest, calm, conditions, laid).
  DERIVED. THE GIVEN ROWS OF THIS SEAT. 6 by the template 'for every input the law returns true; each argument reads behind the call as it read before'; 0 by the template 'total and deterministic' (their statements: YtbfokpenlkdekaaTotals.lean).
  GIVEN WITH THE SEED: the statements are not yours to turn. If you find one false, say at which input.
  Laid BY PROGRAM, IN A SANDBOX (cutbox-rows.mjs): the forced cells as the released guide's own fill.sh prints them over the translation cbdd0088877dd806… (all of the seat's roots in one cut). By AI agents, Wed Nov 11 2026. No macro, syntax, notation, axiom, sorry.
-/
import Derived.Test.YtbfokpenlkdekaaChecked
import GoSem.Claim
import GoSem.ClaimJoined
import GoSem.ClaimMapViews
import Derived.JoinedTies
import Derived.KernelRfl
namespace Go.Proofs.Ytbfokpenlkdekaa
/- THE CELL 'sum', in the pinned program and in every row, IS THE sha256 OF THE DUMP (.gsa) THAT YtbfokpenlkdekaaProg.lean LOADS. Nothing in Lean hashes anything: it is a label: what it is worth is what the hold of that sum in a sandbox is worth. -/
noncomputable def Try.pinned : Pinned := { name := "ytbfokpenlkdekaa", sum := "cbdd0088877dd806fac4dc08367d17224ee46ff789469f27b7af50659d46e03c", checked := Try.checked }
namespace Rows
def none {H : Type} : Left H := { results := [], args := [] }

/-- 'taprootlaw10.SpansApart': WHATEVER THE INPUT: true; the input reads as it did. -/
def spansApartSpec : ChangeSpec := { name := "spansApart", fn := fun _ => fun
  | [d1, d2, d3] => { results := [.lit (.bool true)], args := [d1, d2, d3] }
  | _ => none }
def spansApartRow : OpenClaim := { program := "ytbfokpenlkdekaa", sum := "cbdd0088877dd806fac4dc08367d17224ee46ff789469f27b7af50659d46e03c", func := "taproot/taprootlaw10.SpansApart", spec := "spansApart", unfollowed := true, recurses := true, apart := false }
def SpansApartSaid : Prop := spansApartRow.holds Try.pinned (OpenSpec.ofChange spansApartSpec)

/-- ITS FALSE NEIGHBOUR: 'it returns false'. Refute it at one input. -/
def spansApartWrong : ChangeSpec := { name := "spansApart", fn := fun _ => fun
  | [d1, d2, d3] => { results := [.lit (.bool false)], args := [d1, d2, d3] }
  | _ => none }
def SpansApartWrongFalsely : Prop := spansApartRow.holds Try.pinned (OpenSpec.ofChange spansApartWrong)

/-- 'taprootlaw10.SpansTwo': WHATEVER THE INPUT: true; the input reads as it did. -/
def spansTwoSpec : ChangeSpec := { name := "spansTwo", fn := fun _ => fun
  | [d1, d2, d3, d4, d5, d6] => { results := [.lit (.bool true)], args := [d1, d2, d3, d4, d5, d6] }
  | _ => none }
def spansTwoRow : OpenClaim := { program := "ytbfokpenlkdekaa", sum := "cbdd0088877dd806fac4dc08367d17224ee46ff789469f27b7af50659d46e03c", func := "taproot/taprootlaw10.SpansTwo", spec := "spansTwo", unfollowed := true, recurses := true, apart := false }
def SpansTwoSaid : Prop := spansTwoRow.holds Try.pinned (OpenSpec.ofChange spansTwoSpec)

/-- ITS FALSE NEIGHBOUR: 'it returns false'. Refute it at one input. -/
def spansTwoWrong : ChangeSpec := { name := "spansTwo", fn := fun _ => fun
  | [d1, d2, d3, d4, d5, d6] => { results := [.lit (.bool false)], args := [d1, d2, d3, d4, d5, d6] }
  | _ => none }
def SpansTwoWrongFalsely : Prop := spansTwoRow.holds Try.pinned (OpenSpec.ofChange spansTwoWrong)

/-- 'taprootlaw10.SpansNumbers': WHATEVER THE INPUT: true; the input reads as it did. -/
def spansNumbersSpec : ChangeSpec := { name := "spansNumbers", fn := fun _ => fun
  | [d1, d2] => { results := [.lit (.bool true)], args := [d1, d2] }
  | _ => none }
def spansNumbersRow : OpenClaim := { program := "ytbfokpenlkdekaa", sum := "cbdd0088877dd806fac4dc08367d17224ee46ff789469f27b7af50659d46e03c", func := "taproot/taprootlaw10.SpansNumbers", spec := "spansNumbers", unfollowed := true, recurses := true, apart := false }
def SpansNumbersSaid : Prop := spansNumbersRow.holds Try.pinned (OpenSpec.ofChange spansNumbersSpec)

/-- ITS FALSE NEIGHBOUR: 'it returns false'. Refute it at one input. -/
def spansNumbersWrong : ChangeSpec := { name := "spansNumbers", fn := fun _ => fun
  | [d1, d2] => { results := [.lit (.bool false)], args := [d1, d2] }
  | _ => none }
def SpansNumbersWrongFalsely : Prop := spansNumbersRow.holds Try.pinned (OpenSpec.ofChange spansNumbersWrong)

/-- 'taprootlaw10.SpansPick': WHATEVER THE INPUT: true; the input reads as it did. -/
def spansPickSpec : ChangeSpec := { name := "spansPick", fn := fun _ => fun
  | [d1, d2, d3, d4] => { results := [.lit (.bool true)], args := [d1, d2, d3, d4] }
  | _ => none }
def spansPickRow : OpenClaim := { program := "ytbfokpenlkdekaa", sum := "cbdd0088877dd806fac4dc08367d17224ee46ff789469f27b7af50659d46e03c", func := "taproot/taprootlaw10.SpansPick", spec := "spansPick", unfollowed := true, recurses := true, apart := false }
def SpansPickSaid : Prop := spansPickRow.holds Try.pinned (OpenSpec.ofChange spansPickSpec)

/-- ITS FALSE NEIGHBOUR: 'it returns false'. Refute it at one input. -/
def spansPickWrong : ChangeSpec := { name := "spansPick", fn := fun _ => fun
  | [d1, d2, d3, d4] => { results := [.lit (.bool false)], args := [d1, d2, d3, d4] }
  | _ => none }
def SpansPickWrongFalsely : Prop := spansPickRow.holds Try.pinned (OpenSpec.ofChange spansPickWrong)

/-- 'taprootlaw10.SpansLaws': WHATEVER THE INPUT: true; the input reads as it did. -/
def spansLawsSpec : ChangeSpec := { name := "spansLaws", fn := fun _ => fun
  | [d1, d2, d3, d4] => { results := [.lit (.bool true)], args := [d1, d2, d3, d4] }
  | _ => none }
def spansLawsRow : OpenClaim := { program := "ytbfokpenlkdekaa", sum := "cbdd0088877dd806fac4dc08367d17224ee46ff789469f27b7af50659d46e03c", func := "taproot/taprootlaw10.SpansLaws", spec := "spansLaws", unfollowed := true, recurses := true, apart := false }
def SpansLawsSaid : Prop := spansLawsRow.holds Try.pinned (OpenSpec.ofChange spansLawsSpec)

/-- ITS FALSE NEIGHBOUR: 'it returns false'. Refute it at one input. -/
def spansLawsWrong : ChangeSpec := { name := "spansLaws", fn := fun _ => fun
  | [d1, d2, d3, d4] => { results := [.lit (.bool false)], args := [d1, d2, d3, d4] }
  | _ => none }
def SpansLawsWrongFalsely : Prop := spansLawsRow.holds Try.pinned (OpenSpec.ofChange spansLawsWrong)

/-- 'taprootlaw10.SpansKnown': WHATEVER THE INPUT: true; the input reads as it did. -/
def spansKnownSpec : ChangeSpec := { name := "spansKnown", fn := fun _ => fun
  | [] => { results := [.lit (.bool true)], args := [] }
  | _ => none }
def spansKnownRow : OpenClaim := { program := "ytbfokpenlkdekaa", sum := "cbdd0088877dd806fac4dc08367d17224ee46ff789469f27b7af50659d46e03c", func := "taproot/taprootlaw10.SpansKnown", spec := "spansKnown", unfollowed := true, recurses := true, apart := false }
def SpansKnownSaid : Prop := spansKnownRow.holds Try.pinned (OpenSpec.ofChange spansKnownSpec)

/-- ITS FALSE NEIGHBOUR: 'it returns false'. Refute it at one input. -/
def spansKnownWrong : ChangeSpec := { name := "spansKnown", fn := fun _ => fun
  | [] => { results := [.lit (.bool false)], args := [] }
  | _ => none }
def SpansKnownWrongFalsely : Prop := spansKnownRow.holds Try.pinned (OpenSpec.ofChange spansKnownWrong)

/- THE SECOND FORM. 'bulk': how many values and letters a reading holds, each counted each time it is reached (what is shared counts as often as it is met; a slice's spare places count too). A statement '..UptoSaid' is the law's where the arguments, and the package variables that the reading takes, are together of bulk at most 1048576: NARROWER than '..Said'. Prove '..Said' where nothing that the law and all that it calls make is longer than what came in: it says more and counts as full. Else prove '..UptoSaid'. A law counts once. -/
mutual
def uptoBulk {H : Type} : DataW H → Nat
  | .lit (.string bytes) => bytes.length + 1
  | .lit _ => 1
  | .nil => 1
  | .ptr d => uptoBulk d + 1
  | .slice elems spare => uptoBulkAll elems + uptoBulkAll spare + 1
  | .agg parts => uptoBulkAll parts + 1
  | .iface _ d => uptoBulk d + 1
  | .map entries => uptoBulkEntries entries + 1
  | .held _ => 1
def uptoBulkAll {H : Type} : List (DataW H) → Nat
  | [] => 0
  | d :: r => uptoBulk d + uptoBulkAll r
def uptoBulkEntries {H : Type} : List (Lit × DataW H) → Nat
  | [] => 0
  | x :: r => uptoBulkEntry x + uptoBulkEntries r
def uptoBulkEntry {H : Type} : Lit × DataW H → Nat
  | (.string bytes, d) => bytes.length + uptoBulk d + 1
  | (_, d) => uptoBulk d + 1
 end
def uptoSmall : (H : Type) → List (DataW H) → Bool := fun _ ds => decide (uptoBulkAll ds ≤ 1048576)
def OpenSpec.upto (s : _root_.Go.ChangeSpec) : _root_.Go.OpenSpec := { _root_.Go.OpenSpec.ofChange s with cond := some uptoSmall }

/-- 'taprootlaw10.SpansApart', WHERE WHAT IT READS IS OF BULK AT MOST 1048576: true; the input reads as it did. -/
def spansApartUptoRow : OpenClaim := { program := "ytbfokpenlkdekaa", sum := "cbdd0088877dd806fac4dc08367d17224ee46ff789469f27b7af50659d46e03c", func := "taproot/taprootlaw10.SpansApart", spec := "spansApart", unfollowed := true, recurses := true, apart := false, narrowed := true }
def SpansApartUptoSaid : Prop := spansApartUptoRow.holds Try.pinned (OpenSpec.upto spansApartSpec)

/-- 'taprootlaw10.SpansTwo', WHERE WHAT IT READS IS OF BULK AT MOST 1048576: true; the input reads as it did. -/
def spansTwoUptoRow : OpenClaim := { program := "ytbfokpenlkdekaa", sum := "cbdd0088877dd806fac4dc08367d17224ee46ff789469f27b7af50659d46e03c", func := "taproot/taprootlaw10.SpansTwo", spec := "spansTwo", unfollowed := true, recurses := true, apart := false, narrowed := true }
def SpansTwoUptoSaid : Prop := spansTwoUptoRow.holds Try.pinned (OpenSpec.upto spansTwoSpec)

/-- 'taprootlaw10.SpansNumbers', WHERE WHAT IT READS IS OF BULK AT MOST 1048576: true; the input reads as it did. -/
def spansNumbersUptoRow : OpenClaim := { program := "ytbfokpenlkdekaa", sum := "cbdd0088877dd806fac4dc08367d17224ee46ff789469f27b7af50659d46e03c", func := "taproot/taprootlaw10.SpansNumbers", spec := "spansNumbers", unfollowed := true, recurses := true, apart := false, narrowed := true }
def SpansNumbersUptoSaid : Prop := spansNumbersUptoRow.holds Try.pinned (OpenSpec.upto spansNumbersSpec)

/-- 'taprootlaw10.SpansPick', WHERE WHAT IT READS IS OF BULK AT MOST 1048576: true; the input reads as it did. -/
def spansPickUptoRow : OpenClaim := { program := "ytbfokpenlkdekaa", sum := "cbdd0088877dd806fac4dc08367d17224ee46ff789469f27b7af50659d46e03c", func := "taproot/taprootlaw10.SpansPick", spec := "spansPick", unfollowed := true, recurses := true, apart := false, narrowed := true }
def SpansPickUptoSaid : Prop := spansPickUptoRow.holds Try.pinned (OpenSpec.upto spansPickSpec)

/-- 'taprootlaw10.SpansLaws', WHERE WHAT IT READS IS OF BULK AT MOST 1048576: true; the input reads as it did. -/
def spansLawsUptoRow : OpenClaim := { program := "ytbfokpenlkdekaa", sum := "cbdd0088877dd806fac4dc08367d17224ee46ff789469f27b7af50659d46e03c", func := "taproot/taprootlaw10.SpansLaws", spec := "spansLaws", unfollowed := true, recurses := true, apart := false, narrowed := true }
def SpansLawsUptoSaid : Prop := spansLawsUptoRow.holds Try.pinned (OpenSpec.upto spansLawsSpec)

/-- 'taprootlaw10.SpansKnown', WHERE WHAT IT READS IS OF BULK AT MOST 1048576: true; the input reads as it did. -/
def spansKnownUptoRow : OpenClaim := { program := "ytbfokpenlkdekaa", sum := "cbdd0088877dd806fac4dc08367d17224ee46ff789469f27b7af50659d46e03c", func := "taproot/taprootlaw10.SpansKnown", spec := "spansKnown", unfollowed := true, recurses := true, apart := false, narrowed := true }
def SpansKnownUptoSaid : Prop := spansKnownUptoRow.holds Try.pinned (OpenSpec.upto spansKnownSpec)

end Rows
end Go.Proofs.Ytbfokpenlkdekaa
