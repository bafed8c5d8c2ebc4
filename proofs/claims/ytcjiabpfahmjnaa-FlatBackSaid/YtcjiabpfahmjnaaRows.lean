/-
  No cell of these rows narrows 'for every input' (looked for: loops, veiled, ifaces, maps, wideKeys, modest, calm, conditions, laid).
  DERIVED. THE GIVEN ROWS OF THIS SEAT. 8 by the template 'for every input the law returns true; each argument reads behind the call as it read before'; 0 by the template 'total and deterministic' (their statements: YtcjiabpfahmjnaaTotals.lean).
  GIVEN WITH THE SEED: the statements are not yours to turn. If you find one false, say at which input.
  Laid BY PROGRAM, IN A SANDBOX (cutbox-rows.mjs): the forced cells as the released guide's own fill.sh prints them over the translation 2c331a6b531089d1… (all of the seat's roots in one cut). By AI agents, Wed Nov 11 2026. No macro, syntax, notation, axiom, sorry.
-/
import Derived.Test.YtcjiabpfahmjnaaChecked
import GoSem.Claim
import GoSem.ClaimJoined
import GoSem.ClaimMapViews
import Derived.JoinedTies
import Derived.KernelRfl
namespace Go.Proofs.Ytcjiabpfahmjnaa
/- THE CELL 'sum', in the pinned program and in every row, IS THE sha256 OF THE DUMP (.gsa) THAT YtcjiabpfahmjnaaProg.lean LOADS. Nothing in Lean hashes anything: it is a label: what it is worth is what the hold of that sum in a sandbox is worth. -/
noncomputable def Try.pinned : Pinned := { name := "ytcjiabpfahmjnaa", sum := "2c331a6b531089d1e62699d55a14fba44b6e26205bc91abf25c5640e45e4e704", checked := Try.checked }
namespace Rows
def none {H : Type} : Left H := { results := [], args := [] }

/-- 'taprootlaw14.FlatLines': WHATEVER THE INPUT: true; the input reads as it did. -/
def flatLinesSpec : ChangeSpec := { name := "flatLines", fn := fun _ => fun
  | [d] => { results := [.lit (.bool true)], args := [d] }
  | _ => none }
def flatLinesRow : OpenClaim := { program := "ytcjiabpfahmjnaa", sum := "2c331a6b531089d1e62699d55a14fba44b6e26205bc91abf25c5640e45e4e704", func := "taproot/taprootlaw14.FlatLines", spec := "flatLines", apart := false }
def FlatLinesSaid : Prop := flatLinesRow.holds Try.pinned (OpenSpec.ofChange flatLinesSpec)

/-- ITS FALSE NEIGHBOUR: 'it returns false'. Refute it at one input. -/
def flatLinesWrong : ChangeSpec := { name := "flatLines", fn := fun _ => fun
  | [d] => { results := [.lit (.bool false)], args := [d] }
  | _ => none }
def FlatLinesWrongFalsely : Prop := flatLinesRow.holds Try.pinned (OpenSpec.ofChange flatLinesWrong)

/-- 'taprootlaw14.FlatGrows': WHATEVER THE INPUT: true; the input reads as it did. -/
def flatGrowsSpec : ChangeSpec := { name := "flatGrows", fn := fun _ => fun
  | [d1, d2, d3] => { results := [.lit (.bool true)], args := [d1, d2, d3] }
  | _ => none }
def flatGrowsRow : OpenClaim := { program := "ytcjiabpfahmjnaa", sum := "2c331a6b531089d1e62699d55a14fba44b6e26205bc91abf25c5640e45e4e704", func := "taproot/taprootlaw14.FlatGrows", spec := "flatGrows", apart := false }
def FlatGrowsSaid : Prop := flatGrowsRow.holds Try.pinned (OpenSpec.ofChange flatGrowsSpec)

/-- ITS FALSE NEIGHBOUR: 'it returns false'. Refute it at one input. -/
def flatGrowsWrong : ChangeSpec := { name := "flatGrows", fn := fun _ => fun
  | [d1, d2, d3] => { results := [.lit (.bool false)], args := [d1, d2, d3] }
  | _ => none }
def FlatGrowsWrongFalsely : Prop := flatGrowsRow.holds Try.pinned (OpenSpec.ofChange flatGrowsWrong)

/-- 'taprootlaw15.LevelKnown': WHATEVER THE INPUT: true; the input reads as it did. -/
def levelKnownSpec : ChangeSpec := { name := "levelKnown", fn := fun _ => fun
  | [] => { results := [.lit (.bool true)], args := [] }
  | _ => none }
def levelKnownRow : OpenClaim := { program := "ytcjiabpfahmjnaa", sum := "2c331a6b531089d1e62699d55a14fba44b6e26205bc91abf25c5640e45e4e704", func := "taproot/taprootlaw15.LevelKnown", spec := "levelKnown", unfollowed := true, recurses := true, apart := false }
def LevelKnownSaid : Prop := levelKnownRow.holds Try.pinned (OpenSpec.ofChange levelKnownSpec)

/-- ITS FALSE NEIGHBOUR: 'it returns false'. Refute it at one input. -/
def levelKnownWrong : ChangeSpec := { name := "levelKnown", fn := fun _ => fun
  | [] => { results := [.lit (.bool false)], args := [] }
  | _ => none }
def LevelKnownWrongFalsely : Prop := levelKnownRow.holds Try.pinned (OpenSpec.ofChange levelKnownWrong)

/-- 'taprootlaw15.LevelSizes': WHATEVER THE INPUT: true; the input reads as it did. -/
def levelSizesSpec : ChangeSpec := { name := "levelSizes", fn := fun _ => fun
  | [d1, d2] => { results := [.lit (.bool true)], args := [d1, d2] }
  | _ => none }
def levelSizesRow : OpenClaim := { program := "ytcjiabpfahmjnaa", sum := "2c331a6b531089d1e62699d55a14fba44b6e26205bc91abf25c5640e45e4e704", func := "taproot/taprootlaw15.LevelSizes", spec := "levelSizes", unfollowed := true, recurses := true, apart := false }
def LevelSizesSaid : Prop := levelSizesRow.holds Try.pinned (OpenSpec.ofChange levelSizesSpec)

/-- ITS FALSE NEIGHBOUR: 'it returns false'. Refute it at one input. -/
def levelSizesWrong : ChangeSpec := { name := "levelSizes", fn := fun _ => fun
  | [d1, d2] => { results := [.lit (.bool false)], args := [d1, d2] }
  | _ => none }
def LevelSizesWrongFalsely : Prop := levelSizesRow.holds Try.pinned (OpenSpec.ofChange levelSizesWrong)

/-- 'taprootlaw14.FlatBack': WHATEVER THE INPUT: true; the input reads as it did. -/
def flatBackSpec : ChangeSpec := { name := "flatBack", fn := fun _ => fun
  | [d1, d2, d3, d4, d5, d6] => { results := [.lit (.bool true)], args := [d1, d2, d3, d4, d5, d6] }
  | _ => none }
def flatBackRow : OpenClaim := { program := "ytcjiabpfahmjnaa", sum := "2c331a6b531089d1e62699d55a14fba44b6e26205bc91abf25c5640e45e4e704", func := "taproot/taprootlaw14.FlatBack", spec := "flatBack", unfollowed := true, recurses := true, apart := false }
def FlatBackSaid : Prop := flatBackRow.holds Try.pinned (OpenSpec.ofChange flatBackSpec)

/-- ITS FALSE NEIGHBOUR: 'it returns false'. Refute it at one input. -/
def flatBackWrong : ChangeSpec := { name := "flatBack", fn := fun _ => fun
  | [d1, d2, d3, d4, d5, d6] => { results := [.lit (.bool false)], args := [d1, d2, d3, d4, d5, d6] }
  | _ => none }
def FlatBackWrongFalsely : Prop := flatBackRow.holds Try.pinned (OpenSpec.ofChange flatBackWrong)

/-- 'taprootlaw15.LevelHolds': WHATEVER THE INPUT: true; the input reads as it did. -/
def levelHoldsSpec : ChangeSpec := { name := "levelHolds", fn := fun _ => fun
  | [d1, d2] => { results := [.lit (.bool true)], args := [d1, d2] }
  | _ => none }
def levelHoldsRow : OpenClaim := { program := "ytcjiabpfahmjnaa", sum := "2c331a6b531089d1e62699d55a14fba44b6e26205bc91abf25c5640e45e4e704", func := "taproot/taprootlaw15.LevelHolds", spec := "levelHolds", unfollowed := true, recurses := true, apart := false }
def LevelHoldsSaid : Prop := levelHoldsRow.holds Try.pinned (OpenSpec.ofChange levelHoldsSpec)

/-- ITS FALSE NEIGHBOUR: 'it returns false'. Refute it at one input. -/
def levelHoldsWrong : ChangeSpec := { name := "levelHolds", fn := fun _ => fun
  | [d1, d2] => { results := [.lit (.bool false)], args := [d1, d2] }
  | _ => none }
def LevelHoldsWrongFalsely : Prop := levelHoldsRow.holds Try.pinned (OpenSpec.ofChange levelHoldsWrong)

/-- 'taprootlaw14.FlatKnown': WHATEVER THE INPUT: true; the input reads as it did. -/
def flatKnownSpec : ChangeSpec := { name := "flatKnown", fn := fun _ => fun
  | [] => { results := [.lit (.bool true)], args := [] }
  | _ => none }
def flatKnownRow : OpenClaim := { program := "ytcjiabpfahmjnaa", sum := "2c331a6b531089d1e62699d55a14fba44b6e26205bc91abf25c5640e45e4e704", func := "taproot/taprootlaw14.FlatKnown", spec := "flatKnown", unfollowed := true, recurses := true, apart := false }
def FlatKnownSaid : Prop := flatKnownRow.holds Try.pinned (OpenSpec.ofChange flatKnownSpec)

/-- ITS FALSE NEIGHBOUR: 'it returns false'. Refute it at one input. -/
def flatKnownWrong : ChangeSpec := { name := "flatKnown", fn := fun _ => fun
  | [] => { results := [.lit (.bool false)], args := [] }
  | _ => none }
def FlatKnownWrongFalsely : Prop := flatKnownRow.holds Try.pinned (OpenSpec.ofChange flatKnownWrong)

/-- 'taprootlaw14.FlatBuilds': WHATEVER THE INPUT: true; the input reads as it did. -/
def flatBuildsSpec : ChangeSpec := { name := "flatBuilds", fn := fun _ => fun
  | [d1, d2, d3] => { results := [.lit (.bool true)], args := [d1, d2, d3] }
  | _ => none }
def flatBuildsRow : OpenClaim := { program := "ytcjiabpfahmjnaa", sum := "2c331a6b531089d1e62699d55a14fba44b6e26205bc91abf25c5640e45e4e704", func := "taproot/taprootlaw14.FlatBuilds", spec := "flatBuilds", unfollowed := true, recurses := true, apart := false }
def FlatBuildsSaid : Prop := flatBuildsRow.holds Try.pinned (OpenSpec.ofChange flatBuildsSpec)

/-- ITS FALSE NEIGHBOUR: 'it returns false'. Refute it at one input. -/
def flatBuildsWrong : ChangeSpec := { name := "flatBuilds", fn := fun _ => fun
  | [d1, d2, d3] => { results := [.lit (.bool false)], args := [d1, d2, d3] }
  | _ => none }
def FlatBuildsWrongFalsely : Prop := flatBuildsRow.holds Try.pinned (OpenSpec.ofChange flatBuildsWrong)

/- THE SECOND FORM. 'bulk': how many values and letters a reading holds, each counted each time it is reached (what is shared counts as often as it is met; a slice's spare places count too). A statement '..UptoSaid' is the law's where the arguments, and the package variables that the reading takes, are together of bulk at most 1048576: NARROWER than '..Said'. Prove '..Said' where nothing that the law and all that it calls make is longer than what came in: it says more and counts as full. Else prove '..UptoSaid'. A law counts once. -/
mutual
def uptoBulk {H : Type} : DataW H → Nat
  | .lit (.string bytes) => bytes.length + 1
  | .lit _ => 1
  | .nil => 1
  | .ptr d => uptoBulk d + 1
  | .slice elems spare => uptoBulkAll elems + uptoBulkAll spare + 1
  | .agg parts => uptoBulkAll parts + 1
  | .iface _ d => uptoBulk d + 1
  | .map entries => uptoBulkEntries entries + 1
  | .held _ => 1
def uptoBulkAll {H : Type} : List (DataW H) → Nat
  | [] => 0
  | d :: r => uptoBulk d + uptoBulkAll r
def uptoBulkEntries {H : Type} : List (Lit × DataW H) → Nat
  | [] => 0
  | x :: r => uptoBulkEntry x + uptoBulkEntries r
def uptoBulkEntry {H : Type} : Lit × DataW H → Nat
  | (.string bytes, d) => bytes.length + uptoBulk d + 1
  | (_, d) => uptoBulk d + 1
 end
def uptoSmall : (H : Type) → List (DataW H) → Bool := fun _ ds => decide (uptoBulkAll ds ≤ 1048576)
def OpenSpec.upto (s : _root_.Go.ChangeSpec) : _root_.Go.OpenSpec := { _root_.Go.OpenSpec.ofChange s with cond := some uptoSmall }

/-- 'taprootlaw14.FlatLines', WHERE WHAT IT READS IS OF BULK AT MOST 1048576: true; the input reads as it did. -/
def flatLinesUptoRow : OpenClaim := { program := "ytcjiabpfahmjnaa", sum := "2c331a6b531089d1e62699d55a14fba44b6e26205bc91abf25c5640e45e4e704", func := "taproot/taprootlaw14.FlatLines", spec := "flatLines", apart := false, narrowed := true }
def FlatLinesUptoSaid : Prop := flatLinesUptoRow.holds Try.pinned (OpenSpec.upto flatLinesSpec)

/-- 'taprootlaw14.FlatGrows', WHERE WHAT IT READS IS OF BULK AT MOST 1048576: true; the input reads as it did. -/
def flatGrowsUptoRow : OpenClaim := { program := "ytcjiabpfahmjnaa", sum := "2c331a6b531089d1e62699d55a14fba44b6e26205bc91abf25c5640e45e4e704", func := "taproot/taprootlaw14.FlatGrows", spec := "flatGrows", apart := false, narrowed := true }
def FlatGrowsUptoSaid : Prop := flatGrowsUptoRow.holds Try.pinned (OpenSpec.upto flatGrowsSpec)

/-- 'taprootlaw15.LevelKnown', WHERE WHAT IT READS IS OF BULK AT MOST 1048576: true; the input reads as it did. -/
def levelKnownUptoRow : OpenClaim := { program := "ytcjiabpfahmjnaa", sum := "2c331a6b531089d1e62699d55a14fba44b6e26205bc91abf25c5640e45e4e704", func := "taproot/taprootlaw15.LevelKnown", spec := "levelKnown", unfollowed := true, recurses := true, apart := false, narrowed := true }
def LevelKnownUptoSaid : Prop := levelKnownUptoRow.holds Try.pinned (OpenSpec.upto levelKnownSpec)

/-- 'taprootlaw15.LevelSizes', WHERE WHAT IT READS IS OF BULK AT MOST 1048576: true; the input reads as it did. -/
def levelSizesUptoRow : OpenClaim := { program := "ytcjiabpfahmjnaa", sum := "2c331a6b531089d1e62699d55a14fba44b6e26205bc91abf25c5640e45e4e704", func := "taproot/taprootlaw15.LevelSizes", spec := "levelSizes", unfollowed := true, recurses := true, apart := false, narrowed := true }
def LevelSizesUptoSaid : Prop := levelSizesUptoRow.holds Try.pinned (OpenSpec.upto levelSizesSpec)

/-- 'taprootlaw14.FlatBack', WHERE WHAT IT READS IS OF BULK AT MOST 1048576: true; the input reads as it did. -/
def flatBackUptoRow : OpenClaim := { program := "ytcjiabpfahmjnaa", sum := "2c331a6b531089d1e62699d55a14fba44b6e26205bc91abf25c5640e45e4e704", func := "taproot/taprootlaw14.FlatBack", spec := "flatBack", unfollowed := true, recurses := true, apart := false, narrowed := true }
def FlatBackUptoSaid : Prop := flatBackUptoRow.holds Try.pinned (OpenSpec.upto flatBackSpec)

/-- 'taprootlaw15.LevelHolds', WHERE WHAT IT READS IS OF BULK AT MOST 1048576: true; the input reads as it did. -/
def levelHoldsUptoRow : OpenClaim := { program := "ytcjiabpfahmjnaa", sum := "2c331a6b531089d1e62699d55a14fba44b6e26205bc91abf25c5640e45e4e704", func := "taproot/taprootlaw15.LevelHolds", spec := "levelHolds", unfollowed := true, recurses := true, apart := false, narrowed := true }
def LevelHoldsUptoSaid : Prop := levelHoldsUptoRow.holds Try.pinned (OpenSpec.upto levelHoldsSpec)

/-- 'taprootlaw14.FlatKnown', WHERE WHAT IT READS IS OF BULK AT MOST 1048576: true; the input reads as it did. -/
def flatKnownUptoRow : OpenClaim := { program := "ytcjiabpfahmjnaa", sum := "2c331a6b531089d1e62699d55a14fba44b6e26205bc91abf25c5640e45e4e704", func := "taproot/taprootlaw14.FlatKnown", spec := "flatKnown", unfollowed := true, recurses := true, apart := false, narrowed := true }
def FlatKnownUptoSaid : Prop := flatKnownUptoRow.holds Try.pinned (OpenSpec.upto flatKnownSpec)

/-- 'taprootlaw14.FlatBuilds', WHERE WHAT IT READS IS OF BULK AT MOST 1048576: true; the input reads as it did. -/
def flatBuildsUptoRow : OpenClaim := { program := "ytcjiabpfahmjnaa", sum := "2c331a6b531089d1e62699d55a14fba44b6e26205bc91abf25c5640e45e4e704", func := "taproot/taprootlaw14.FlatBuilds", spec := "flatBuilds", unfollowed := true, recurses := true, apart := false, narrowed := true }
def FlatBuildsUptoSaid : Prop := flatBuildsUptoRow.holds Try.pinned (OpenSpec.upto flatBuildsSpec)

end Rows
end Go.Proofs.Ytcjiabpfahmjnaa
