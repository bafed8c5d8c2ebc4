/-
  No cell of these rows narrows 'for every input' (looked for: loops, veiled, ifaces, maps, wideKeys, modest, calm, conditions, laid).
  DERIVED. THE GIVEN ROWS OF THIS SEAT. 5 by the template 'for every input the law returns true; each argument reads behind the call as it read before'; 0 by the template 'total and deterministic' (their statements: YthidcccnjplafaaTotals.lean).
  GIVEN WITH THE SEED: the statements are not yours to turn. If you find one false, say at which input.
  Laid BY PROGRAM, IN A SANDBOX (cutbox-rows.mjs): the forced cells as the released guide's own fill.sh prints them over the translation 3923fa62dba00451… (all of the seat's roots in one cut). By AI agents, Wed Nov 11 2026. No macro, syntax, notation, axiom, sorry.
-/
import Derived.Test.YthidcccnjplafaaChecked
import GoSem.Claim
import GoSem.ClaimJoined
import GoSem.ClaimMapViews
import Derived.JoinedTies
import Derived.KernelRfl
namespace Go.Proofs.Ythidcccnjplafaa
/- THE CELL 'sum', in the pinned program and in every row, IS THE sha256 OF THE DUMP (.gsa) THAT YthidcccnjplafaaProg.lean LOADS. Nothing in Lean hashes anything: it is a label: what it is worth is what the hold of that sum in a sandbox is worth. -/
noncomputable def Try.pinned : Pinned := { name := "ythidcccnjplafaa", sum := "3923fa62dba00451e4aaee44fa7bcd2c8f5d00339a6fc310407500cb703bbaa7", checked := Try.checked }
namespace Rows
def none {H : Type} : Left H := { results := [], args := [] }

/-- 'taprootlaw16.AskSteps': WHATEVER THE INPUT: true; the input reads as it did. -/
def askStepsSpec : ChangeSpec := { name := "askSteps", fn := fun _ => fun
  | [d1, d2, d3] => { results := [.lit (.bool true)], args := [d1, d2, d3] }
  | _ => none }
def askStepsRow : OpenClaim := { program := "ythidcccnjplafaa", sum := "3923fa62dba00451e4aaee44fa7bcd2c8f5d00339a6fc310407500cb703bbaa7", func := "taproot/taprootlaw16.AskSteps", spec := "askSteps", unfollowed := true, recurses := true, apart := false }
def AskStepsSaid : Prop := askStepsRow.holds Try.pinned (OpenSpec.ofChange askStepsSpec)

/-- ITS FALSE NEIGHBOUR: 'it returns false'. Refute it at one input. -/
def askStepsWrong : ChangeSpec := { name := "askSteps", fn := fun _ => fun
  | [d1, d2, d3] => { results := [.lit (.bool false)], args := [d1, d2, d3] }
  | _ => none }
def AskStepsWrongFalsely : Prop := askStepsRow.holds Try.pinned (OpenSpec.ofChange askStepsWrong)

/-- 'taprootlaw16.AskLevels': WHATEVER THE INPUT: true; the input reads as it did. -/
def askLevelsSpec : ChangeSpec := { name := "askLevels", fn := fun _ => fun
  | [d1, d2] => { results := [.lit (.bool true)], args := [d1, d2] }
  | _ => none }
def askLevelsRow : OpenClaim := { program := "ythidcccnjplafaa", sum := "3923fa62dba00451e4aaee44fa7bcd2c8f5d00339a6fc310407500cb703bbaa7", func := "taproot/taprootlaw16.AskLevels", spec := "askLevels", unfollowed := true, recurses := true, apart := false }
def AskLevelsSaid : Prop := askLevelsRow.holds Try.pinned (OpenSpec.ofChange askLevelsSpec)

/-- ITS FALSE NEIGHBOUR: 'it returns false'. Refute it at one input. -/
def askLevelsWrong : ChangeSpec := { name := "askLevels", fn := fun _ => fun
  | [d1, d2] => { results := [.lit (.bool false)], args := [d1, d2] }
  | _ => none }
def AskLevelsWrongFalsely : Prop := askLevelsRow.holds Try.pinned (OpenSpec.ofChange askLevelsWrong)

/-- 'taprootlaw16.AskLaws': WHATEVER THE INPUT: true; the input reads as it did. -/
def askLawsSpec : ChangeSpec := { name := "askLaws", fn := fun _ => fun
  | [d1, d2, d3, d4] => { results := [.lit (.bool true)], args := [d1, d2, d3, d4] }
  | _ => none }
def askLawsRow : OpenClaim := { program := "ythidcccnjplafaa", sum := "3923fa62dba00451e4aaee44fa7bcd2c8f5d00339a6fc310407500cb703bbaa7", func := "taproot/taprootlaw16.AskLaws", spec := "askLaws", unfollowed := true, recurses := true, apart := false }
def AskLawsSaid : Prop := askLawsRow.holds Try.pinned (OpenSpec.ofChange askLawsSpec)

/-- ITS FALSE NEIGHBOUR: 'it returns false'. Refute it at one input. -/
def askLawsWrong : ChangeSpec := { name := "askLaws", fn := fun _ => fun
  | [d1, d2, d3, d4] => { results := [.lit (.bool false)], args := [d1, d2, d3, d4] }
  | _ => none }
def AskLawsWrongFalsely : Prop := askLawsRow.holds Try.pinned (OpenSpec.ofChange askLawsWrong)

/-- 'taprootlaw16.AskEnds': WHATEVER THE INPUT: true; the input reads as it did. -/
def askEndsSpec : ChangeSpec := { name := "askEnds", fn := fun _ => fun
  | [d1, d2, d3, d4] => { results := [.lit (.bool true)], args := [d1, d2, d3, d4] }
  | _ => none }
def askEndsRow : OpenClaim := { program := "ythidcccnjplafaa", sum := "3923fa62dba00451e4aaee44fa7bcd2c8f5d00339a6fc310407500cb703bbaa7", func := "taproot/taprootlaw16.AskEnds", spec := "askEnds", unfollowed := true, recurses := true, apart := false }
def AskEndsSaid : Prop := askEndsRow.holds Try.pinned (OpenSpec.ofChange askEndsSpec)

/-- ITS FALSE NEIGHBOUR: 'it returns false'. Refute it at one input. -/
def askEndsWrong : ChangeSpec := { name := "askEnds", fn := fun _ => fun
  | [d1, d2, d3, d4] => { results := [.lit (.bool false)], args := [d1, d2, d3, d4] }
  | _ => none }
def AskEndsWrongFalsely : Prop := askEndsRow.holds Try.pinned (OpenSpec.ofChange askEndsWrong)

/-- 'taprootlaw16.AskKnown': WHATEVER THE INPUT: true; the input reads as it did. -/
def askKnownSpec : ChangeSpec := { name := "askKnown", fn := fun _ => fun
  | [] => { results := [.lit (.bool true)], args := [] }
  | _ => none }
def askKnownRow : OpenClaim := { program := "ythidcccnjplafaa", sum := "3923fa62dba00451e4aaee44fa7bcd2c8f5d00339a6fc310407500cb703bbaa7", func := "taproot/taprootlaw16.AskKnown", spec := "askKnown", unfollowed := true, recurses := true, apart := false }
def AskKnownSaid : Prop := askKnownRow.holds Try.pinned (OpenSpec.ofChange askKnownSpec)

/-- ITS FALSE NEIGHBOUR: 'it returns false'. Refute it at one input. -/
def askKnownWrong : ChangeSpec := { name := "askKnown", fn := fun _ => fun
  | [] => { results := [.lit (.bool false)], args := [] }
  | _ => none }
def AskKnownWrongFalsely : Prop := askKnownRow.holds Try.pinned (OpenSpec.ofChange askKnownWrong)

/- THE SECOND FORM. 'bulk': how many values and letters a reading holds, each counted each time it is reached (what is shared counts as often as it is met; a slice's spare places count too). A statement '..UptoSaid' is the law's where the arguments, and the package variables that the reading takes, are together of bulk at most 1048576: NARROWER than '..Said'. Prove '..Said' where nothing that the law and all that it calls make is longer than what came in: it says more and counts as full. Else prove '..UptoSaid'. A law counts once. -/
mutual
def uptoBulk {H : Type} : DataW H → Nat
  | .lit (.string bytes) => bytes.length + 1
  | .lit _ => 1
  | .nil => 1
  | .ptr d => uptoBulk d + 1
  | .slice elems spare => uptoBulkAll elems + uptoBulkAll spare + 1
  | .agg parts => uptoBulkAll parts + 1
  | .iface _ d => uptoBulk d + 1
  | .map entries => uptoBulkEntries entries + 1
  | .held _ => 1
def uptoBulkAll {H : Type} : List (DataW H) → Nat
  | [] => 0
  | d :: r => uptoBulk d + uptoBulkAll r
def uptoBulkEntries {H : Type} : List (Lit × DataW H) → Nat
  | [] => 0
  | x :: r => uptoBulkEntry x + uptoBulkEntries r
def uptoBulkEntry {H : Type} : Lit × DataW H → Nat
  | (.string bytes, d) => bytes.length + uptoBulk d + 1
  | (_, d) => uptoBulk d + 1
 end
def uptoSmall : (H : Type) → List (DataW H) → Bool := fun _ ds => decide (uptoBulkAll ds ≤ 1048576)
def OpenSpec.upto (s : _root_.Go.ChangeSpec) : _root_.Go.OpenSpec := { _root_.Go.OpenSpec.ofChange s with cond := some uptoSmall }

/-- 'taprootlaw16.AskSteps', WHERE WHAT IT READS IS OF BULK AT MOST 1048576: true; the input reads as it did. -/
def askStepsUptoRow : OpenClaim := { program := "ythidcccnjplafaa", sum := "3923fa62dba00451e4aaee44fa7bcd2c8f5d00339a6fc310407500cb703bbaa7", func := "taproot/taprootlaw16.AskSteps", spec := "askSteps", unfollowed := true, recurses := true, apart := false, narrowed := true }
def AskStepsUptoSaid : Prop := askStepsUptoRow.holds Try.pinned (OpenSpec.upto askStepsSpec)

/-- 'taprootlaw16.AskLevels', WHERE WHAT IT READS IS OF BULK AT MOST 1048576: true; the input reads as it did. -/
def askLevelsUptoRow : OpenClaim := { program := "ythidcccnjplafaa", sum := "3923fa62dba00451e4aaee44fa7bcd2c8f5d00339a6fc310407500cb703bbaa7", func := "taproot/taprootlaw16.AskLevels", spec := "askLevels", unfollowed := true, recurses := true, apart := false, narrowed := true }
def AskLevelsUptoSaid : Prop := askLevelsUptoRow.holds Try.pinned (OpenSpec.upto askLevelsSpec)

/-- 'taprootlaw16.AskLaws', WHERE WHAT IT READS IS OF BULK AT MOST 1048576: true; the input reads as it did. -/
def askLawsUptoRow : OpenClaim := { program := "ythidcccnjplafaa", sum := "3923fa62dba00451e4aaee44fa7bcd2c8f5d00339a6fc310407500cb703bbaa7", func := "taproot/taprootlaw16.AskLaws", spec := "askLaws", unfollowed := true, recurses := true, apart := false, narrowed := true }
def AskLawsUptoSaid : Prop := askLawsUptoRow.holds Try.pinned (OpenSpec.upto askLawsSpec)

/-- 'taprootlaw16.AskEnds', WHERE WHAT IT READS IS OF BULK AT MOST 1048576: true; the input reads as it did. -/
def askEndsUptoRow : OpenClaim := { program := "ythidcccnjplafaa", sum := "3923fa62dba00451e4aaee44fa7bcd2c8f5d00339a6fc310407500cb703bbaa7", func := "taproot/taprootlaw16.AskEnds", spec := "askEnds", unfollowed := true, recurses := true, apart := false, narrowed := true }
def AskEndsUptoSaid : Prop := askEndsUptoRow.holds Try.pinned (OpenSpec.upto askEndsSpec)

/-- 'taprootlaw16.AskKnown', WHERE WHAT IT READS IS OF BULK AT MOST 1048576: true; the input reads as it did. -/
def askKnownUptoRow : OpenClaim := { program := "ythidcccnjplafaa", sum := "3923fa62dba00451e4aaee44fa7bcd2c8f5d00339a6fc310407500cb703bbaa7", func := "taproot/taprootlaw16.AskKnown", spec := "askKnown", unfollowed := true, recurses := true, apart := false, narrowed := true }
def AskKnownUptoSaid : Prop := askKnownUptoRow.holds Try.pinned (OpenSpec.upto askKnownSpec)

end Rows
end Go.Proofs.Ythidcccnjplafaa
