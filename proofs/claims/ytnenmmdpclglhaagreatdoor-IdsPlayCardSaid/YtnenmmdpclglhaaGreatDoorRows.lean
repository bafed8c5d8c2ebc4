/-
  NARROWER THAN 'FOR EVERY INPUT', by the rows' own cells (each row's printed sentence says how): IdsStrips: laid · IdsKnown: laid · IdsPlay: laid.
  DERIVED. THE GIVEN ROWS OF THIS SEAT. 3 by the template 'for every input the law returns true; each argument reads behind the call as it read before'; 0 by the template 'total and deterministic' (their statements: YtnenmmdpclglhaaGreatDoorTotals.lean).
  GIVEN WITH THE SEED: the statements are not yours to turn. If you find one false, say at which input.
  Laid BY PROGRAM, IN A SANDBOX (cutbox-rows.mjs): the forced cells as the released guide's own fill.sh prints them over the translation d045c739373667f8… (all of the seat's roots in one cut). By AI agents, Wed Nov 11 2026. No macro, syntax, notation, axiom, sorry.
-/
import Derived.Test.YtnenmmdpclglhaaGreatDoorChecked
import GoSem.Claim
import GoSem.ClaimJoined
import GoSem.ClaimMapViews
import Derived.JoinedTies
import Derived.KernelRfl
namespace Go.Proofs.YtnenmmdpclglhaaGreatDoor
/- THE CELL 'sum', in the pinned program and in every row, IS THE sha256 OF THE DUMP (.gsa) THAT YtnenmmdpclglhaaGreatDoorProg.lean LOADS. Nothing in Lean hashes anything: it is a label: what it is worth is what the hold of that sum in a sandbox is worth. -/
noncomputable def Tryz.pinned : Pinned := { name := "ytnenmmdpclglhaagreatdoor", sum := "d045c739373667f8b8d1934b3ac09f4f5f31ca172cdc4ae56d069b2e6e0255d6", checked := Tryz.checked }
namespace Rows
def none {H : Type} : Left H := { results := [], args := [] }

/- WHAT THE LISTED PACKAGE-LEVEL VARIABLES READ AS WHEN THE CALL BEGINS. Each datum BY PROGRAM (the guide's laid-datum.mjs) off the statement by which the dump's own 'gosem.cut.vars' lays the variable. In a bare row this is a premise. The card (YtnenmmdpclglhaaGreatDoorCards.lean) ties it to the program's text. -/
def laid_errors_errorType {H : Type} : DataW H := .iface "internal/reflectlite.rtype" (.agg [.ptr (.lit (.string [101, 114, 114, 111, 114]))])

/-- 'taprootlaw13.IdsStrips': WHATEVER THE INPUT: true; the input reads as it did. -/
def idsStripsSpec : ChangeSpec := { name := "idsStrips", fn := fun _ => fun
  | [d1, d2] => { results := [.lit (.bool true)], args := [d1, d2] }
  | _ => none }
def idsStripsRow : OpenClaim := { program := "ytnenmmdpclglhaagreatdoor", sum := "d045c739373667f8b8d1934b3ac09f4f5f31ca172cdc4ae56d069b2e6e0255d6", func := "taproot/taprootlaw13.IdsStrips", spec := "idsStrips", inPlace := ["internal/bytealg.Compare", "maps.clone", "internal/reflectlite.ValueOf", "(internal/reflectlite.Value).Type", "(internal/reflectlite.Value).IsNil", "internal/reflectlite.TypeOf", "(internal/reflectlite.Value).Elem", "(internal/reflectlite.Value).Set"], unfollowed := true, recurses := true, named := ["errors.errorType"], plainKeys := false, apart := false, laid := [("errors.errorType", laid_errors_errorType)] }
def IdsStripsSaid : Prop := idsStripsRow.holds Tryz.pinned (OpenSpec.ofChange idsStripsSpec)

/-- ITS FALSE NEIGHBOUR: 'it returns false'. Refute it at one input. -/
def idsStripsWrong : ChangeSpec := { name := "idsStrips", fn := fun _ => fun
  | [d1, d2] => { results := [.lit (.bool false)], args := [d1, d2] }
  | _ => none }
def IdsStripsWrongFalsely : Prop := idsStripsRow.holds Tryz.pinned (OpenSpec.ofChange idsStripsWrong)

/-- 'taprootlaw13.IdsKnown': WHATEVER THE INPUT: true; the input reads as it did. -/
def idsKnownSpec : ChangeSpec := { name := "idsKnown", fn := fun _ => fun
  | [] => { results := [.lit (.bool true)], args := [] }
  | _ => none }
def idsKnownRow : OpenClaim := { program := "ytnenmmdpclglhaagreatdoor", sum := "d045c739373667f8b8d1934b3ac09f4f5f31ca172cdc4ae56d069b2e6e0255d6", func := "taproot/taprootlaw13.IdsKnown", spec := "idsKnown", inPlace := ["internal/bytealg.Compare", "maps.clone", "internal/reflectlite.ValueOf", "(internal/reflectlite.Value).Type", "(internal/reflectlite.Value).IsNil", "internal/reflectlite.TypeOf", "(internal/reflectlite.Value).Elem", "(internal/reflectlite.Value).Set"], unfollowed := true, recurses := true, named := ["errors.errorType"], plainKeys := false, apart := false, laid := [("errors.errorType", laid_errors_errorType)] }
def IdsKnownSaid : Prop := idsKnownRow.holds Tryz.pinned (OpenSpec.ofChange idsKnownSpec)

/-- ITS FALSE NEIGHBOUR: 'it returns false'. Refute it at one input. -/
def idsKnownWrong : ChangeSpec := { name := "idsKnown", fn := fun _ => fun
  | [] => { results := [.lit (.bool false)], args := [] }
  | _ => none }
def IdsKnownWrongFalsely : Prop := idsKnownRow.holds Tryz.pinned (OpenSpec.ofChange idsKnownWrong)

/-- 'taprootlaw13.IdsPlay': WHATEVER THE INPUT: true; the input reads as it did. -/
def idsPlaySpec : ChangeSpec := { name := "idsPlay", fn := fun _ => fun
  | [d1, d2] => { results := [.lit (.bool true)], args := [d1, d2] }
  | _ => none }
def idsPlayRow : OpenClaim := { program := "ytnenmmdpclglhaagreatdoor", sum := "d045c739373667f8b8d1934b3ac09f4f5f31ca172cdc4ae56d069b2e6e0255d6", func := "taproot/taprootlaw13.IdsPlay", spec := "idsPlay", inPlace := ["internal/bytealg.Compare", "maps.clone", "internal/reflectlite.ValueOf", "(internal/reflectlite.Value).Type", "(internal/reflectlite.Value).IsNil", "internal/reflectlite.TypeOf", "(internal/reflectlite.Value).Elem", "(internal/reflectlite.Value).Set"], unfollowed := true, recurses := true, named := ["errors.errorType"], plainKeys := false, apart := false, laid := [("errors.errorType", laid_errors_errorType)] }
def IdsPlaySaid : Prop := idsPlayRow.holds Tryz.pinned (OpenSpec.ofChange idsPlaySpec)

/-- ITS FALSE NEIGHBOUR: 'it returns false'. Refute it at one input. -/
def idsPlayWrong : ChangeSpec := { name := "idsPlay", fn := fun _ => fun
  | [d1, d2] => { results := [.lit (.bool false)], args := [d1, d2] }
  | _ => none }
def IdsPlayWrongFalsely : Prop := idsPlayRow.holds Tryz.pinned (OpenSpec.ofChange idsPlayWrong)

/- THE SECOND FORM. 'bulk': how many values and letters a reading holds, each counted each time it is reached (what is shared counts as often as it is met; a slice's spare places count too). A statement '..UptoSaid' is the law's where the arguments, and the package variables that the reading takes, are together of bulk at most 1048576: NARROWER than '..Said'. Prove '..Said' where nothing that the law and all that it calls make is longer than what came in: it says more and counts as full. Else prove '..UptoSaid'. A law counts once. -/
mutual
def uptoBulk {H : Type} : DataW H → Nat
  | .lit (.string bytes) => bytes.length + 1
  | .lit _ => 1
  | .nil => 1
  | .ptr d => uptoBulk d + 1
  | .slice elems spare => uptoBulkAll elems + uptoBulkAll spare + 1
  | .agg parts => uptoBulkAll parts + 1
  | .iface _ d => uptoBulk d + 1
  | .map entries => uptoBulkEntries entries + 1
  | .held _ => 1
def uptoBulkAll {H : Type} : List (DataW H) → Nat
  | [] => 0
  | d :: r => uptoBulk d + uptoBulkAll r
def uptoBulkEntries {H : Type} : List (Lit × DataW H) → Nat
  | [] => 0
  | x :: r => uptoBulkEntry x + uptoBulkEntries r
def uptoBulkEntry {H : Type} : Lit × DataW H → Nat
  | (.string bytes, d) => bytes.length + uptoBulk d + 1
  | (_, d) => uptoBulk d + 1
 end
def uptoSmall : (H : Type) → List (DataW H) → Bool := fun _ ds => decide (uptoBulkAll ds ≤ 1048576)
def OpenSpec.upto (s : _root_.Go.ChangeSpec) : _root_.Go.OpenSpec := { _root_.Go.OpenSpec.ofChange s with cond := some uptoSmall }

/-- 'taprootlaw13.IdsStrips', WHERE WHAT IT READS IS OF BULK AT MOST 1048576: true; the input reads as it did. -/
def idsStripsUptoRow : OpenClaim := { program := "ytnenmmdpclglhaagreatdoor", sum := "d045c739373667f8b8d1934b3ac09f4f5f31ca172cdc4ae56d069b2e6e0255d6", func := "taproot/taprootlaw13.IdsStrips", spec := "idsStrips", inPlace := ["internal/bytealg.Compare", "maps.clone", "internal/reflectlite.ValueOf", "(internal/reflectlite.Value).Type", "(internal/reflectlite.Value).IsNil", "internal/reflectlite.TypeOf", "(internal/reflectlite.Value).Elem", "(internal/reflectlite.Value).Set"], unfollowed := true, recurses := true, named := ["errors.errorType"], plainKeys := false, apart := false, laid := [("errors.errorType", laid_errors_errorType)], narrowed := true }
def IdsStripsUptoSaid : Prop := idsStripsUptoRow.holds Tryz.pinned (OpenSpec.upto idsStripsSpec)

/-- 'taprootlaw13.IdsKnown', WHERE WHAT IT READS IS OF BULK AT MOST 1048576: true; the input reads as it did. -/
def idsKnownUptoRow : OpenClaim := { program := "ytnenmmdpclglhaagreatdoor", sum := "d045c739373667f8b8d1934b3ac09f4f5f31ca172cdc4ae56d069b2e6e0255d6", func := "taproot/taprootlaw13.IdsKnown", spec := "idsKnown", inPlace := ["internal/bytealg.Compare", "maps.clone", "internal/reflectlite.ValueOf", "(internal/reflectlite.Value).Type", "(internal/reflectlite.Value).IsNil", "internal/reflectlite.TypeOf", "(internal/reflectlite.Value).Elem", "(internal/reflectlite.Value).Set"], unfollowed := true, recurses := true, named := ["errors.errorType"], plainKeys := false, apart := false, laid := [("errors.errorType", laid_errors_errorType)], narrowed := true }
def IdsKnownUptoSaid : Prop := idsKnownUptoRow.holds Tryz.pinned (OpenSpec.upto idsKnownSpec)

/-- 'taprootlaw13.IdsPlay', WHERE WHAT IT READS IS OF BULK AT MOST 1048576: true; the input reads as it did. -/
def idsPlayUptoRow : OpenClaim := { program := "ytnenmmdpclglhaagreatdoor", sum := "d045c739373667f8b8d1934b3ac09f4f5f31ca172cdc4ae56d069b2e6e0255d6", func := "taproot/taprootlaw13.IdsPlay", spec := "idsPlay", inPlace := ["internal/bytealg.Compare", "maps.clone", "internal/reflectlite.ValueOf", "(internal/reflectlite.Value).Type", "(internal/reflectlite.Value).IsNil", "internal/reflectlite.TypeOf", "(internal/reflectlite.Value).Elem", "(internal/reflectlite.Value).Set"], unfollowed := true, recurses := true, named := ["errors.errorType"], plainKeys := false, apart := false, laid := [("errors.errorType", laid_errors_errorType)], narrowed := true }
def IdsPlayUptoSaid : Prop := idsPlayUptoRow.holds Tryz.pinned (OpenSpec.upto idsPlaySpec)

end Rows
end Go.Proofs.YtnenmmdpclglhaaGreatDoor
