/- The law OrderWalks is true, whatever its arguments: what they read as is taken without memory; the law's call is pure over that. -/
import Derived.Test.YtgkglnjmiobdmaaP14
import Derived.Test.YtgkglnjmiobdmaaP6
import Derived.Test.YtgkglnjmiobdmaaRows
import Derived.WalkKit
import Derived.ProofKit
import Derived.OpenShut
namespace Go.Proofs.Ytgkglnjmiobdmaa.orderWalks
open Go.ChangeShapes Go.WideShapes Go.ChangeAt Go.RowKit
set_option linter.unusedVariables false

theorem own : ownKnob Try.prog.godebug = none := by kernel_rfl
theorem laid : laidOutB Try.prog = true := by kernel_rfl

set_option maxRecDepth 100000 in
theorem lifted (os : Os) (started : os.Started) (H : Type) (enc : TypeId × Value → H) :
    ReturnsInHanded {} Try.checked os 5 .any (Rows.orderWalksSpec.pre6 enc Try.prog Try.f5 Rows.orderWalksRow.domain false) (Rows.orderWalksSpec.post enc Try.prog Try.f5 false true false false) := by
  refine returnsInHanded_of_change (C := Try.checked) own started (by kernel_rfl) Try.func5
    (ChangeSpec.witness6 (enc := enc) (C := Try.checked) false ⟨#[], #[.slice none 0 0, .slice none 0 0, .slice none 0 0, .slice none 0 0], []⟩ 8 (by kernel_rfl) (by kernel_rfl) (by kernel_rfl) (by kernel_rfl)) ?_
  intro W base args ds gs before hval0 hW hcnd _
  have hval : ∀ (j : Nat) t v, Try.f5.params[j]? = some t → args[j]? = some v → Value.okWide Try.prog W .any base t v := hval0
  have hW' := hW
  obtain ⟨p, q, hA0, hV, rfl, hfz, hnd⟩ := hW
  have hA : DataW.TrodAll enc Try.prog W 0 (fun _ => true) true Try.f5.params.toList args.toList ds p := hA0
  skip
  rw [Try.params5] at hA hval
  clear hA0 hval0
  obtain ⟨v0, v1, v2, v3, d0, d1, d2, d3, q0, q1, q2, q3, rfl, rfl, rfl, h0, h1, h2, h3⟩ := trodAll_four hA
  obtain ⟨rfl, rfl⟩ := trodVars_none hV
  simp only [List.append_nil] at hW'
  have hlt : ∀ x : MemPlace, x ∈ _ → x.block < W.heap.size := fun x hx => by simpa using hW'.lt x hx
  obtain ⟨g0, e0, k0⟩ := Gv.arg_read (S := .slice Gv.Try.rrS) (by kernel_rfl) (hval 0 41 v0 rfl rfl) h0
  obtain ⟨g1, e1, k1⟩ := Gv.arg_read (S := .slice (.int .i64)) (by kernel_rfl) (hval 1 42 v1 rfl rfl) h1
  obtain ⟨g2, e2, k2⟩ := Gv.arg_read (S := .slice (.int .i64)) (by kernel_rfl) (hval 2 42 v2 rfl rfl) h2
  obtain ⟨g3, e3, k3⟩ := Gv.arg_read (S := .slice (.int .i64)) (by kernel_rfl) (hval 3 42 v3 rfl rfl) h3
  have call := Gv.GPure.lawAt (args := #[v0, v1, v2, v3]) (Gv.Try.wWalks e0 e1 e2 e3) (Gv.ArgsR.append (Gv.ArgsR.append (Gv.ArgsR.append (Gv.ArgsR.one k0) (Gv.ArgsR.one k1)) (Gv.ArgsR.one k2)) (Gv.ArgsR.one k3))
  refine call.mono fun e W' ⟨he, hg⟩ => ?_
  subst he
  have st0 : ∀ sp : Nat → Bool, (∀ x : MemPlace, x ∈ _ → sp x.block = true) → DataW.Trod enc Try.prog W' 0 sp true 41 v0 d0 q0 := fun sp hsp =>
    Gv.Old.trod laid (by kernel_rfl) (of_decide_eq_true (by kernel_rfl)) hg h0 (fun x hx => hlt x (by first | exact hx | simp [hx])) (fun x hx => hsp x hx)
  have st1 : ∀ sp : Nat → Bool, (∀ x : MemPlace, x ∈ _ → sp x.block = true) → DataW.Trod enc Try.prog W' 0 sp true 42 v1 d1 q1 := fun sp hsp =>
    Gv.Old.trod laid (by kernel_rfl) (of_decide_eq_true (by kernel_rfl)) hg h1 (fun x hx => hlt x (by first | exact hx | simp [hx])) (fun x hx => hsp x hx)
  have st2 : ∀ sp : Nat → Bool, (∀ x : MemPlace, x ∈ _ → sp x.block = true) → DataW.Trod enc Try.prog W' 0 sp true 42 v2 d2 q2 := fun sp hsp =>
    Gv.Old.trod laid (by kernel_rfl) (of_decide_eq_true (by kernel_rfl)) hg h2 (fun x hx => hlt x (by first | exact hx | simp [hx])) (fun x hx => hsp x hx)
  have st3 : ∀ sp : Nat → Bool, (∀ x : MemPlace, x ∈ _ → sp x.block = true) → DataW.Trod enc Try.prog W' 0 sp true 42 v3 d3 q3 := fun sp hsp =>
    Gv.Old.trod laid (by kernel_rfl) (of_decide_eq_true (by kernel_rfl)) hg h3 (fun x hx => hlt x (by first | exact hx | simp [hx])) (fun x hx => hsp x hx)
  exact ⟨_, rfl, Gv.post_of_old (pa := _) (pv := []) hW' (fun _ _ _ => (trodAll_cons_mk (shut_bool Try.underlying4 _) trodAll_mk0)) (fun sp hsp => (trodAll_cons_mk (st0 sp (fun x hx => hsp x (by first | exact hx | simp [hx]))) (trodAll_cons_mk (st1 sp (fun x hx => hsp x (by first | exact hx | simp [hx]))) (trodAll_cons_mk (st2 sp (fun x hx => hsp x (by first | exact hx | simp [hx]))) (trodAll_cons_mk (st3 sp (fun x hx => hsp x (by first | exact hx | simp [hx]))) trodAll_mk0))))) (fun _ _ => rfl) (by simp)
    hg (ok_one (by kernel_rfl) rfl (okWide_bool_mk Try.underlying4 _))⟩

theorem over : Rows.orderWalksRow.holds Try.pinned (OpenSpec.ofChange Rows.orderWalksSpec) :=
  OpenClaim.holds_of_wide 5 Try.f5 rfl rfl rfl rfl rfl rfl rfl ⟨rfl, rfl, rfl, rfl, rfl⟩ rfl rfl rfl rfl rfl (by kernel_rfl) Try.func5 (by kernel_rfl)
    (of_decide_eq_true (by kernel_rfl)) (by unfold Func.isWrapper; first | (rw [if_pos (by decide +kernel)]; kernel_rfl) | (rw [if_neg (by decide +kernel)]; exact ⟨rfl, rfl⟩))
    (fun os started H enc _ => lifted os started H enc)

theorem proved : Rows.OrderWalksSaid :=
  over
#print axioms proved
end Go.Proofs.Ytgkglnjmiobdmaa.orderWalks
