/- The law AskTells is true, whatever its arguments: what they read as is taken without memory; the law's call is pure over that. -/
import Derived.Test.YthidcccnjplafaaGreatWAskTz
import Derived.Test.YthidcccnjplafaaGreatP15
import Derived.Test.YthidcccnjplafaaGreatRows
import Derived.WalkKit
import Derived.ProofKit
import Derived.OpenShut
namespace Go.Proofs.YthidcccnjplafaaGreat.askTells
open Go.ChangeShapes Go.WideShapes Go.ChangeAt Go.RowKit
set_option linter.unusedVariables false

theorem own : ownKnob Tryz.prog.godebug = none := by kernel_rfl
theorem laid : laidOutB Tryz.prog = true := by kernel_rfl

set_option maxRecDepth 100000 in
theorem lifted (os : Os) (started : os.Started) (H : Type) (enc : TypeId × Value → H) :
    ReturnsInHanded {} Tryz.checked os 3 .any (Rows.askTellsSpec.pre6 enc Tryz.prog Tryz.f3 Rows.askTellsRow.domain false) (Rows.askTellsSpec.post enc Tryz.prog Tryz.f3 false true false false) := by
  refine returnsInHanded_of_change (C := Tryz.checked) own started (by kernel_rfl) Tryz.func3
    (ChangeSpec.witness6 (enc := enc) (C := Tryz.checked) false ⟨#[], #[.agg #[.slice none 0 0, .slice none 0 0], .int .i64 0, .slice none 0 0, .slice none 0 0, .bool false], []⟩ 8 (by kernel_rfl) (by kernel_rfl) (by kernel_rfl) (by kernel_rfl)) ?_
  intro W base args ds gs before hval0 hW hcnd _
  have hval : ∀ (j : Nat) t v, Tryz.f3.params[j]? = some t → args[j]? = some v → Value.okWide Tryz.prog W .any base t v := hval0
  have hW' := hW
  obtain ⟨p, q, hA0, hV, rfl, hfz, hnd⟩ := hW
  have hA : DataW.TrodAll enc Tryz.prog W 0 (fun _ => true) true Tryz.f3.params.toList args.toList ds p := hA0
  skip
  rw [Tryz.params3] at hA hval
  clear hA0 hval0
  obtain ⟨v0, vs0, d0, ds0, q0, r0, hargs0, rfl, rfl, h0, t0⟩ := trodAll_cons hA
  obtain ⟨v1, vs1, d1, ds1, q1, r1, rfl, rfl, rfl, h1, t1⟩ := trodAll_cons t0
  obtain ⟨v2, vs2, d2, ds2, q2, r2, rfl, rfl, rfl, h2, t2⟩ := trodAll_cons t1
  obtain ⟨v3, vs3, d3, ds3, q3, r3, rfl, rfl, rfl, h3, t3⟩ := trodAll_cons t2
  obtain ⟨v4, vs4, d4, ds4, q4, r4, rfl, rfl, rfl, h4, t4⟩ := trodAll_cons t3
  obtain ⟨rfl, rfl, rfl⟩ := trodAll_nil t4
  obtain rfl : args = #[v0, v1, v2, v3, v4] := by cases args; simp_all
  obtain ⟨rfl, rfl⟩ := trodVars_none hV
  simp only [List.append_nil] at hW'
  have hlt : ∀ x : MemPlace, x ∈ _ → x.block < W.heap.size := fun x hx => by simpa using hW'.lt x hx
  obtain ⟨g0, e0, k0⟩ := Gv.arg_read (S := .agg [.slice (.int .i64), .slice (.int .i64)]) (by kernel_rfl) (hval 0 24 v0 rfl rfl) h0
  obtain ⟨g1, e1, k1⟩ := Gv.arg_read (S := .int .i64) (by kernel_rfl) (hval 1 3 v1 rfl rfl) h1
  obtain ⟨g2, e2, k2⟩ := Gv.arg_read (S := .slice (.int .i64)) (by kernel_rfl) (hval 2 22 v2 rfl rfl) h2
  obtain ⟨g3, e3, k3⟩ := Gv.arg_read (S := .slice (.int .i64)) (by kernel_rfl) (hval 3 22 v3 rfl rfl) h3
  obtain ⟨g4, e4, k4⟩ := Gv.arg_read (S := .bool) (by kernel_rfl) (hval 4 4 v4 rfl rfl) h4
  have call := Gv.GPure.lawAt (args := #[v0, v1, v2, v3, v4]) (Gv.Tryz.wAskTells e0 e1 e2 e3 e4) (Gv.ArgsR.append (Gv.ArgsR.append (Gv.ArgsR.append (Gv.ArgsR.append (Gv.ArgsR.one k0) (Gv.ArgsR.one k1)) (Gv.ArgsR.one k2)) (Gv.ArgsR.one k3)) (Gv.ArgsR.one k4))
  refine call.mono fun e W' ⟨he, hg⟩ => ?_
  subst he
  have st0 : ∀ sp : Nat → Bool, (∀ x : MemPlace, x ∈ _ → sp x.block = true) → DataW.Trod enc Tryz.prog W' 0 sp true 24 v0 d0 q0 := fun sp hsp =>
    Gv.Old.trod laid (by kernel_rfl) (of_decide_eq_true (by kernel_rfl)) hg h0 (fun x hx => hlt x (by first | exact hx | simp [hx])) (fun x hx => hsp x hx)
  have st1 : ∀ sp : Nat → Bool, (∀ x : MemPlace, x ∈ _ → sp x.block = true) → DataW.Trod enc Tryz.prog W' 0 sp true 3 v1 d1 q1 := fun sp hsp =>
    Gv.Old.trod laid (by kernel_rfl) (of_decide_eq_true (by kernel_rfl)) hg h1 (fun x hx => hlt x (by first | exact hx | simp [hx])) (fun x hx => hsp x hx)
  have st2 : ∀ sp : Nat → Bool, (∀ x : MemPlace, x ∈ _ → sp x.block = true) → DataW.Trod enc Tryz.prog W' 0 sp true 22 v2 d2 q2 := fun sp hsp =>
    Gv.Old.trod laid (by kernel_rfl) (of_decide_eq_true (by kernel_rfl)) hg h2 (fun x hx => hlt x (by first | exact hx | simp [hx])) (fun x hx => hsp x hx)
  have st3 : ∀ sp : Nat → Bool, (∀ x : MemPlace, x ∈ _ → sp x.block = true) → DataW.Trod enc Tryz.prog W' 0 sp true 22 v3 d3 q3 := fun sp hsp =>
    Gv.Old.trod laid (by kernel_rfl) (of_decide_eq_true (by kernel_rfl)) hg h3 (fun x hx => hlt x (by first | exact hx | simp [hx])) (fun x hx => hsp x hx)
  have st4 : ∀ sp : Nat → Bool, (∀ x : MemPlace, x ∈ _ → sp x.block = true) → DataW.Trod enc Tryz.prog W' 0 sp true 4 v4 d4 q4 := fun sp hsp =>
    Gv.Old.trod laid (by kernel_rfl) (of_decide_eq_true (by kernel_rfl)) hg h4 (fun x hx => hlt x (by first | exact hx | simp [hx])) (fun x hx => hsp x hx)
  exact ⟨_, rfl, Gv.post_of_old (pa := _) (pv := []) hW' (fun _ _ _ => (trodAll_cons_mk (shut_bool Tryz.underlying4 _) trodAll_mk0)) (fun sp hsp => (trodAll_cons_mk (st0 sp (fun x hx => hsp x (by first | exact hx | simp [hx]))) (trodAll_cons_mk (st1 sp (fun x hx => hsp x (by first | exact hx | simp [hx]))) (trodAll_cons_mk (st2 sp (fun x hx => hsp x (by first | exact hx | simp [hx]))) (trodAll_cons_mk (st3 sp (fun x hx => hsp x (by first | exact hx | simp [hx]))) (trodAll_cons_mk (st4 sp (fun x hx => hsp x (by first | exact hx | simp [hx]))) trodAll_mk0)))))) (fun _ _ => rfl) (by simp)
    hg (ok_one (by kernel_rfl) rfl (okWide_bool_mk Tryz.underlying4 _))⟩

theorem over : Rows.askTellsRow.holds Tryz.pinned (OpenSpec.ofChange Rows.askTellsSpec) :=
  OpenClaim.holds_of_wide 3 Tryz.f3 rfl rfl rfl rfl rfl rfl rfl ⟨rfl, rfl, rfl, rfl, rfl⟩ rfl rfl rfl rfl rfl (by kernel_rfl) Tryz.func3 (by kernel_rfl)
    (of_decide_eq_true (by kernel_rfl)) (by unfold Func.isWrapper; first | (rw [if_pos (by decide +kernel)]; kernel_rfl) | (rw [if_neg (by decide +kernel)]; exact ⟨rfl, rfl⟩))
    (fun os started H enc _ => lifted os started H enc)

theorem proved : Rows.AskTellsSaid :=
  over
#print axioms proved
end Go.Proofs.YthidcccnjplafaaGreat.askTells
