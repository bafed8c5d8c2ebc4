/- The law GraphRemoves is true, whatever its arguments, where errors' listed variable holds what the program's text lays in it; the card ties the row to the program's text. -/
import Derived.Test.YtgkglnjmiobdmaaGreatDoorP15
import Derived.Test.YtgkglnjmiobdmaaGreatDoorCards
import Derived.Test.YtgkglnjmiobdmaaGreatDoorTie
import Derived.SevenTiedAt
import Derived.WalkKit
import Derived.ProofKit
import Derived.OpenShut
namespace Go.Proofs.YtgkglnjmiobdmaaGreatDoor.graphRemoves
open Go.ChangeShapes Go.WideShapes Go.ChangeAt Go.RowKit
set_option linter.unusedVariables false

set_option maxRecDepth 100000 in
theorem lifted (os : Os) (started : os.Started) (H : Type) (enc : TypeId × Value → H) :
    ReturnsInHanded {} Tryz.checked os 4 .any (fun w args => (Rows.graphRemovesSpec.pre enc Tryz.prog Tryz.f4 [] false w args ∧ laidMetH Tryz.prog laidL w) ∧ sizedMet enc Tryz.prog Tryz.f4 (OpenSpec.ofChange Rows.graphRemovesSpec) false w args)
      (Rows.graphRemovesSpec.post enc Tryz.prog Tryz.f4 false true false false) := by
  refine returnsInHanded_of_change_and (C := Tryz.checked) (X := fun w _ => laidMetH Tryz.prog laidL w) (fun _ _ _ hh h => h.of_heap hh) laidOwn started (by kernel_rfl) Tryz.func4
    (ChangeSpec.witness_at (enc := enc) (C := Tryz.checked) (os := os) (X := fun w _ => laidMetH Tryz.prog laidL w) false (laidWorld os) #[.slice none 0 0, .slice none 0 0, .bool false] 8 rfl (by kernel_rfl) (by kernel_rfl) (by kernel_rfl) (by kernel_rfl) (by kernel_rfl) (laidWorld_met os _)) ?_
  intro W base args ds gs before hval0 hW hcnd hsz0 hL _
  have hval : ∀ (j : Nat) t v, Tryz.f4.params[j]? = some t → args[j]? = some v → Value.okWide Tryz.prog W .any base t v := hval0
  have hW' := hW
  obtain ⟨p, q, hA0, hV, rfl, hfz, hnd⟩ := hW
  have hA : DataW.TrodAll enc Tryz.prog W 0 (fun _ => true) true Tryz.f4.params.toList args.toList ds p := hA0
  have hsz : (DataW.weightsEach Tryz.prog (Tryz.f4.params.toList ++ Rows.graphRemovesSpec.plain.varTypes Tryz.prog) (ds ++ gs)).all (fun x => decide (x ≤ reachBytes)) = true := hsz0
  rw [Tryz.params4] at hA hval hsz
  clear hA0 hval0
  obtain ⟨v0, v1, v2, d0, d1, d2, q0, q1, q2, rfl, rfl, rfl, h0, h1, h2⟩ := trodAll_three hA
  obtain ⟨rfl, rfl⟩ := trodVars_none hV
  simp only [List.append_nil] at hW'
  have hlt : ∀ x : MemPlace, x ∈ _ → x.block < W.heap.size := fun x hx => by simpa using hW'.lt x hx
  obtain ⟨g0, e0, k0⟩ := Gv.arg_read (S := .slice Gv.Tryz.rrS) (by kernel_rfl) (hval 0 22 v0 rfl rfl) h0
  obtain ⟨g1, e1, k1⟩ := Gv.arg_read (S := .slice (.slice (.int .i64))) (by kernel_rfl) (hval 1 59 v1 rfl rfl) h1
  obtain ⟨g2, e2, k2⟩ := Gv.arg_read (S := .bool) (by kernel_rfl) (hval 2 4 v2 rfl rfl) h2
  have call := Gv.GPure.lawAt (args := #[v0, v1, v2]) (Gv.Tryz.wRemoves e0 e1 e2) (Gv.ArgsR.append (Gv.ArgsR.append (Gv.ArgsR.one k0) (Gv.ArgsR.one k1)) (Gv.ArgsR.one k2)) (laidGlobs hL)
  refine call.mono fun e W' ⟨he, hg⟩ => ?_
  subst he
  have st0 : ∀ sp : Nat → Bool, (∀ x : MemPlace, x ∈ _ → sp x.block = true) → DataW.Trod enc Tryz.prog W' 0 sp true 22 v0 d0 q0 := fun sp hsp =>
    Gv.Old.trod laidOut (by kernel_rfl) (of_decide_eq_true (by kernel_rfl)) hg h0 (fun x hx => hlt x (by first | exact hx | simp [hx])) (fun x hx => hsp x hx)
  have st1 : ∀ sp : Nat → Bool, (∀ x : MemPlace, x ∈ _ → sp x.block = true) → DataW.Trod enc Tryz.prog W' 0 sp true 59 v1 d1 q1 := fun sp hsp =>
    Gv.Old.trod laidOut (by kernel_rfl) (of_decide_eq_true (by kernel_rfl)) hg h1 (fun x hx => hlt x (by first | exact hx | simp [hx])) (fun x hx => hsp x hx)
  have st2 : ∀ sp : Nat → Bool, (∀ x : MemPlace, x ∈ _ → sp x.block = true) → DataW.Trod enc Tryz.prog W' 0 sp true 4 v2 d2 q2 := fun sp hsp =>
    Gv.Old.trod laidOut (by kernel_rfl) (of_decide_eq_true (by kernel_rfl)) hg h2 (fun x hx => hlt x (by first | exact hx | simp [hx])) (fun x hx => hsp x hx)
  exact ⟨_, rfl, Gv.post_of_old (pa := _) (pv := []) hW' (fun _ _ _ => (trodAll_cons_mk (shut_bool Tryz.underlying4 _) trodAll_mk0)) (fun sp hsp => (trodAll_cons_mk (st0 sp (fun x hx => hsp x (by first | exact hx | simp [hx]))) (trodAll_cons_mk (st1 sp (fun x hx => hsp x (by first | exact hx | simp [hx]))) (trodAll_cons_mk (st2 sp (fun x hx => hsp x (by first | exact hx | simp [hx]))) trodAll_mk0)))) (fun _ _ => rfl) (by simp)
    hg (ok_one (by kernel_rfl) rfl (okWide_bool_mk Tryz.underlying4 _))⟩

theorem over : Rows.GraphRemovesSaid :=
  OpenClaim.holds_of_wide 4 Tryz.f4 rfl rfl rfl rfl rfl rfl rfl ⟨rfl, rfl, rfl, rfl, rfl⟩ rfl rfl rfl rfl rfl (by kernel_rfl) Tryz.func4 (by kernel_rfl)
    (of_decide_eq_true (by kernel_rfl)) (by unfold Func.isWrapper; first | (rw [if_pos (by decide +kernel)]; kernel_rfl) | (rw [if_neg (of_decide_eq_false (by kernel_rfl))]; exact ⟨rfl, rfl⟩))
    (fun os started H enc _ => lifted os started H enc)

theorem proved : Rows.GraphRemovesCardSaid :=
  Claim7.holds_tied_plain_at .later [] [.handle] true (true, "5d48ed1c99d50a19c3b5e0d469f8cd932c86ba24720718f764579f349c403edf") true
    over (fun _ h => by cases h) (by kernel_rfl) (fun _ h => by cases h) graphRemoves_row_tie rfl ⟨rfl, rfl⟩ (by kernel_rfl) rfl
    (fun f fn hf hfn => by
      obtain rfl : f = 4 := Option.some.inj ((show Tryz.prog.funcNamed "taproot/taprootlaw11.GraphRemoves" = some 4 by kernel_rfl).symm.trans hf) |>.symm
      obtain rfl : fn = Tryz.f4 := (Option.some.inj (Tryz.func4.symm.trans hfn)).symm
      exact ⟨by kernel_rfl, fun j t ht => by
        rw [Tryz.params4] at ht
        rcases j with _ | j
        · obtain rfl : t = 22 := by simpa using ht.symm
          exact (show Tryz.prog.wantsStandIn 22 = false by kernel_rfl)
        rcases j with _ | j
        · obtain rfl : t = 59 := by simpa using ht.symm
          exact (show Tryz.prog.wantsStandIn 59 = false by kernel_rfl)
        rcases j with _ | j
        · obtain rfl : t = 4 := by simpa using ht.symm
          exact (show Tryz.prog.wantsStandIn 4 = false by kernel_rfl)
        simp at ht⟩)
    (by kernel_rfl)
#print axioms proved
end Go.Proofs.YtgkglnjmiobdmaaGreatDoor.graphRemoves
