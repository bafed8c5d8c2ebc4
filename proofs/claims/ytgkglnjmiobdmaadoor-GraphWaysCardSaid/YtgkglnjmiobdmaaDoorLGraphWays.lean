/- The law GraphWays is true, whatever its arguments, where errors' listed variable holds what the program's text lays in it; the card ties the row to the program's text. -/
import Derived.Test.YtgkglnjmiobdmaaDoorP13
import Derived.Test.YtgkglnjmiobdmaaDoorCards
import Derived.Test.YtgkglnjmiobdmaaDoorTie
import Derived.SevenTiedAt
import Derived.WalkKit
import Derived.ProofKit
import Derived.OpenShut
namespace Go.Proofs.YtgkglnjmiobdmaaDoor.graphWays
open Go.ChangeShapes Go.WideShapes Go.ChangeAt Go.RowKit
set_option linter.unusedVariables false

set_option maxRecDepth 100000 in
theorem lifted (os : Os) (started : os.Started) (H : Type) (enc : TypeId × Value → H) :
    ReturnsInHanded {} Tryd.checked os 5 .any (fun w args => (Rows.graphWaysSpec.pre enc Tryd.prog Tryd.f5 [] false w args ∧ laidMetH Tryd.prog laidL w) ∧ sizedMet enc Tryd.prog Tryd.f5 (OpenSpec.ofChange Rows.graphWaysSpec) false w args)
      (Rows.graphWaysSpec.post enc Tryd.prog Tryd.f5 false true false false) := by
  refine returnsInHanded_of_change_and (C := Tryd.checked) (X := fun w _ => laidMetH Tryd.prog laidL w) (fun _ _ _ hh h => h.of_heap hh) laidOwn started (by kernel_rfl) Tryd.func5
    (ChangeSpec.witness_at (enc := enc) (C := Tryd.checked) (os := os) (X := fun w _ => laidMetH Tryd.prog laidL w) false (laidWorld os) #[.slice none 0 0, .int .i64 0, .int .i64 0] 8 rfl (by kernel_rfl) (by kernel_rfl) (by kernel_rfl) (by kernel_rfl) (by kernel_rfl) (laidWorld_met os _)) ?_
  intro W base args ds gs before hval0 hW hcnd hsz0 hL _
  have hval : ∀ (j : Nat) t v, Tryd.f5.params[j]? = some t → args[j]? = some v → Value.okWide Tryd.prog W .any base t v := hval0
  have hW' := hW
  obtain ⟨p, q, hA0, hV, rfl, hfz, hnd⟩ := hW
  have hA : DataW.TrodAll enc Tryd.prog W 0 (fun _ => true) true Tryd.f5.params.toList args.toList ds p := hA0
  have hsz : (DataW.weightsEach Tryd.prog (Tryd.f5.params.toList ++ Rows.graphWaysSpec.plain.varTypes Tryd.prog) (ds ++ gs)).all (fun x => decide (x ≤ reachBytes)) = true := hsz0
  rw [Tryd.params5] at hA hval hsz
  clear hA0 hval0
  obtain ⟨v0, v1, v2, d0, d1, d2, q0, q1, q2, rfl, rfl, rfl, h0, h1, h2⟩ := trodAll_three hA
  obtain ⟨rfl, rfl⟩ := trodVars_none hV
  simp only [List.append_nil] at hW'
  have hlt : ∀ x : MemPlace, x ∈ _ → x.block < W.heap.size := fun x hx => by simpa using hW'.lt x hx
  obtain ⟨g0, e0, k0⟩ := Gv.arg_read (S := .slice Gv.Tryd.rrS) (by kernel_rfl) (hval 0 48 v0 rfl rfl) h0
  obtain ⟨g1, e1, k1⟩ := Gv.arg_read (S := .int .i64) (by kernel_rfl) (hval 1 3 v1 rfl rfl) h1
  obtain ⟨g2, e2, k2⟩ := Gv.arg_read (S := .int .i64) (by kernel_rfl) (hval 2 3 v2 rfl rfl) h2
  have call := Gv.GPure.lawAt (args := #[v0, v1, v2]) (Gv.Tryd.wWays e0 e1 e2) (Gv.ArgsR.append (Gv.ArgsR.append (Gv.ArgsR.one k0) (Gv.ArgsR.one k1)) (Gv.ArgsR.one k2)) (laidGlobs hL)
  refine call.mono fun e W' ⟨he, hg⟩ => ?_
  subst he
  have st0 : ∀ sp : Nat → Bool, (∀ x : MemPlace, x ∈ _ → sp x.block = true) → DataW.Trod enc Tryd.prog W' 0 sp true 48 v0 d0 q0 := fun sp hsp =>
    Gv.Old.trod laidOut (by kernel_rfl) (of_decide_eq_true (by kernel_rfl)) hg h0 (fun x hx => hlt x (by first | exact hx | simp [hx])) (fun x hx => hsp x hx)
  have st1 : ∀ sp : Nat → Bool, (∀ x : MemPlace, x ∈ _ → sp x.block = true) → DataW.Trod enc Tryd.prog W' 0 sp true 3 v1 d1 q1 := fun sp hsp =>
    Gv.Old.trod laidOut (by kernel_rfl) (of_decide_eq_true (by kernel_rfl)) hg h1 (fun x hx => hlt x (by first | exact hx | simp [hx])) (fun x hx => hsp x hx)
  have st2 : ∀ sp : Nat → Bool, (∀ x : MemPlace, x ∈ _ → sp x.block = true) → DataW.Trod enc Tryd.prog W' 0 sp true 3 v2 d2 q2 := fun sp hsp =>
    Gv.Old.trod laidOut (by kernel_rfl) (of_decide_eq_true (by kernel_rfl)) hg h2 (fun x hx => hlt x (by first | exact hx | simp [hx])) (fun x hx => hsp x hx)
  exact ⟨_, rfl, Gv.post_of_old (pa := _) (pv := []) hW' (fun _ _ _ => (trodAll_cons_mk (shut_bool Tryd.underlying4 _) trodAll_mk0)) (fun sp hsp => (trodAll_cons_mk (st0 sp (fun x hx => hsp x (by first | exact hx | simp [hx]))) (trodAll_cons_mk (st1 sp (fun x hx => hsp x (by first | exact hx | simp [hx]))) (trodAll_cons_mk (st2 sp (fun x hx => hsp x (by first | exact hx | simp [hx]))) trodAll_mk0)))) (fun _ _ => rfl) (by simp)
    hg (ok_one (by kernel_rfl) rfl (okWide_bool_mk Tryd.underlying4 _))⟩

theorem over : Rows.GraphWaysSaid :=
  OpenClaim.holds_of_wide 5 Tryd.f5 rfl rfl rfl rfl rfl rfl rfl ⟨rfl, rfl, rfl, rfl, rfl⟩ rfl rfl rfl rfl rfl (by kernel_rfl) Tryd.func5 (by kernel_rfl)
    (of_decide_eq_true (by kernel_rfl)) (by unfold Func.isWrapper; first | (rw [if_pos (by decide +kernel)]; kernel_rfl) | (rw [if_neg (of_decide_eq_false (by kernel_rfl))]; exact ⟨rfl, rfl⟩))
    (fun os started H enc _ => lifted os started H enc)

theorem proved : Rows.GraphWaysCardSaid :=
  Claim7.holds_tied_plain_at .later [] [.handle] true (true, "7603b36c7b36a4c4ac353d9105027ba663a227e83bf04d22c43cbadd2724cdf4") true
    over (fun _ h => by cases h) (by kernel_rfl) (fun _ h => by cases h) graphWays_row_tie rfl ⟨rfl, rfl⟩ (by kernel_rfl) rfl
    (fun f fn hf hfn => by
      obtain rfl : f = 5 := Option.some.inj ((show Tryd.prog.funcNamed "taproot/taprootlaw11.GraphWays" = some 5 by kernel_rfl).symm.trans hf) |>.symm
      obtain rfl : fn = Tryd.f5 := (Option.some.inj (Tryd.func5.symm.trans hfn)).symm
      exact ⟨by kernel_rfl, fun j t ht => by
        rw [Tryd.params5] at ht
        rcases j with _ | j
        · obtain rfl : t = 48 := by simpa using ht.symm
          exact (show Tryd.prog.wantsStandIn 48 = false by kernel_rfl)
        rcases j with _ | j
        · obtain rfl : t = 3 := by simpa using ht.symm
          exact (show Tryd.prog.wantsStandIn 3 = false by kernel_rfl)
        rcases j with _ | j
        · obtain rfl : t = 3 := by simpa using ht.symm
          exact (show Tryd.prog.wantsStandIn 3 = false by kernel_rfl)
        simp at ht⟩)
    (by kernel_rfl)
#print axioms proved
end Go.Proofs.YtgkglnjmiobdmaaDoor.graphWays
