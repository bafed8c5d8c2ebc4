/- The law IdsPlay is true, whatever its arguments, where errors' listed variable holds what the program's text lays in it; the card ties the row to the program's text. -/
import Derived.Test.YtnenmmdpclglhaaGreatDoorP16
import Derived.Test.YtnenmmdpclglhaaGreatDoorCards
import Derived.Test.YtnenmmdpclglhaaGreatDoorTie
import Derived.SevenTiedAt
import Derived.WalkKit
import Derived.ProofKit
import Derived.OpenShut
set_option linter.unusedVariables false
namespace Go.Proofs.YtnenmmdpclglhaaGreatDoor.idsPlay
open Go.ChangeShapes Go.WideShapes Go.ChangeAt Go.RowKit
set_option maxRecDepth 100000 in
theorem lifted (os : Os) (started : os.Started) (H : Type) (enc : TypeId × Value → H) :
 ReturnsInHanded {} Tryz.checked os 5 .any (fun w args => (Rows.idsPlaySpec.pre enc Tryz.prog Tryz.f5 [] false w args ∧ laidMetH Tryz.prog laidL w) ∧ sizedMet enc Tryz.prog Tryz.f5 (OpenSpec.ofChange Rows.idsPlaySpec) false w args)
  (Rows.idsPlaySpec.post enc Tryz.prog Tryz.f5 false true false false) := by
 refine returnsInHanded_of_change_and (C := Tryz.checked) (X := fun w _ => laidMetH Tryz.prog laidL w) (fun _ _ _ hh h => h.of_heap hh) laidOwn started (by kernel_rfl) Tryz.func5
  (ChangeSpec.witness_at (enc := enc) (C := Tryz.checked) (os := os) (X := fun w _ => laidMetH Tryz.prog laidL w) false (laidWorld os) #[.int .i64 0, .slice none 0 0] 8 rfl (by kernel_rfl) (by kernel_rfl) (by kernel_rfl) (by kernel_rfl) (by kernel_rfl) (laidWorld_met os _)) ?_
 intro W base args ds gs before hval0 hW hcnd hsz0 hL _
 have hval : ∀ (j : Nat) t v, Tryz.f5.params[j]? = some t → args[j]? = some v → Value.okWide Tryz.prog W .any base t v := hval0
 have hW' := hW
 obtain ⟨p, q, hA0, hV, rfl, hfz, hnd⟩ := hW
 have hA : DataW.TrodAll enc Tryz.prog W 0 (fun _ => true) true Tryz.f5.params.toList args.toList ds p := hA0
 have hsz : (DataW.weightsEach Tryz.prog (Tryz.f5.params.toList ++ Rows.idsPlaySpec.plain.varTypes Tryz.prog) (ds ++ gs)).all (fun x => decide (x ≤ reachBytes)) = true := hsz0
 rw [Tryz.params5] at hA hval hsz
 clear hA0 hval0
 obtain ⟨v0, v1, d0, d1, q0, q1, rfl, rfl, rfl, h0, h1⟩ := trodAll_two hA
 obtain ⟨rfl, rfl⟩ := trodVars_none hV
 simp only [List.append_nil] at hW'
 have hlt : ∀ x : MemPlace, x ∈ _ → x.block < W.heap.size := fun x hx => by simpa using hW'.lt x hx
 obtain ⟨g0, e0, k0⟩ := Gv.arg_read (S := .int .i64) (by kernel_rfl) (hval 0 3 v0 rfl rfl) h0
 obtain ⟨g1, e1, k1⟩ := Gv.arg_read (S := .slice Gv.Tryz.stS) (by kernel_rfl) (hval 1 66 v1 rfl rfl) h1
 have call := Gv.GPure.lawAt (args := #[v0, v1]) (Gv.Tryz.wPlay e0 e1) (Gv.ArgsR.append (Gv.ArgsR.one k0) (Gv.ArgsR.one k1)) (laidGlobs hL)
 refine call.mono fun e W' ⟨he, hg⟩ => ?_
 subst he
 have st0 : ∀ sp : Nat → Bool, (∀ x : MemPlace, x ∈ _ → sp x.block = true) → DataW.Trod enc Tryz.prog W' 0 sp true 3 v0 d0 q0 := fun sp hsp =>
  Gv.Old.trod laidOut (by kernel_rfl) (of_decide_eq_true (by kernel_rfl)) hg h0 (fun x hx => hlt x (by first | exact hx | simp [hx])) (fun x hx => hsp x hx)
 have st1 : ∀ sp : Nat → Bool, (∀ x : MemPlace, x ∈ _ → sp x.block = true) → DataW.Trod enc Tryz.prog W' 0 sp true 66 v1 d1 q1 := fun sp hsp =>
  Gv.Old.trod laidOut (by kernel_rfl) (of_decide_eq_true (by kernel_rfl)) hg h1 (fun x hx => hlt x (by first | exact hx | simp [hx])) (fun x hx => hsp x hx)
 exact ⟨_, rfl, Gv.post_of_old (pa := _) (pv := []) hW' (fun _ _ _ => (trodAll_cons_mk (shut_bool Tryz.underlying4 _) trodAll_mk0)) (fun sp hsp => (trodAll_cons_mk (st0 sp (fun x hx => hsp x (by first | exact hx | simp [hx]))) (trodAll_cons_mk (st1 sp (fun x hx => hsp x (by first | exact hx | simp [hx]))) trodAll_mk0))) (fun _ _ => rfl) (by simp)
  hg (ok_one (by kernel_rfl) rfl (okWide_bool_mk Tryz.underlying4 _))⟩
theorem over : Rows.IdsPlaySaid :=
 OpenClaim.holds_of_wide 5 Tryz.f5 rfl rfl rfl rfl rfl rfl rfl ⟨rfl, rfl, rfl, rfl, rfl⟩ rfl rfl rfl rfl rfl (by kernel_rfl) Tryz.func5 (by kernel_rfl)
  (of_decide_eq_true (by kernel_rfl)) (by unfold Func.isWrapper; first | (rw [if_pos (by decide +kernel)]; kernel_rfl) | (rw [if_neg (of_decide_eq_false (by kernel_rfl))]; exact ⟨rfl, rfl⟩))
  (fun os started H enc _ => lifted os started H enc)
theorem proved : Rows.IdsPlayCardSaid :=
 Claim7.holds_tied_plain_at .later [] [.handle] true (true, "38ea4aa611e07fef03926e92375f5f146defc9f0641e92aab61526cf546f3226") true
  over (fun _ h => by cases h) (by kernel_rfl) (fun _ h => by cases h) idsPlay_row_tie rfl ⟨rfl, rfl⟩ (by kernel_rfl) rfl
  (fun f fn hf hfn => by
   obtain rfl : f = 5 := Option.some.inj ((show Tryz.prog.funcNamed "taproot/taprootlaw13.IdsPlay" = some 5 by kernel_rfl).symm.trans hf) |>.symm
   obtain rfl : fn = Tryz.f5 := (Option.some.inj (Tryz.func5.symm.trans hfn)).symm;exact ⟨by kernel_rfl, fun j t ht => by
    rw [Tryz.params5] at ht;rcases j with _ | j
    · obtain rfl : t = 3 := by simpa using ht.symm
      exact (show Tryz.prog.wantsStandIn 3 = false by kernel_rfl)
    rcases j with _ | j
    · obtain rfl : t = 66 := by simpa using ht.symm
      exact (show Tryz.prog.wantsStandIn 66 = false by kernel_rfl)
    simp at ht⟩)
  (by kernel_rfl)
#print axioms proved
end Go.Proofs.YtnenmmdpclglhaaGreatDoor.idsPlay
