import Derived.Test.YtnenmmdpclglhaaGreatDoorP15
import Derived.Test.YtnenmmdpclglhaaGreatDoorP10
import Derived.Test.YtnenmmdpclglhaaGreatDoorP4
import Derived.Test.YtnenmmdpclglhaaGreatDoorP5
import Derived.OpenShut
import Derived.SizedLaws
import Derived.Test.YtnenmmdpclglhaaGreatDoorRows
import Derived.ChangeSame
import Derived.ChangeVars
import Derived.JoinedOf
import Derived.RowKit
import Derived.RowKitTokens
import Derived.LaidLaws
import Derived.LaidHandle
import Derived.Stop.Joined
set_option linter.unusedVariables false
namespace Gv.Tryz
open Go Gv Go.Proofs Go.RowKit
theorem glob_cell {E : Env} {O : List GObj} {w : World} (h : HSim E O w) : w.cell? ⟨0, 0, none⟩ = some (.iface 176 (.agg #[.pointer (some ⟨2, 28, none⟩)])) :=
 h.sealed _ _ _ (h.glob (0, 0, .iface 176 (.agg #[.pointer (some ⟨2, 28, none⟩)])) (by simp [globs]))
theorem args_one {E : Env} {vs : Array Value} {g : GVal} (h : ArgsR E vs [g]) : ∃ v, vs = #[v] ∧ VR E v g := by
 obtain ⟨h1, h2⟩ := h
 have h3 := h2 0 _ rfl
 refine ⟨vs.getD 0 undef, ?_, h3⟩
 apply Array.ext (by simpa using h1)
 intro i hi hi2
 simp at hi2; subst hi2
 simp [Array.getD, hi]
theorem hKindWhich (gs : List GVal) (n : Int) (h32 : gs.length = 32) : GPure Tryz.prog 19 [.iface 113 (.ref (gs ++ [.iface 52 (.int .i64 n)]))] (.int .i64 n) :=
 GPure.ofBelow (by kernel_rfl) fun E w vs hs ha => by
  obtain ⟨v, rfl, hv⟩ := args_one ha
  cases hv with
  | iface t v g h =>
   cases h with
   | ref b off _ c hsn hc =>
    have h1 := hs.sealed _ _ _ (hsn 32 (by simp [h32]))
    have h2 := hc 32 _ (by rw [List.getElem?_append_right (by omega), h32]; rfl)
    generalize hq : c 32 = x at h1 h2
    cases h2 with
    | iface t v g h3 =>
     cases h3
     exact (kind_which b off n w h1 (glob_cell hs)).mono fun e w' ⟨h1, h2⟩ => ⟨_, h1, h2, .int _ _⟩
end Gv.Tryz
set_option linter.unusedVariables false
set_option linter.unusedSimpArgs false
set_option maxRecDepth 20000
set_option maxHeartbeats 4000000
namespace Gv.Tryz
open Go Gv Go.Proofs
open Nat (reduceEqDiff reduceAdd reduceSub reduceLeDiff reduceMul reduceLT)
structure RiseInv (l : List RR) (k : Nat) (m : GM) (M O ms : List Hs) : Prop where
 kl : k ≤ l.length
 k5 : k ≤ 5
 good : Good m
 num : NumOK m M O
 len : m.length ≤ 72 * k
 mas : ∀ x, x ∈ M ↔ x ∈ ancL m ms
 thr : ∀ x ∈ ms, (look m x).isSome = true
theorem good_nilI : Good ([] : GM) := ⟨⟨by simp, by simp⟩, by simp, by intro x y h; simp [parsM, look] at h, by
 intro x h
 cases h with
 | base _ h => simp [parsM, look] at h
 | step _ _ _ h => simp [parsM, look] at h⟩
theorem rise0 (l : List RR) : RiseInv l 0 [] [] [] [] := ⟨Nat.zero_le _, Nat.zero_le _, good_nilI, ⟨List.nodup_nil, fun x => by simp [look], trivial⟩, by simp, fun x => by
 rw [ancL_mem]
 exact ⟨fun h => (by simp at h), fun h => (Reach.nil (show Reach (parsM []) [] x from h)).elim⟩, by simp⟩
theorem specStrips (l : List RR) (gone : List Int) : GPure Tryz.prog 3 [.slice (rrsG l) .none, .slice (ints gone) .none] (.bool true) := by
 refine GCalls.toPure ?_
 refine h3.calls mixS (by simp) ?_
 simp only [gstart, s3, List.cons_append, List.nil_append, List.length_cons, List.length_nil, reduceAdd, reduceSub, List.replicate_succ, List.replicate_zero]
 simp +contextual -implicitDefEqProofs (maxSteps := 2000000) (disch := omega) only [↓lenV, binV, ↓unV, optV, ↓loadV, ↓storeV, ↓fieldAddrV, ↓indexAddrV, ↓allocV, ↓buildSliceV, ↓sliceV, ↓appendV, ↓srcV, bound, cutTag, hiTag, fillE, GVal.cells, GVal.ofConst, ↓resV, resG, ↓reduceIte, reduceEqDiff, reduceAdd, reduceSub, reduceLeDiff, reduceCtorEq, ↓asrcV, aggV, Tag.cap, GVal.solid, Nat.reduceBEq, reduceMul, reduceLT, vcA, ↓vcB, vcC, fbFy, e3, vcD]
 refine gNew.mono ?_
 rintro g O' ⟨st, s, rfl, rfl⟩
 simp +contextual -implicitDefEqProofs (maxSteps := 2000000) (disch := omega) only [↓lenV, binV, ↓unV, optV, ↓loadV, ↓storeV, ↓fieldAddrV, ↓indexAddrV, ↓allocV, ↓buildSliceV, ↓sliceV, ↓appendV, ↓srcV, bound, cutTag, hiTag, fillE, GVal.cells, GVal.ofConst, ↓resV, resG, ↓reduceIte, reduceEqDiff, reduceAdd, reduceSub, reduceLeDiff, reduceCtorEq, ↓asrcV, aggV, Tag.cap, GVal.solid, Nat.reduceBEq, reduceMul, reduceLT, vcA, ↓vcB, vcC, fbFy, e3, vcD]
 refine (iNew2 [] st s 600 (by decide) (by decide)).mono ?_
 rintro g O' ⟨ti, so, rfl, rfl⟩
 simp +contextual -implicitDefEqProofs (maxSteps := 2000000) (disch := omega) only [↓lenV, binV, ↓unV, optV, ↓loadV, ↓storeV, ↓fieldAddrV, ↓indexAddrV, ↓allocV, ↓buildSliceV, ↓sliceV, ↓appendV, ↓srcV, bound, cutTag, hiTag, fillE, GVal.cells, GVal.ofConst, ↓resV, resG, ↓reduceIte, reduceEqDiff, reduceAdd, reduceSub, reduceLeDiff, reduceCtorEq, ↓asrcV, aggV, Tag.cap, GVal.solid, Nat.reduceBEq, reduceMul, reduceLT, vcA, ↓vcB, vcC, fbFy, e3, vcD]
 refine iKnown.then ?_ (by rfl)
 simp +contextual -implicitDefEqProofs (maxSteps := 2000000) (disch := omega) only [↓lenV, binV, ↓unV, optV, ↓loadV, ↓storeV, ↓fieldAddrV, ↓indexAddrV, ↓allocV, ↓buildSliceV, ↓sliceV, ↓appendV, ↓srcV, bound, cutTag, hiTag, fillE, GVal.cells, GVal.ofConst, ↓resV, resG, ↓reduceIte, reduceEqDiff, reduceAdd, reduceSub, reduceLeDiff, reduceCtorEq, ↓asrcV, aggV, Tag.cap, GVal.solid, Nat.reduceBEq, reduceMul, reduceLT, vcA, ↓vcB, vcC, fbFy, e3, Tryz.underlying28, vcD]
 refine vcSLoop_by (ι := { p : (Nat × List Hs) × ((Nat × Nat) × (GM × List Hs × List Hs)) // RiseInv l p.1.1 p.2.2.1 p.2.2.2.1 p.2.2.2.2 p.1.2 }) (fun p => ⟨[.slice (rrsG l) .none, .slice (ints gone) .none, .any, .any, .any, .ptr 0 st 0 0, .ptr 2 ti 0 0, .any, .int .i64 (p.1.1.1 : Nat)] ++ List.replicate 157 .any, gObj st p.1.2.1.1 p.1.2.2.1 ++ (idO2 ti p.1.2.1.2 600 p.1.2.2.2.1 p.1.2.2.2.2 ++ [])⟩) (fun p => 5 - p.1.1.1) ?_ ?_
 · exact Into.first ⟨((0, []), ((s, so), ([], [], []))), rise0 l⟩ ⟨[], rfl⟩ (by simp [WL, leG_self, leG_any, hsG])
 · rintro ⟨⟨⟨k, ms⟩, ⟨⟨s, so⟩, ⟨m, M, O⟩⟩⟩, hI⟩
   obtain ⟨hil, hi8, hm, hN, hml, hmas, hthr⟩ : RiseInv l k m M O ms := hI
   by_cases h : k < l.length ∧ k < 5
   · have d0 : ((k : Int) < (l.length : Int)) = True := eq_true (by omega)
     have d1 : ((k : Int) < 5) = True := eq_true (by omega)
     have eR := rrsG_at l k h.1
     generalize l.getD k default = x at *
     simp +contextual -implicitDefEqProofs (maxSteps := 2000000) (disch := omega) only [↓lenV, binV, ↓unV, optV, ↓loadV, ↓storeV, ↓fieldAddrV, ↓indexAddrV, ↓allocV, ↓buildSliceV, ↓sliceV, ↓appendV, ↓srcV, bound, cutTag, hiTag, fillE, GVal.cells, GVal.ofConst, ↓resV, resG, ↓reduceIte, reduceEqDiff, reduceAdd, reduceSub, reduceLeDiff, reduceCtorEq, ↓asrcV, aggV, Tag.cap, GVal.solid, Nat.reduceBEq, reduceMul, reduceLT, vcA, ↓vcB, vcC, fbFy, e3, d0, d1, eR, rrsG_len, vcD]
     refine ⟨by omega, ?_⟩
     refine (gRequestO x (gObj st s m ++ (idO2 ti so 600 M O ++ [])) rfl).mono ?_
     rintro g O' ⟨cs, hs, gr, hr, rfl, rfl⟩
     have hcl := hr.len
     have hhl := hr.hd
     have hpl : ∀ c ∈ cs, c.2.length ≤ 1000000 := fun c hc => by have := hr.par c hc; omega
     have cC := fun X => (iCheck m hm.ok cs hs .none gr st s (by omega) (by omega) hpl).keep2 rfl X
     cases hj : joinedP gr m cs hs with
     | error e =>
      have ec : chkP gr m cs hs = some e := by unfold chkP; rw [hj]
      obtain ⟨ty, vv, ev⟩ := errV_some e
      rw [ec] at cC
      simp +contextual -implicitDefEqProofs (maxSteps := 2000000) (disch := omega) only [↓lenV, binV, ↓unV, optV, ↓loadV, ↓storeV, ↓fieldAddrV, ↓indexAddrV, ↓allocV, ↓buildSliceV, ↓sliceV, ↓appendV, ↓srcV, bound, cutTag, hiTag, fillE, GVal.cells, GVal.ofConst, ↓resV, resG, ↓reduceIte, reduceEqDiff, reduceAdd, reduceSub, reduceLeDiff, reduceCtorEq, ↓asrcV, aggV, Tag.cap, GVal.solid, Nat.reduceBEq, reduceMul, reduceLT, vcA, ↓vcB, vcC, fbFy, e3, vcD]
      intro sx
      refine (cC _).mono ?_
      rintro g O' ⟨rfl, rfl⟩
      simp +contextual -implicitDefEqProofs (maxSteps := 2000000) (disch := omega) only [↓lenV, binV, ↓unV, optV, ↓loadV, ↓storeV, ↓fieldAddrV, ↓indexAddrV, ↓allocV, ↓buildSliceV, ↓sliceV, ↓appendV, ↓srcV, bound, cutTag, hiTag, fillE, GVal.cells, GVal.ofConst, ↓resV, resG, ↓reduceIte, reduceEqDiff, reduceAdd, reduceSub, reduceLeDiff, reduceCtorEq, ↓asrcV, aggV, Tag.cap, GVal.solid, Nat.reduceBEq, reduceMul, reduceLT, vcA, ↓vcB, vcC, fbFy, e3, ev, Tryz.underlying28, vcD]
      exact Into.at ⟨((k + 1, ms), ((s, so), (m, M, O))), ⟨h.1, h.2, hm, hN, by show m.length ≤ 72 * (k + 1); omega, hmas, hthr⟩⟩ (by show 5 - (k + 1) < 5 - k; omega) ⟨[.row sx 3 [reqG cs hs .none gr]], by simp⟩ (by simp [WL, leG_self, leG_any, leG_int])
     | ok m1 =>
      have ec : chkP gr m cs hs = none := by unfold chkP; rw [hj]
      rw [ec] at cC
      have cA := fun X => iAdd m m1 hm.ok cs none (by unfold addedE; rw [joined_add hj]) (by unfold addedM; rw [joined_add hj]) st s (by omega) hpl X (GLes.refl _)
      obtain ⟨M1, O1, T2, hcase, hT2, hm1, hN1, hl1, b1, b2, b3, b4, hmas1, hthr1⟩ := riseStep hm hN hml (by omega) hmas hthr (by omega) hj
      have cU := fun s' X => iUpdT (iUpdate m1 hm1.gm ti st s' so cs hs .none (by simp) gr 600 M O M1 O1 hcase T2 hT2 (by omega) (by omega) (by omega) (by omega) (by omega) (by omega)) (GLes.refl _) X
      simp +contextual -implicitDefEqProofs (maxSteps := 2000000) (disch := omega) only [↓lenV, binV, ↓unV, optV, ↓loadV, ↓storeV, ↓fieldAddrV, ↓indexAddrV, ↓allocV, ↓buildSliceV, ↓sliceV, ↓appendV, ↓srcV, bound, cutTag, hiTag, fillE, GVal.cells, GVal.ofConst, ↓resV, resG, ↓reduceIte, reduceEqDiff, reduceAdd, reduceSub, reduceLeDiff, reduceCtorEq, ↓asrcV, aggV, Tag.cap, GVal.solid, Nat.reduceBEq, reduceMul, reduceLT, vcA, ↓vcB, vcC, fbFy, e3, vcD]
      intro sx
      refine (cC _).mono ?_
      rintro g O' ⟨rfl, rfl⟩
      simp +contextual -implicitDefEqProofs (maxSteps := 2000000) (disch := omega) only [↓lenV, binV, ↓unV, optV, ↓loadV, ↓storeV, ↓fieldAddrV, ↓indexAddrV, ↓allocV, ↓buildSliceV, ↓sliceV, ↓appendV, ↓srcV, bound, cutTag, hiTag, fillE, GVal.cells, GVal.ofConst, ↓resV, resG, ↓reduceIte, reduceEqDiff, reduceAdd, reduceSub, reduceLeDiff, reduceCtorEq, ↓asrcV, aggV, Tag.cap, GVal.solid, Nat.reduceBEq, reduceMul, reduceLT, vcA, ↓vcB, vcC, fbFy, e3, errV, Tryz.underlying28, vcD]
      refine (cA _).mono ?_
      rintro g O' ⟨s', rfl, rfl⟩
      simp +contextual -implicitDefEqProofs (maxSteps := 2000000) (disch := omega) only [↓lenV, binV, ↓unV, optV, ↓loadV, ↓storeV, ↓fieldAddrV, ↓indexAddrV, ↓allocV, ↓buildSliceV, ↓sliceV, ↓appendV, ↓srcV, bound, cutTag, hiTag, fillE, GVal.cells, GVal.ofConst, ↓resV, resG, ↓reduceIte, reduceEqDiff, reduceAdd, reduceSub, reduceLeDiff, reduceCtorEq, ↓asrcV, aggV, Tag.cap, GVal.solid, Nat.reduceBEq, reduceMul, reduceLT, vcA, ↓vcB, vcC, fbFy, e3, errV, Tryz.underlying28, vcD]
      refine (cU s' _).mono ?_
      rintro g O' ⟨so', rfl, rfl⟩
      simp +contextual -implicitDefEqProofs (maxSteps := 2000000) (disch := omega) only [↓lenV, binV, ↓unV, optV, ↓loadV, ↓storeV, ↓fieldAddrV, ↓indexAddrV, ↓allocV, ↓buildSliceV, ↓sliceV, ↓appendV, ↓srcV, bound, cutTag, hiTag, fillE, GVal.cells, GVal.ofConst, ↓resV, resG, ↓reduceIte, reduceEqDiff, reduceAdd, reduceSub, reduceLeDiff, reduceCtorEq, ↓asrcV, aggV, Tag.cap, GVal.solid, Nat.reduceBEq, reduceMul, reduceLT, vcA, ↓vcB, vcC, fbFy, e3, errV, Tryz.underlying28, vcD]
      exact Into.at ⟨((k + 1, _), ((s', so'), (m1, M1, O1 ++ T2.2))), ⟨h.1, h.2, hm1, hN1, hl1, hmas1, hthr1⟩⟩ (by show 5 - (k + 1) < 5 - k; omega) ⟨[.row sx 3 [reqG cs hs .none gr]], by simp⟩ (by simp [WL, leG_self, leG_any, leG_int])
   · have hcase : (((k : Int) < (l.length : Int)) = True ∧ ((k : Int) < 5) = False) ∨ (((k : Int) < (l.length : Int)) = False ∧ (True = True)) := by
      by_cases hh : k < l.length
      · exact .inl ⟨eq_true (by omega), eq_false (by omega)⟩
      · exact .inr ⟨eq_false (by omega), rfl⟩
     have hMO := num_len hN hm.keys
     rw [List.length_append] at hMO
     have hM1 : M.length ≤ 1000 := by omega
     have hO1 : O.length ≤ 1000 := by omega
     rcases hcase with ⟨d0, d1⟩ | ⟨d0, d1⟩
     all_goals
      simp +contextual -implicitDefEqProofs (maxSteps := 2000000) (disch := omega) only [↓lenV, binV, ↓unV, optV, ↓loadV, ↓storeV, ↓fieldAddrV, ↓indexAddrV, ↓allocV, ↓buildSliceV, ↓sliceV, ↓appendV, ↓srcV, bound, cutTag, hiTag, fillE, GVal.cells, GVal.ofConst, ↓resV, resG, ↓reduceIte, reduceEqDiff, reduceAdd, reduceSub, reduceLeDiff, reduceCtorEq, ↓asrcV, aggV, Tag.cap, GVal.solid, Nat.reduceBEq, reduceMul, reduceLT, vcA, ↓vcB, vcC, fbFy, e3, d0, d1, rrsG_len, vcD]
      refine vcSLoop_by (ι := { p : Nat × Nat // p.1 ≤ gone.length ∧ p.1 ≤ 3 }) (fun p => ⟨[.any, .slice (ints gone) .none, .any, .any, .any, .ptr 0 st 0 0, .ptr 2 ti 0 0, .any, .any, .any, .slice (hsG (hashN gone p.1.1)) (.tok 4 p.1.2), .int .i64 (p.1.1 : Nat)] ++ List.replicate 154 .any, gObj st s m ++ (idO2 ti so 600 M O ++ [.tok p.1.2 32])⟩) (fun p => 3 - p.1.1) ?_ ?_
      · refine Into.tok 10 32 [] rfl rfl ?_
        simp +contextual -implicitDefEqProofs (maxSteps := 2000000) (disch := omega) only [↓lenV, binV, ↓unV, optV, ↓loadV, ↓storeV, ↓fieldAddrV, ↓indexAddrV, ↓allocV, ↓buildSliceV, ↓sliceV, ↓appendV, ↓srcV, bound, cutTag, hiTag, fillE, GVal.cells, GVal.ofConst, ↓resV, resG, ↓reduceIte, reduceEqDiff, reduceAdd, reduceSub, reduceLeDiff, reduceCtorEq, ↓asrcV, aggV, Tag.cap, GVal.solid, Nat.reduceBEq, reduceMul, reduceLT, vcA, ↓vcB, vcC, fbFy, e3, vcD]
        intro v
        exact Into.first ⟨(0, v), Nat.zero_le _, Nat.zero_le _⟩ ⟨[], rfl⟩ (by simp [WL, leG_self, leG_any, hashN, hsG])
      · rintro ⟨⟨j, v⟩, hj1, hj3⟩
        change j ≤ gone.length at hj1
        change j ≤ 3 at hj3
        have tl := hashN_len gone j
        by_cases hjj : j < gone.length ∧ j < 3
        · have e0 : ((j : Int) < (gone.length : Int)) = True := eq_true (by omega)
          have e1 : ((j : Int) < 3) = True := eq_true (by omega)
          obtain ⟨x, ex⟩ : ∃ x, gone.getD j 0 = x := ⟨_, rfl⟩
          have eN := hashN_succ gone j
          rw [ex] at eN
          simp +contextual -implicitDefEqProofs (maxSteps := 2000000) (disch := omega) only [↓lenV, binV, ↓unV, optV, ↓loadV, ↓storeV, ↓fieldAddrV, ↓indexAddrV, ↓allocV, ↓buildSliceV, ↓sliceV, ↓appendV, ↓srcV, bound, cutTag, hiTag, fillE, GVal.cells, GVal.ofConst, ↓resV, resG, ↓reduceIte, reduceEqDiff, reduceAdd, reduceSub, reduceLeDiff, reduceCtorEq, ↓asrcV, aggV, Tag.cap, GVal.solid, Nat.reduceBEq, reduceMul, reduceLT, vcA, ↓vcB, vcC, fbFy, e3, e0, e1, ex, vcD]
          refine ⟨by omega, ?_⟩
          refine (hHashF x).then ?_ (by rfl)
          simp +contextual -implicitDefEqProofs (maxSteps := 2000000) (disch := omega) only [↓lenV, binV, ↓unV, optV, ↓loadV, ↓storeV, ↓fieldAddrV, ↓indexAddrV, ↓allocV, ↓buildSliceV, ↓sliceV, ↓appendV, ↓srcV, bound, cutTag, hiTag, fillE, GVal.cells, GVal.ofConst, ↓resV, resG, ↓reduceIte, reduceEqDiff, reduceAdd, reduceSub, reduceLeDiff, reduceCtorEq, ↓asrcV, aggV, Tag.cap, GVal.solid, Nat.reduceBEq, reduceMul, reduceLT, vcA, ↓vcB, vcC, fbFy, e3, e0, e1, hsG_len, tl, all_hsG, vcD, v32]
          refine ⟨by omega, by omega, fun v2 => ?_⟩
          rw [← eN]
          exact Into.at ⟨(j + 1, v2), hjj.1, hjj.2⟩ (by show 3 - (j + 1) < 3 - j; omega) ⟨[], by simp⟩ (by simp [WL, leG_self, leG_any, leG_int])
        · have hc2 : (((j : Int) < (gone.length : Int)) = True ∧ ((j : Int) < 3) = False) ∨ (((j : Int) < (gone.length : Int)) = False ∧ (True = True)) := by
           by_cases hh : j < gone.length
           · exact .inl ⟨eq_true (by omega), eq_false (by omega)⟩
           · exact .inr ⟨eq_false (by omega), rfl⟩
          clear hjj
          rcases hc2 with ⟨e0, e1⟩ | ⟨e0, e1⟩
          all_goals
           simp +contextual -implicitDefEqProofs (maxSteps := 2000000) (disch := omega) only [↓lenV, binV, ↓unV, optV, ↓loadV, ↓storeV, ↓fieldAddrV, ↓indexAddrV, ↓allocV, ↓buildSliceV, ↓sliceV, ↓appendV, ↓srcV, bound, cutTag, hiTag, fillE, GVal.cells, GVal.ofConst, ↓resV, resG, ↓reduceIte, reduceEqDiff, reduceAdd, reduceSub, reduceLeDiff, reduceCtorEq, ↓asrcV, aggV, Tag.cap, GVal.solid, Nat.reduceBEq, reduceMul, reduceLT, vcA, ↓vcB, vcC, fbFy, e3, e0, e1, vcD]
           have hHl : (hashN gone j).length ≤ 3 := by rw [tl]; exact hj3
           generalize hashN gone j = H at *
           clear tl
           have hDl := des_lenI hm H
           have hml2 := hm.ok.len
           have cL := fun X => iAt2 (args := []) (iListed ti so 600 M O (by omega) (by omega)) (.row st 1 [[.map 1 s]]) (.map s (kvG encL m)) rfl X
           have cMs := fun X => iAt2 (args := []) (iMasters ti so 600 M O) (.row st 1 [[.map 1 s]]) (.map s (kvG encL m)) rfl X
           have cD := fun X => (gDescendants m hm.gm st s H (.tok 4 v) (by simp) (by omega)).keep2 rfl X
           refine (cL _).mono ?_
           rintro g O' ⟨rfl, rfl⟩
           simp +contextual -implicitDefEqProofs (maxSteps := 2000000) (disch := omega) only [↓lenV, binV, ↓unV, optV, ↓loadV, ↓storeV, ↓fieldAddrV, ↓indexAddrV, ↓allocV, ↓buildSliceV, ↓sliceV, ↓appendV, ↓srcV, bound, cutTag, hiTag, fillE, GVal.cells, GVal.ofConst, ↓resV, resG, ↓reduceIte, reduceEqDiff, reduceAdd, reduceSub, reduceLeDiff, reduceCtorEq, ↓asrcV, aggV, Tag.cap, GVal.solid, Nat.reduceBEq, reduceMul, reduceLT, vcA, ↓vcB, vcC, fbFy, e3, vcD]
           refine (cMs _).mono ?_
           rintro g O' ⟨rfl, rfl⟩
           simp +contextual -implicitDefEqProofs (maxSteps := 2000000) (disch := omega) only [↓lenV, binV, ↓unV, optV, ↓loadV, ↓storeV, ↓fieldAddrV, ↓indexAddrV, ↓allocV, ↓buildSliceV, ↓sliceV, ↓appendV, ↓srcV, bound, cutTag, hiTag, fillE, GVal.cells, GVal.ofConst, ↓resV, resG, ↓reduceIte, reduceEqDiff, reduceAdd, reduceSub, reduceLeDiff, reduceCtorEq, ↓asrcV, aggV, Tag.cap, GVal.solid, Nat.reduceBEq, reduceMul, reduceLT, vcA, ↓vcB, vcC, fbFy, e3, vcD]
           refine (cD _).mono ?_
           rintro g O' ⟨rfl, rfl⟩
           simp +contextual -implicitDefEqProofs (maxSteps := 2000000) (disch := omega) only [↓lenV, binV, ↓unV, optV, ↓loadV, ↓storeV, ↓fieldAddrV, ↓indexAddrV, ↓allocV, ↓buildSliceV, ↓sliceV, ↓appendV, ↓srcV, bound, cutTag, hiTag, fillE, GVal.cells, GVal.ofConst, ↓resV, resG, ↓reduceIte, reduceEqDiff, reduceAdd, reduceSub, reduceLeDiff, reduceCtorEq, ↓asrcV, aggV, Tag.cap, GVal.solid, Nat.reduceBEq, reduceMul, reduceLT, vcA, ↓vcB, vcC, fbFy, e3, vcD]
           refine vcSLoop_by (ι := { q : Nat // q ≤ H.length }) (fun q => ⟨[.any, .any, .any, .any, .any, .ptr 0 st 0 0, .ptr 2 ti 0 0, .any, .any, .any, .slice (hsG H) (.tok 4 v), .any, .slice (hsG (M ++ O)) .none, .int .i64 M.length, .slice (hsG (desL m H)) .none, .bool ((H.take q.1).any fun x => decide (x ∈ M)), .int .i64 (q.1 : Nat)] ++ List.replicate 149 .any, gObj st s m ++ (idO2 ti so 600 M O ++ [.tok v 32])⟩) (fun q => H.length - q.1) ?_ ?_
           · exact Into.first ⟨0, Nat.zero_le _⟩ ⟨[], rfl⟩ (by simp [WL, leG_self, leG_any])
           · rintro ⟨q, hq⟩
             change q ≤ H.length at hq
             by_cases hq2 : q < H.length
             · have dq : ((q : Int) < (H.length : Int)) = True := eq_true (by omega)
               have eY := hsG_at H q hq2
               have eT : ((H.take (q + 1)).any fun x => decide (x ∈ M)) = ((H.take q).any (fun x => decide (x ∈ M)) || decide (H.getD q h0 ∈ M)) := by rw [takeH hq2, List.any_append]; simp
               generalize H.getD q h0 = y at *
               generalize (H.take q).any (fun x => decide (x ∈ M)) = bb at *
               obtain ⟨a, b, ei, hab⟩ := id_tells hN hM1 y
               have cI := fun X => iAt2 (iID ti so 600 M O y) (.row st 1 [[.map 1 s]]) (.map s (kvG encL m)) rfl X
               rw [ei] at cI
               rcases hab with ⟨rfl, ha⟩ | ⟨rfl, ha⟩
               · by_cases hy : y ∈ M
                 · rw [decide_eq_true hy] at eT ha
                   have dS : (a < 1099511627776) = True := eq_true (of_decide_eq_true ha)
                   simp +contextual -implicitDefEqProofs (maxSteps := 2000000) (disch := omega) only [↓lenV, binV, ↓unV, optV, ↓loadV, ↓storeV, ↓fieldAddrV, ↓indexAddrV, ↓allocV, ↓buildSliceV, ↓sliceV, ↓appendV, ↓srcV, bound, cutTag, hiTag, fillE, GVal.cells, GVal.ofConst, ↓resV, resG, ↓reduceIte, reduceEqDiff, reduceAdd, reduceSub, reduceLeDiff, reduceCtorEq, ↓asrcV, aggV, Tag.cap, GVal.solid, Nat.reduceBEq, reduceMul, reduceLT, vcA, ↓vcB, vcC, fbFy, e3, dq, hsG_len, eY, all_hsG, vcD, v32]
                   refine ⟨by omega, ?_⟩
                   refine (cI _).mono ?_
                   rintro g O' ⟨rfl, rfl⟩
                   simp +contextual -implicitDefEqProofs (maxSteps := 2000000) (disch := omega) only [↓lenV, binV, ↓unV, optV, ↓loadV, ↓storeV, ↓fieldAddrV, ↓indexAddrV, ↓allocV, ↓buildSliceV, ↓sliceV, ↓appendV, ↓srcV, bound, cutTag, hiTag, fillE, GVal.cells, GVal.ofConst, ↓resV, resG, ↓reduceIte, reduceEqDiff, reduceAdd, reduceSub, reduceLeDiff, reduceCtorEq, ↓asrcV, aggV, Tag.cap, GVal.solid, Nat.reduceBEq, reduceMul, reduceLT, vcA, ↓vcB, vcC, fbFy, e3, dS, vcD]
                   exact Into.at ⟨q + 1, hq2⟩ (by show H.length - (q + 1) < H.length - q; omega) ⟨[], rfl⟩ (by simp [WL, leG_self, leG_any, leG_int, leG_bool, eT])
                 · rw [decide_eq_false hy] at eT ha
                   have dS : (a < 1099511627776) = False := eq_false (of_decide_eq_false ha)
                   simp +contextual -implicitDefEqProofs (maxSteps := 2000000) (disch := omega) only [↓lenV, binV, ↓unV, optV, ↓loadV, ↓storeV, ↓fieldAddrV, ↓indexAddrV, ↓allocV, ↓buildSliceV, ↓sliceV, ↓appendV, ↓srcV, bound, cutTag, hiTag, fillE, GVal.cells, GVal.ofConst, ↓resV, resG, ↓reduceIte, reduceEqDiff, reduceAdd, reduceSub, reduceLeDiff, reduceCtorEq, ↓asrcV, aggV, Tag.cap, GVal.solid, Nat.reduceBEq, reduceMul, reduceLT, vcA, ↓vcB, vcC, fbFy, e3, dq, hsG_len, eY, all_hsG, vcD, v32]
                   refine ⟨by omega, ?_⟩
                   refine (cI _).mono ?_
                   rintro g O' ⟨rfl, rfl⟩
                   simp +contextual -implicitDefEqProofs (maxSteps := 2000000) (disch := omega) only [↓lenV, binV, ↓unV, optV, ↓loadV, ↓storeV, ↓fieldAddrV, ↓indexAddrV, ↓allocV, ↓buildSliceV, ↓sliceV, ↓appendV, ↓srcV, bound, cutTag, hiTag, fillE, GVal.cells, GVal.ofConst, ↓resV, resG, ↓reduceIte, reduceEqDiff, reduceAdd, reduceSub, reduceLeDiff, reduceCtorEq, ↓asrcV, aggV, Tag.cap, GVal.solid, Nat.reduceBEq, reduceMul, reduceLT, vcA, ↓vcB, vcC, fbFy, e3, dS, vcD]
                   exact Into.at ⟨q + 1, hq2⟩ (by show H.length - (q + 1) < H.length - q; omega) ⟨[], rfl⟩ (by simp [WL, leG_self, leG_any, leG_int, leG_bool, eT])
               · rw [ha] at eT
                 simp +contextual -implicitDefEqProofs (maxSteps := 2000000) (disch := omega) only [↓lenV, binV, ↓unV, optV, ↓loadV, ↓storeV, ↓fieldAddrV, ↓indexAddrV, ↓allocV, ↓buildSliceV, ↓sliceV, ↓appendV, ↓srcV, bound, cutTag, hiTag, fillE, GVal.cells, GVal.ofConst, ↓resV, resG, ↓reduceIte, reduceEqDiff, reduceAdd, reduceSub, reduceLeDiff, reduceCtorEq, ↓asrcV, aggV, Tag.cap, GVal.solid, Nat.reduceBEq, reduceMul, reduceLT, vcA, ↓vcB, vcC, fbFy, e3, dq, hsG_len, eY, all_hsG, vcD, v32]
                 refine ⟨by omega, ?_⟩
                 refine (cI _).mono ?_
                 rintro g O' ⟨rfl, rfl⟩
                 simp +contextual -implicitDefEqProofs (maxSteps := 2000000) (disch := omega) only [↓lenV, binV, ↓unV, optV, ↓loadV, ↓storeV, ↓fieldAddrV, ↓indexAddrV, ↓allocV, ↓buildSliceV, ↓sliceV, ↓appendV, ↓srcV, bound, cutTag, hiTag, fillE, GVal.cells, GVal.ofConst, ↓resV, resG, ↓reduceIte, reduceEqDiff, reduceAdd, reduceSub, reduceLeDiff, reduceCtorEq, ↓asrcV, aggV, Tag.cap, GVal.solid, Nat.reduceBEq, reduceMul, reduceLT, vcA, ↓vcB, vcC, fbFy, e3, vcD]
                 exact Into.at ⟨q + 1, hq2⟩ (by show H.length - (q + 1) < H.length - q; omega) ⟨[], rfl⟩ (by simp [WL, leG_self, leG_any, leG_int, leG_bool, eT])
             · have dq : ((q : Int) < (H.length : Int)) = False := eq_false (by omega)
               rw [List.take_of_length_le (show H.length ≤ q by omega)]
               by_cases hb : (H.any fun x => decide (x ∈ M)) = true
               · rw [hb]
                 obtain ⟨A, z, B, eL, hA, hz⟩ := first_of (p := masterB (ofM M O)) (L := H ++ desL m H) (by
                  obtain ⟨x, hx, hm'⟩ := List.any_eq_true.1 hb
                  exact ⟨x, List.mem_append_left _ hx, by rw [id_master hN.nd (by omega)]; exact hm'⟩)
                 have cS := fun X => GCalls.tail (iStripE m hm.gm ti st s so 600 M O H (.tok 4 v) (by simp) (by omega) (by omega) A B z eL hA hz) (by rintro g O' ⟨rfl, rfl⟩; exact ⟨rfl, by simp⟩) rfl (by simp) X
                 have cK := hKindWhich (bytesG z.1) 19 (len32 z)
                 have cE := hSame (M ++ O) (M ++ O) .none .none (by rw [List.length_append]; omega)
                 rw [decide_eq_true rfl] at cE
                 simp +contextual -implicitDefEqProofs (maxSteps := 2000000) (disch := omega) only [↓lenV, binV, ↓unV, optV, ↓loadV, ↓storeV, ↓fieldAddrV, ↓indexAddrV, ↓allocV, ↓buildSliceV, ↓sliceV, ↓appendV, ↓srcV, bound, cutTag, hiTag, fillE, GVal.cells, GVal.ofConst, ↓resV, resG, ↓reduceIte, reduceEqDiff, reduceAdd, reduceSub, reduceLeDiff, reduceCtorEq, ↓asrcV, aggV, Tag.cap, GVal.solid, Nat.reduceBEq, reduceMul, reduceLT, vcA, ↓vcB, vcC, fbFy, e3, dq, hsG_len, vcD]
                 refine (cS [.tok v 32]).mono ?_
                 rintro g O' ⟨O1, ⟨rfl, rfl⟩, rfl⟩
                 simp +contextual -implicitDefEqProofs (maxSteps := 2000000) (disch := omega) only [↓lenV, binV, ↓unV, optV, ↓loadV, ↓storeV, ↓fieldAddrV, ↓indexAddrV, ↓allocV, ↓buildSliceV, ↓sliceV, ↓appendV, ↓srcV, bound, cutTag, hiTag, fillE, GVal.cells, GVal.ofConst, ↓resV, resG, ↓reduceIte, reduceEqDiff, reduceAdd, reduceSub, reduceLeDiff, reduceCtorEq, ↓asrcV, aggV, Tag.cap, GVal.solid, Nat.reduceBEq, reduceMul, reduceLT, vcA, ↓vcB, vcC, fbFy, e3, vcD]
                 refine (cL _).mono ?_
                 rintro g O' ⟨rfl, rfl⟩
                 simp +contextual -implicitDefEqProofs (maxSteps := 2000000) (disch := omega) only [↓lenV, binV, ↓unV, optV, ↓loadV, ↓storeV, ↓fieldAddrV, ↓indexAddrV, ↓allocV, ↓buildSliceV, ↓sliceV, ↓appendV, ↓srcV, bound, cutTag, hiTag, fillE, GVal.cells, GVal.ofConst, ↓resV, resG, ↓reduceIte, reduceEqDiff, reduceAdd, reduceSub, reduceLeDiff, reduceCtorEq, ↓asrcV, aggV, Tag.cap, GVal.solid, Nat.reduceBEq, reduceMul, reduceLT, vcA, ↓vcB, vcC, fbFy, e3, vcD]
                 refine cK.then ?_ (by rfl)
                 simp +contextual -implicitDefEqProofs (maxSteps := 2000000) (disch := omega) only [↓lenV, binV, ↓unV, optV, ↓loadV, ↓storeV, ↓fieldAddrV, ↓indexAddrV, ↓allocV, ↓buildSliceV, ↓sliceV, ↓appendV, ↓srcV, bound, cutTag, hiTag, fillE, GVal.cells, GVal.ofConst, ↓resV, resG, ↓reduceIte, reduceEqDiff, reduceAdd, reduceSub, reduceLeDiff, reduceCtorEq, ↓asrcV, aggV, Tag.cap, GVal.solid, Nat.reduceBEq, reduceMul, reduceLT, vcA, ↓vcB, vcC, fbFy, e3, vcD]
                 refine cE.then ?_ (by rfl)
                 simp +contextual -implicitDefEqProofs (maxSteps := 2000000) (disch := omega) only [↓lenV, binV, ↓unV, optV, ↓loadV, ↓storeV, ↓fieldAddrV, ↓indexAddrV, ↓allocV, ↓buildSliceV, ↓sliceV, ↓appendV, ↓srcV, bound, cutTag, hiTag, fillE, GVal.cells, GVal.ofConst, ↓resV, resG, ↓reduceIte, reduceEqDiff, reduceAdd, reduceSub, reduceLeDiff, reduceCtorEq, ↓asrcV, aggV, Tag.cap, GVal.solid, Nat.reduceBEq, reduceMul, reduceLT, vcA, ↓vcB, vcC, fbFy, e3, vcD]
                 exact ⟨1, .bool true, rfl, by rw [leA_bool]⟩
               · have hb' : (H.any fun x => decide (x ∈ M)) = false := by simpa using hb
                 rw [hb']
                 have hno : ∀ x ∈ H, x ∉ M := fun x hx q => hb (List.any_eq_true.2 ⟨x, hx, decide_eq_true q⟩)
                 have hA : ∀ x ∈ H ++ desL m H, masterB (ofM M O) x = false := fun x hx => by
                  rw [id_master hN.nd (by omega)]
                  refine decide_eq_false ?_
                  rcases List.mem_append.1 hx with q | q
                  · exact hno x q
                  · exact strip_free hm hN hno q
                 have eW := strip_lists hm hN hno
                 have cS := fun X => GCalls.tail (iStripOk m hm.gm ti st s so 600 M O H (.tok 4 v) (by simp) (by omega) (by omega) (by omega) (by omega) hA) (by rintro g O' ⟨so', rfl, rfl⟩; exact ⟨rfl, by simp⟩) rfl (by simp) X
                 have hWl : (woL O (H ++ desL m H)).length ≤ O.length := List.length_filter_le _ _
                 generalize woL O (H ++ desL m H) = W at *
                 have cL2 := fun so' X => iAt2 (args := []) (iListed ti so' 600 M W (by omega) (by omega)) (.row st 1 [[.map 1 s]]) (.map s (kvG encL m)) rfl X
                 have cM2 := fun so' X => iAt2 (args := []) (iMasters ti so' 600 M W) (.row st 1 [[.map 1 s]]) (.map s (kvG encL m)) rfl X
                 have cE := hSame (M ++ W) (M ++ W) .none .none (by rw [List.length_append]; omega)
                 rw [decide_eq_true rfl] at cE
                 have cIn := fun x => hIn (desL m H) .none x (by omega)
                 simp +contextual -implicitDefEqProofs (maxSteps := 2000000) (disch := omega) only [↓lenV, binV, ↓unV, optV, ↓loadV, ↓storeV, ↓fieldAddrV, ↓indexAddrV, ↓allocV, ↓buildSliceV, ↓sliceV, ↓appendV, ↓srcV, bound, cutTag, hiTag, fillE, GVal.cells, GVal.ofConst, ↓resV, resG, ↓reduceIte, reduceEqDiff, reduceAdd, reduceSub, reduceLeDiff, reduceCtorEq, ↓asrcV, aggV, Tag.cap, GVal.solid, Nat.reduceBEq, reduceMul, reduceLT, vcA, ↓vcB, vcC, fbFy, e3, dq, hsG_len, vcD]
                 refine (cS [.tok v 32]).mono ?_
                 rintro g O' ⟨O1, ⟨so', rfl, rfl⟩, rfl⟩
                 simp +contextual -implicitDefEqProofs (maxSteps := 2000000) (disch := omega) only [↓lenV, binV, ↓unV, optV, ↓loadV, ↓storeV, ↓fieldAddrV, ↓indexAddrV, ↓allocV, ↓buildSliceV, ↓sliceV, ↓appendV, ↓srcV, bound, cutTag, hiTag, fillE, GVal.cells, GVal.ofConst, ↓resV, resG, ↓reduceIte, reduceEqDiff, reduceAdd, reduceSub, reduceLeDiff, reduceCtorEq, ↓asrcV, aggV, Tag.cap, GVal.solid, Nat.reduceBEq, reduceMul, reduceLT, vcA, ↓vcB, vcC, fbFy, e3, vcD]
                 refine (cL2 so' _).mono ?_
                 rintro g O' ⟨rfl, rfl⟩
                 simp +contextual -implicitDefEqProofs (maxSteps := 2000000) (disch := omega) only [↓lenV, binV, ↓unV, optV, ↓loadV, ↓storeV, ↓fieldAddrV, ↓indexAddrV, ↓allocV, ↓buildSliceV, ↓sliceV, ↓appendV, ↓srcV, bound, cutTag, hiTag, fillE, GVal.cells, GVal.ofConst, ↓resV, resG, ↓reduceIte, reduceEqDiff, reduceAdd, reduceSub, reduceLeDiff, reduceCtorEq, ↓asrcV, aggV, Tag.cap, GVal.solid, Nat.reduceBEq, reduceMul, reduceLT, vcA, ↓vcB, vcC, fbFy, e3, vcD]
                 have hAl : (M ++ O).length ≤ 2000 := by rw [List.length_append]; omega
                 generalize M ++ O = A at *
                 refine vcSLoop_by (ι := { p : Nat × Nat // p.1 ≤ A.length }) (fun p => ⟨[.any, .any, .any, .any, .any, .any, .ptr 2 ti 0 0, .any, .any, .any, .any, .any, .slice (hsG A) .none, .int .i64 M.length, .slice (hsG (desL m H)) .none, .bool false, .any, .any, .any, .lit .nilIface, .slice (hsG (M ++ W)) .none, .slice (hsG ((A.take p.1.1).filter fun x => !decide (x ∈ desL m H))) (.tok 5 p.1.2), .int .i64 (p.1.1 : Nat)] ++ List.replicate 143 .any, gObj st s m ++ (idO2 ti so' 600 M W ++ [.tok v 32, .tok p.1.2 32])⟩) (fun p => A.length - p.1.1) ?_ ?_
                 · refine Into.tok 21 32 [] rfl rfl ?_
                   simp +contextual -implicitDefEqProofs (maxSteps := 2000000) (disch := omega) only [↓lenV, binV, ↓unV, optV, ↓loadV, ↓storeV, ↓fieldAddrV, ↓indexAddrV, ↓allocV, ↓buildSliceV, ↓sliceV, ↓appendV, ↓srcV, bound, cutTag, hiTag, fillE, GVal.cells, GVal.ofConst, ↓resV, resG, ↓reduceIte, reduceEqDiff, reduceAdd, reduceSub, reduceLeDiff, reduceCtorEq, ↓asrcV, aggV, Tag.cap, GVal.solid, Nat.reduceBEq, reduceMul, reduceLT, vcA, ↓vcB, vcC, fbFy, e3, vcD]
                   intro v2
                   exact Into.first ⟨(0, v2), Nat.zero_le _⟩ ⟨[], rfl⟩ (by simp [WL, leG_self, leG_any, hsG])
                 · rintro ⟨⟨k2, v2⟩, hk2⟩
                   change k2 ≤ A.length at hk2
                   by_cases hk3 : k2 < A.length
                   · have dk : ((k2 : Int) < (A.length : Int)) = True := eq_true (by omega)
                     have eY := hsG_at A k2 hk3
                     have eT : ((A.take (k2 + 1)).filter fun x => !decide (x ∈ desL m H)) = ((A.take k2).filter fun x => !decide (x ∈ desL m H)) ++ (if A.getD k2 h0 ∈ desL m H then [] else [A.getD k2 h0]) := by
                      rw [takeH hk3, List.filter_append]
                      congr 1
                      by_cases q : A.getD k2 h0 ∈ desL m H
                      · rw [if_pos q, List.filter_cons_of_neg (by rw [decide_eq_true q]; decide)]; rfl
                      · rw [if_neg q, List.filter_cons_of_pos (by rw [decide_eq_false q]; decide)]; rfl
                     have hFl : ((A.take k2).filter fun x => !decide (x ∈ desL m H)).length ≤ 2000 := Nat.le_trans (List.length_filter_le _ _) (by rw [List.length_take]; omega)
                     generalize A.getD k2 h0 = y at *
                     have cI := cIn y
                     by_cases hy : y ∈ desL m H
                     · rw [decide_eq_true hy] at cI
                       rw [if_pos hy, List.append_nil] at eT
                       simp +contextual -implicitDefEqProofs (maxSteps := 2000000) (disch := omega) only [↓lenV, binV, ↓unV, optV, ↓loadV, ↓storeV, ↓fieldAddrV, ↓indexAddrV, ↓allocV, ↓buildSliceV, ↓sliceV, ↓appendV, ↓srcV, bound, cutTag, hiTag, fillE, GVal.cells, GVal.ofConst, ↓resV, resG, ↓reduceIte, reduceEqDiff, reduceAdd, reduceSub, reduceLeDiff, reduceCtorEq, ↓asrcV, aggV, Tag.cap, GVal.solid, Nat.reduceBEq, reduceMul, reduceLT, vcA, ↓vcB, vcC, fbFy, e3, dk, hsG_len, eY, all_hsG, vcD, v32]
                       refine ⟨by omega, ?_⟩
                       refine cI.then ?_ (by rfl)
                       simp +contextual -implicitDefEqProofs (maxSteps := 2000000) (disch := omega) only [↓lenV, binV, ↓unV, optV, ↓loadV, ↓storeV, ↓fieldAddrV, ↓indexAddrV, ↓allocV, ↓buildSliceV, ↓sliceV, ↓appendV, ↓srcV, bound, cutTag, hiTag, fillE, GVal.cells, GVal.ofConst, ↓resV, resG, ↓reduceIte, reduceEqDiff, reduceAdd, reduceSub, reduceLeDiff, reduceCtorEq, ↓asrcV, aggV, Tag.cap, GVal.solid, Nat.reduceBEq, reduceMul, reduceLT, vcA, ↓vcB, vcC, fbFy, e3, vcD]
                       exact Into.at ⟨(k2 + 1, v2), hk3⟩ (by show A.length - (k2 + 1) < A.length - k2; omega) ⟨[], by simp⟩ (by simp [WL, leG_self, leG_any, leG_int, eT])
                     · rw [decide_eq_false hy] at cI
                       rw [if_neg hy] at eT
                       generalize ((A.take k2).filter fun x => !decide (x ∈ desL m H)) = F at *
                       have eF : hsG F ++ [bytesG y.1] = hsG (F ++ [y]) := by simp [hsG]
                       simp +contextual -implicitDefEqProofs (maxSteps := 2000000) (disch := omega) only [↓lenV, binV, ↓unV, optV, ↓loadV, ↓storeV, ↓fieldAddrV, ↓indexAddrV, ↓allocV, ↓buildSliceV, ↓sliceV, ↓appendV, ↓srcV, bound, cutTag, hiTag, fillE, GVal.cells, GVal.ofConst, ↓resV, resG, ↓reduceIte, reduceEqDiff, reduceAdd, reduceSub, reduceLeDiff, reduceCtorEq, ↓asrcV, aggV, Tag.cap, GVal.solid, Nat.reduceBEq, reduceMul, reduceLT, vcA, ↓vcB, vcC, fbFy, e3, dk, hsG_len, eY, all_hsG, vcD, v32]
                       refine ⟨by omega, ?_⟩
                       refine cI.then ?_ (by rfl)
                       simp +contextual -implicitDefEqProofs (maxSteps := 2000000) (disch := omega) only [↓lenV, binV, ↓unV, optV, ↓loadV, ↓storeV, ↓fieldAddrV, ↓indexAddrV, ↓allocV, ↓buildSliceV, ↓sliceV, ↓appendV, ↓srcV, bound, cutTag, hiTag, fillE, GVal.cells, GVal.ofConst, ↓resV, resG, ↓reduceIte, reduceEqDiff, reduceAdd, reduceSub, reduceLeDiff, reduceCtorEq, ↓asrcV, aggV, Tag.cap, GVal.solid, Nat.reduceBEq, reduceMul, reduceLT, vcA, ↓vcB, vcC, fbFy, e3, dk, hsG_len, eY, all_hsG, vcD, v32]
                       refine ⟨by omega, by omega, by omega, fun v3 => ?_⟩
                       rw [eF]
                       exact Into.at ⟨(k2 + 1, v3), hk3⟩ (by show A.length - (k2 + 1) < A.length - k2; omega) ⟨[], by simp⟩ (by simp [WL, leG_self, leG_any, leG_int, eT])
                   · have dk : ((k2 : Int) < (A.length : Int)) = False := eq_false (by omega)
                     rw [List.take_of_length_le (show A.length ≤ k2 by omega), eW]
                     have cE2 := hSame (M ++ W) (M ++ W) .none (.tok 5 v2) (by rw [List.length_append]; omega)
                     rw [decide_eq_true rfl] at cE2
                     simp +contextual -implicitDefEqProofs (maxSteps := 2000000) (disch := omega) only [↓lenV, binV, ↓unV, optV, ↓loadV, ↓storeV, ↓fieldAddrV, ↓indexAddrV, ↓allocV, ↓buildSliceV, ↓sliceV, ↓appendV, ↓srcV, bound, cutTag, hiTag, fillE, GVal.cells, GVal.ofConst, ↓resV, resG, ↓reduceIte, reduceEqDiff, reduceAdd, reduceSub, reduceLeDiff, reduceCtorEq, ↓asrcV, aggV, Tag.cap, GVal.solid, Nat.reduceBEq, reduceMul, reduceLT, vcA, ↓vcB, vcC, fbFy, e3, dk, hsG_len, Tryz.underlying28, vcD]
                     refine cE2.then ?_ (by rfl)
                     simp +contextual -implicitDefEqProofs (maxSteps := 2000000) (disch := omega) only [↓lenV, binV, ↓unV, optV, ↓loadV, ↓storeV, ↓fieldAddrV, ↓indexAddrV, ↓allocV, ↓buildSliceV, ↓sliceV, ↓appendV, ↓srcV, bound, cutTag, hiTag, fillE, GVal.cells, GVal.ofConst, ↓resV, resG, ↓reduceIte, reduceEqDiff, reduceAdd, reduceSub, reduceLeDiff, reduceCtorEq, ↓asrcV, aggV, Tag.cap, GVal.solid, Nat.reduceBEq, reduceMul, reduceLT, vcA, ↓vcB, vcC, fbFy, e3, vcD]
                     refine (cM2 so' _).mono ?_
                     rintro g O' ⟨rfl, rfl⟩
                     simp +contextual -implicitDefEqProofs (maxSteps := 2000000) (disch := omega) only [↓lenV, binV, ↓unV, optV, ↓loadV, ↓storeV, ↓fieldAddrV, ↓indexAddrV, ↓allocV, ↓buildSliceV, ↓sliceV, ↓appendV, ↓srcV, bound, cutTag, hiTag, fillE, GVal.cells, GVal.ofConst, ↓resV, resG, ↓reduceIte, reduceEqDiff, reduceAdd, reduceSub, reduceLeDiff, reduceCtorEq, ↓asrcV, aggV, Tag.cap, GVal.solid, Nat.reduceBEq, reduceMul, reduceLT, vcA, ↓vcB, vcC, fbFy, e3, vcD]
                     exact ⟨1, .bool true, rfl, by rw [leA_bool]⟩
end Gv.Tryz
set_option linter.unusedVariables false
namespace Gv.Sp
open Gv
abbrev S := Int × Int
def has (l : List S) (n : Int) : Prop := ∃ s ∈ l, 0 ≤ n ∧ s.1 ≤ n ∧ n ≤ s.2
theorem has_cons (s : S) (l : List S) (n : Int) : has (s :: l) n ↔ (0 ≤ n ∧ s.1 ≤ n ∧ n ≤ s.2) ∨ has l n := by simp [has]
def Rt : Int → List S → Prop
 | _, [] => True
 | b, s :: r => b ≤ s.1 ∧ s.1 ≤ s.2 ∧ Rt (s.2 + 2) r
theorem Rt.weak {b b' : Int} : ∀ {l : List S}, Rt b l → b' ≤ b → Rt b' l
 | [], _, _ => trivial
 | s :: r, ⟨h1, h2, h3⟩, h => ⟨by omega, h2, h3⟩
theorem Rt.ge {n : Int} : ∀ {l : List S} {b : Int}, Rt b l → has l n → b ≤ n
 | [], b, _, h => by simp [has] at h
 | s :: r, b, ⟨h1, h2, h3⟩, h => by
  rcases (has_cons s r n).1 h with h | h
  · omega
  · have := h3.ge h; omega
theorem Rt.mem {s : S} : ∀ {l : List S} {b : Int}, Rt b l → s ∈ l → b ≤ s.1 ∧ s.1 ≤ s.2
 | [], b, _, h => by simp at h
 | x :: r, b, ⟨h1, h2, h3⟩, h => by
  rcases List.mem_cons.1 h with rfl | h
  · exact ⟨h1, h2⟩
  · have := h3.mem h; omega
theorem Rt.lo {s : S} {l : List S} {b : Int} (h : Rt b l) (hb : 0 ≤ b) (hs : s ∈ l) : has l s.1 := ⟨s, hs, by have := h.mem hs; omega⟩
theorem Rt.hi {s : S} {l : List S} {b : Int} (h : Rt b l) (hb : 0 ≤ b) (hs : s ∈ l) : has l s.2 := ⟨s, hs, by have := h.mem hs; omega⟩
theorem uniq : ∀ {l l' : List S} {b b' : Int}, Rt b l → Rt b' l' → 0 ≤ b → 0 ≤ b' → (∀ n, has l n ↔ has l' n) → l = l'
 | [], [], _, _, _, _, _, _, _ => rfl
 | [], y :: r, _, b', _, h', _, h0', h => absurd ((h y.1).2 (h'.lo h0' (by simp))) (by simp [has])
 | x :: r, [], b, _, h', _, h0', _, h => absurd ((h x.1).1 (h'.lo h0' (by simp))) (by simp [has])
 | (x1, x2) :: r, (y1, y2) :: q, b, b', hx, hy, hb, hb', h => by
  have e1 : has ((y1, y2) :: q) x1 := (h _).1 (hx.lo hb (s := (x1, x2)) (by simp))
  have e2 : has ((x1, x2) :: r) y1 := (h _).2 (hy.lo hb' (s := (y1, y2)) (by simp))
  obtain ⟨p1, p2, p3⟩ := hx
  obtain ⟨q1, q2, q3⟩ := hy
  simp only at p1 p2 p3 q1 q2 q3
  have g1 : y1 ≤ x1 := by
   rcases (has_cons _ _ _).1 e1 with e | e
   · exact e.2.1
   · have := q3.ge e; omega
  have g2 : x1 ≤ y1 := by
   rcases (has_cons _ _ _).1 e2 with e | e
   · exact e.2.1
   · have := p3.ge e; omega
  have g : x1 = y1 := by omega
  have k1 : ¬ x2 < y2 := fun hlt => by
   have e := (h (x2 + 1)).2 ((has_cons _ _ _).2 (.inl ⟨by omega, by show y1 ≤ _; omega, by show _ ≤ y2; omega⟩))
   rcases (has_cons _ _ _).1 e with e | e
   · have := e.2.2; simp only at this; omega
   · have := p3.ge e; omega
  have k2 : ¬ y2 < x2 := fun hlt => by
   have e := (h (y2 + 1)).1 ((has_cons _ _ _).2 (.inl ⟨by omega, by show x1 ≤ _; omega, by show _ ≤ x2; omega⟩))
   rcases (has_cons _ _ _).1 e with e | e
   · have := e.2.2; simp only at this; omega
   · have := q3.ge e; omega
  have k : x2 = y2 := by omega
  subst g; subst k
  have hr : ∀ n, has r n ↔ has q n := fun n => by
   constructor
   · intro hn
     rcases (has_cons _ _ _).1 ((h n).1 ((has_cons _ _ _).2 (.inr hn))) with e | e
     · have := p3.ge hn; have := e.2.2; simp only at this; omega
     · exact e
   · intro hn
     rcases (has_cons _ _ _).1 ((h n).2 ((has_cons _ _ _).2 (.inr hn))) with e | e
     · have := q3.ge hn; have := e.2.2; simp only at this; omega
     · exact e
  rw [uniq p3 q3 (by omega) (by omega) hr]

def ins : List S → S → List S
 | [], s => [s]
 | x :: r, s => if x.2 + 1 < s.1 then x :: ins r s else if s.2 + 1 < x.1 then s :: x :: r else ins r (min s.1 x.1, max s.2 x.2)
def put (acc : List S) (s : S) : List S := if max s.1 0 ≤ s.2 then ins acc (max s.1 0, s.2) else acc
def Ok (l : List S) : Prop := ∀ s ∈ l, (-9223372036854775808 ≤ s.1 ∧ s.1 ≤ 9223372036854775807) ∧ (-9223372036854775808 ≤ s.2 ∧ s.2 ≤ 9223372036854775807)
theorem Ok.has {l : List S} (h : Ok l) {n : Int} (hn : has l n) : n ≤ 9223372036854775807 := by obtain ⟨s, hs, h1, h2, h3⟩ := hn; have := (h s hs).2.2; omega
theorem Ok.app {a b : List S} (ha : Ok a) (hb : Ok b) : Ok (a ++ b) := fun s hs => (List.mem_append.1 hs).elim (ha s) (hb s)
theorem Ok.nil : Ok [] := fun s hs => by simp at hs
theorem Ok.at {l : List S} (h : Ok l) (i : Nat) : (-9223372036854775808 ≤ (l.getD i (0, 0)).1 ∧ (l.getD i (0, 0)).1 ≤ 9223372036854775807) ∧ (-9223372036854775808 ≤ (l.getD i (0, 0)).2 ∧ (l.getD i (0, 0)).2 ≤ 9223372036854775807) := by
 by_cases hi : i < l.length
 · rw [List.getD_eq_getElem?_getD, List.getElem?_eq_getElem hi]; exact h _ (List.getElem_mem hi)
 · rw [List.getD_eq_getElem?_getD, List.getElem?_eq_none (by omega)]; simp
theorem Rt.at {l : List S} {b : Int} (h : Rt b l) (i : Nat) (hi : i < l.length) : b ≤ (l.getD i (0, 0)).1 ∧ (l.getD i (0, 0)).1 ≤ (l.getD i (0, 0)).2 := by
 rw [List.getD_eq_getElem?_getD, List.getElem?_eq_getElem hi]; exact h.mem (List.getElem_mem hi)

def both (a b : List S) : List S :=
 match a, b with
 | [], _ => []
 | _ :: _, [] => []
 | x :: a, y :: b => (if max x.1 y.1 ≤ min x.2 y.2 then [(max x.1 y.1, min x.2 y.2)] else []) ++ if x.2 < y.2 then both a (y :: b) else both (x :: a) b
termination_by a.length + b.length
def restF (low : Int) : List S → List S
 | [] => [(low, 9223372036854775807)]
 | s :: r => (if low < s.1 then [(low, s.1 - 1)] else []) ++ if s.2 = 9223372036854775807 then [] else restF (s.2 + 1) r
def rest (l : List S) : List S := restF 0 l
end Gv.Sp
set_option linter.unusedVariables false
namespace Gv
end Gv
set_option linter.unusedVariables false
namespace Gv
open Go
theorem den_slice {α : Type} {e : Sh} (enc : α → List GVal) (ok : α → Prop) (he : ∀ {x}, Den e x → ∃ a, x = enc a ∧ ok a) {gs : List GVal} (h : Den (.slice e) gs) : ∃ l : List α, gs = [.slice (l.map enc) .none] ∧ l.length ≤ maxLen ∧ ∀ a ∈ l, ok a := by
 obtain ⟨xs, rfl, hl, hx⟩ := h
 have : ∀ xs : List (List GVal), (∀ x ∈ xs, Den e x) → ∃ l : List α, xs = l.map enc ∧ ∀ a ∈ l, ok a := by
  intro xs
  induction xs with
  | nil => exact fun _ => ⟨[], rfl, by simp⟩
  | cons a r ih =>
   intro h
   obtain ⟨l, rfl, hl⟩ := ih fun x hx => h x (by simp [hx])
   obtain ⟨n, rfl, hn⟩ := he (h a (by simp))
   exact ⟨n :: l, rfl, by simpa using ⟨hn, hl⟩⟩
 obtain ⟨l, rfl, h2⟩ := this xs hx
 exact ⟨l, rfl, by simpa using hl, h2⟩
end Gv
set_option linter.unusedVariables false
namespace Gv.Tryz
open Go Gv Go.Proofs
abbrev rawS : Sh := .agg [.int .i64, .int .i64, .slice (.int .i64)]
abbrev rrS : Sh := .agg [.slice rawS, .slice (.int .i64), .int .i64, .int .i64]
theorem den_ints {gs : List GVal} (h : Den (.slice (.int .i64)) gs) : ∃ l : List Int, gs = [.slice (ints l) .none] := by
 obtain ⟨l, rfl, _⟩ := den_slice (fun n : Int => [.int .i64 n]) (fun n => (Lit.int .i64 n).wf = true) (fun {x} (h : Den (.int .i64) x) => h) h
 exact ⟨l, rfl⟩
theorem den_raw {gs : List GVal} (h : Den rawS gs) : ∃ r : RC, gs = rawC r ∧ True := by
 obtain ⟨ps, rfl, p, q, rfl, ⟨a, rfl, _⟩, p2, q2, rfl, ⟨b, rfl, _⟩, p3, q3, rfl, h3, rfl⟩ := h
 obtain ⟨l, rfl⟩ := den_ints h3
 exact ⟨(a, b, l), rfl, trivial⟩
theorem den_rr {gs : List GVal} (h : Den rrS gs) : ∃ r : RR, gs = rrG r ∧ True := by
 obtain ⟨ps, rfl, p, q, rfl, h1, p2, q2, rfl, h2, p3, q3, rfl, ⟨c, rfl, _⟩, p4, q4, rfl, ⟨d, rfl, _⟩, rfl⟩ := h
 obtain ⟨l, rfl, _, _⟩ := den_slice rawC (fun _ => True) (fun {x} h => den_raw h) h1
 obtain ⟨hs, rfl⟩ := den_ints h2
 exact ⟨⟨l, hs, c, d⟩, rfl, trivial⟩
theorem den_rrs {gs : List GVal} (h : Den (.slice rrS) gs) : ∃ l : List RR, gs = [.slice (rrsG l) .none] := by
 obtain ⟨l, rfl, _, _⟩ := den_slice rrG (fun _ => True) (fun {x} h => den_rr h) h
 exact ⟨l, rfl⟩
end Gv.Tryz
set_option linter.unusedVariables false
namespace Gv.Tryz
open Go Gv Go.Proofs
theorem wStrips {g0 g1 : List GVal} (h0 : Den (.slice rrS) g0) (h1 : Den (.slice (.int .i64)) g1) : GPure Tryz.prog 3 ([Sh.val (.slice rrS) g0, Sh.val (.slice (.int .i64)) g1]) (.bool true) := by
 obtain ⟨l, rfl⟩ := den_rrs h0
 obtain ⟨a, rfl⟩ := den_ints h1
 exact specStrips l a
end Gv.Tryz
set_option linter.unusedVariables false
namespace Gv
open Go Go.RowKit Go.WideShapes Go.ChangeShapes
namespace Z

inductive Sh where
 | int (k : IntKind)
 | bool
 | str
 | slice (e : Sh)
 | agg (l : List Sh)
 | arr (n : Nat) (e : Sh)
mutual
def Sh.size : Sh → Nat
 | .agg l => Sh.sizes l
 | .arr n e => n * e.size
 | _ => 1
def Sh.sizes : List Sh → Nat
 | [] => 0
 | s :: r => s.size + Sh.sizes r
end
mutual
def Sh.low : Sh → Nat
 | .int .i64 => 8
 | .int .u64 => 8
 | .int _ => 1
 | .bool => 1
 | .str => 16
 | .slice _ => 24
 | .agg l => Sh.lows l
 | .arr n e => n * e.low
def Sh.lows : List Sh → Nat
 | [] => 0
 | s :: r => s.low + Sh.lows r
end
mutual
def shB (P : Program) : Sh → TypeId → Bool
 | .int k, t => match P.underlying t with
  | some (.int k') => k = k'
  | _ => false
 | .bool, t => match P.underlying t with
  | some .bool => true
  | _ => false
 | .str, t => match P.underlying t with
  | some .string => true
  | _ => false
 | .slice e, t => match P.underlying t with
  | some (.slice et) => shB P e et && P.cellsOf et == e.size && decide (0 < e.size) && decide (e.low ≤ P.bytesOf et)
  | _ => false
 | .agg l, t => match P.underlying t with
  | some (.struct fs) => shBs P l fs.toList 0 && P.cellsOf t == Sh.sizes l
  | _ => false
 | .arr n e, t => match P.underlying t with
  | some (.array n' et) => n == n' && shB P e et && P.cellsOf et == e.size && P.cellsOf t == n * e.size
  | _ => false
def shBs (P : Program) : List Sh → List Field → Nat → Bool
 | [], [], _ => true
 | s :: r, f :: fs, o => f.offset == o && P.cellsOf f.type == s.size && shB P s f.type && shBs P r fs (o + s.size)
 | _, _, _ => false
end
mutual
def Den : Sh → List GVal → Prop
 | .int k, gs => ∃ n, gs = [.int k n] ∧ (Lit.int k n).wf = true
 | .bool, gs => ∃ b, gs = [.bool b]
 | .str, gs => ∃ s, gs = [.str s] ∧ s.length ≤ reachBytes
 | .slice e, gs => ∃ xs, gs = [.slice xs .none] ∧ (xs.length ≤ maxLen ∧ xs.length * e.low ≤ reachBytes) ∧ ∀ x ∈ xs, Den e x
 | .agg l, gs => ∃ ps, gs = ps.flatten ∧ Dens l ps
 | .arr n e, gs => ∃ ps : List (List GVal), gs = ps.flatten ∧ ps.length = n ∧ ∀ p ∈ ps, Den e p ∧ p.length = e.size
def Dens : List Sh → List (List GVal) → Prop
 | [], ps => ps = []
 | s :: r, ps => ∃ p q, ps = p :: q ∧ Den s p ∧ Dens r q
end

theorem mem_all {H : Type} {P : Program} {e : TypeId} : ∀ {ds : List (DataW H)} {d : DataW H}, d ∈ ds → ∀ n ∈ d.weights P e, n ∈ DataW.weightsAll P e ds
 | a :: r, d, hd, n, hn => by
  simp only [DataW.weightsAll, List.mem_append]
  rcases List.mem_cons.1 hd with rfl | hd
  · exact .inl hn
  · exact .inr (mem_all hd n hn)
 | [], d, hd, n, hn => by simp at hd
section
variable {H : Type} {enc : TypeId × Value → H} {P : Program} {w : World} {spare : Nat → Bool} {held : Bool}

mutual
theorem rd : ∀ (S : Sh) (n : Nat) (t : TypeId) (cs : List Value) (x : DataW H × List MemPlace), shB P S t = true → DataW.trod enc P w 0 spare held n t cs = some x → (∀ k ∈ x.1.weights P t, k ≤ reachBytes) → ∃ gs, CellsOK w cs gs ∧ Den S gs ∧ cs.length = S.size
 | .int k, n, t, cs, x, hs, h, hw => by
  unfold shB at hs
  split at hs
  · rename_i k' hu
    have hs : k = k' := by simpa using hs
    subst hs
    obtain ⟨m, rfl, _, hwf⟩ := DataW.trod_int hu h
    exact ⟨[.int k m], .one rfl (.int _ _), ⟨m, rfl, hwf⟩, rfl⟩
  · cases hs
 | .bool, n, t, cs, x, hs, h, hw => by
  unfold shB at hs
  split at hs
  · rename_i hu
    obtain ⟨b, rfl, _⟩ := DataW.trod_bool hu h
    exact ⟨[.bool b], .one rfl (.bool _), ⟨b, rfl⟩, rfl⟩
  · cases hs
 | .str, n, t, cs, x, hs, h, hw => by
  unfold shB at hs
  split at hs
  · rename_i hu
    cases n with
    | zero => simp [DataW.trod] at h
    | succ n =>
     unfold DataW.trod at h
     rw [hu] at h
     match cs, h with
     | [.string b], h =>
      simp only at h
      split at h
      · rename_i hl
        simp only [Option.some.injEq] at h
        subst h
        refine ⟨[.str b.data.toList], .one rfl ?_, ⟨_, rfl, ?_⟩, rfl⟩
        · exact VR.str (E := Env.all w) b.data.toList
        · exact hw _ (by simp [DataW.weights])
      · cases h
  · cases hs
 | .slice e, n, t, cs, x, hs, h, hw => by
  unfold shB at hs
  split at hs
  · rename_i et hu
    simp only [Bool.and_eq_true, beq_iff_eq] at hs
    obtain ⟨⟨⟨hs, hsz⟩, hpos⟩, hlow⟩ := hs
    have hpos : 0 < e.size := by simpa using hpos
    have hlow : e.low ≤ P.bytesOf et := by simpa using hlow
    rcases DataW.trod_slice hu h with ⟨rfl, _⟩ | ⟨a, len, cap, elems, rest, m, rfl, rfl, rfl, _, hlc, hcm, hel, helem, _, _⟩
    · exact ⟨[.slice [] .none], .one rfl (.slice none 0 0 [] .none 0 (fun _ => .bool true) rfl (Nat.le_refl _) (by simp) (fun hx => absurd rfl hx) (by simp) trivial), ⟨[], rfl, ⟨by simp, by simp⟩, by simp⟩, rfl⟩
    · have hw0 : (elems.length + rest.length) * P.bytesOf et ≤ reachBytes := by
       have := hw ((elems.length + rest.length) * P.bytesOf et) (by show _ ∈ DataW.weights P t (.slice _ _); rw [DataW.weights]; simp only [hu, List.length_map]; exact List.mem_cons_self)
       exact this
      have hwE : ∀ d ∈ elems.map (·.1), ∀ k ∈ d.weights P et, k ≤ reachBytes := fun d hd k hk =>
       hw k (by show k ∈ DataW.weights P t (.slice _ _); rw [DataW.weights]; simp only [hu]; exact List.mem_cons_of_mem _ (List.mem_append_left _ (mem_all hd k hk)))
      have each : ∀ i : Nat, ∃ cs gs, i < len → (w.cells? 0 (a.add (i * P.cellsOf et)) (P.cellsOf et)) = some cs ∧ CellsOK w cs gs ∧ Den e gs ∧ cs.length = e.size := by
       intro i
       by_cases hi : i < len
       · have := helem i hi
         rw [← hel] at hi
         rw [List.getElem?_eq_getElem hi, Option.bind_eq_some_iff] at this
         obtain ⟨cs, h1, h2⟩ := this
         obtain ⟨gs, h3, h4, h5⟩ := rd e m et cs _ hs h2 (fun k hk => hwE _ (List.mem_map_of_mem (List.getElem_mem hi)) k hk)
         exact ⟨cs, gs, fun _ => ⟨h1, h3, h4, h5⟩⟩
       · exact ⟨[], [], fun h => absurd h hi⟩
      obtain ⟨C, hC⟩ := Classical.axiomOfChoice each
      obtain ⟨G, hCG⟩ := Classical.axiomOfChoice hC
      refine ⟨[.slice ((List.range len).map G) .none], .one rfl ?_, ⟨_, rfl, ⟨by simp; omega, ?_⟩, fun x hx => ?_⟩, rfl⟩
      · have hG : ∀ i, i < len → (G i).length = e.size := fun i hi => by rw [← (hCG i hi).2.1.1]; exact (hCG i hi).2.2.2
        have cell : ∀ i, i < len → ∀ j, j < e.size → w.cell? ((a.add (i * e.size)).add j) = (C i)[j]? := fun i hi j hj => by
         have := cells_at (hCG i hi).1
         rw [hsz] at this
         exact this.2 j hj
        have dm : ∀ k, k < len * e.size → k / e.size < len ∧ k % e.size < e.size ∧ k / e.size * e.size + k % e.size = k := fun k hk =>
         ⟨(Nat.div_lt_iff_lt_mul hpos).2 hk, Nat.mod_lt _ hpos, by rw [Nat.mul_comm]; exact Nat.div_add_mod k e.size⟩
        have hszs : ∀ x ∈ (List.range len).map G, x.length = e.size := fun x hx => by
         obtain ⟨i, hi, rfl⟩ := List.mem_map.1 hx
         exact hG i (by simpa using hi)
        refine .slice (some a) len cap _ .none e.size (fun k => ((C (k / e.size))[k % e.size]?).getD (.bool true)) (by simp) hlc hszs (fun hx => ?_) (fun k g hk => ?_) trivial
        · have hlen : 0 < len := by
           rcases Nat.eq_zero_or_pos len with h0 | h0
           · subst h0; simp at hx
           · exact h0
          have in_ : ∀ i, i < len → ∀ j, j < e.size → ∃ v, (C i)[j]? = some v ∧ v.oneCell' = true := fun i hi j hj => by
           have hl : j < (C i).length := by rw [(hCG i hi).2.2.2]; exact hj
           exact ⟨_, List.getElem?_eq_getElem hl, (hCG i hi).2.1.2.1 _ (List.getElem_mem hl)⟩
          obtain ⟨b, off, spot⟩ := a
          have hspot : spot = none := by
           obtain ⟨v, hv, _⟩ := in_ 0 hlen 0 hpos
           have := cell 0 hlen 0 hpos
           rw [hv] at this
           simpa [Addr.add] using World.cell?_spot this
          subst hspot
          refine ⟨b, off, rfl, fun k hk => ?_⟩
          obtain ⟨d1, d2, d3⟩ := dm k hk
          obtain ⟨v, hv, hv2⟩ := in_ _ d1 _ d2
          have := cell _ d1 _ d2
          rw [hv] at this
          rw [hv]
          refine Env.all_at ?_ hv2
          rw [add_at, add_at, Nat.add_assoc, d3] at this
          exact this
        · have hk' : k < len * e.size := by
           have := (List.getElem?_eq_some_iff.1 hk).1
           rw [flat_len hszs] at this
           simpa using this
          obtain ⟨d1, d2, d3⟩ := dm k hk'
          have hx : ((List.range len).map G)[k / e.size]? = some (G (k / e.size)) := by simp [d1]
          have e1 := flatten_at _ hszs (k / e.size) (k % e.size) _ hx d2
          rw [d3, hk] at e1
          have hl : k % e.size < (C (k / e.size)).length := by rw [(hCG _ d1).2.2.2]; exact d2
          rw [List.getElem?_eq_getElem hl]
          exact (hCG _ d1).2.1.2.2 _ _ _ (List.getElem?_eq_getElem hl) e1.symm
      · rw [List.length_map, List.length_range]
        refine Nat.le_trans (Nat.mul_le_mul (by omega : len ≤ elems.length + rest.length) hlow) hw0
      · obtain ⟨i, hi, rfl⟩ := List.mem_map.1 hx
        exact (hCG i (by simpa using hi)).2.2.1
  · cases hs
 | .agg l, n, t, cs, x, hs, h, hw => by
  unfold shB at hs
  split at hs
  · rename_i fs hu
    simp only [Bool.and_eq_true, beq_iff_eq] at hs
    obtain ⟨hs, hsz⟩ := hs
    obtain ⟨xs, m, rfl, rfl, hcl, hxl, hf⟩ := DataW.trod_struct hu h
    obtain ⟨ps, h1, h2⟩ := rds l m fs.toList cs 0 hs (by simpa [hsz] using hcl) (fun f hf' => by
     obtain ⟨i, hi⟩ := List.getElem?_of_mem hf'
     have := hf i f (by simpa using hi)
     have hlt : i < xs.length := by rw [hxl]; simpa using (List.getElem?_eq_some_iff.1 hi).1
     rw [List.getElem?_eq_getElem hlt] at this
     refine ⟨_, this, fun k hk => hw k ?_⟩
     simp only [DataW.weights, hu]
     exact DataW.weights_mem_each (j := i) (t := f.type) (d := xs[i].1) (by rw [List.getElem?_map, hi]; rfl) (by rw [List.getElem?_map, List.getElem?_eq_getElem hlt]; rfl) k hk)
    exact ⟨ps.flatten, by simpa using h1, ⟨ps, rfl, h2⟩, by rw [hcl, hsz]; rfl⟩
  · cases hs
 | .arr c e, n, t, cs, x, hs, h, hw => by
  unfold shB at hs
  split at hs
  · rename_i n' et hu
    simp only [Bool.and_eq_true, beq_iff_eq] at hs
    obtain ⟨⟨⟨rfl, hs⟩, hsz⟩, hct⟩ := hs
    obtain ⟨xs, m, rfl, rfl, hcl, hxl, hf⟩ := DataW.trod_array hu h
    have key : ∀ k, k ≤ c → ∃ ps : List (List GVal), CellsOK w (cs.take (k * e.size)) ps.flatten ∧ ps.length = k ∧ ∀ p ∈ ps, Den e p ∧ p.length = e.size := by
     intro k
     induction k with
     | zero => exact fun _ => ⟨[], by simp [CellsOK], rfl, by simp⟩
     | succ k ih =>
      intro hk
      obtain ⟨ps, h1, h2, h3⟩ := ih (by omega)
      have := hf k (by omega)
      have hlt : k < xs.length := by omega
      rw [List.getElem?_eq_getElem hlt] at this
      obtain ⟨gs, q1, q2, q3⟩ := rd e m et _ _ hs this (fun z hz => hw z (by
       simp only [DataW.weights, hu]
       exact mem_all (List.mem_map_of_mem (List.getElem_mem hlt)) z hz))
      refine ⟨ps ++ [gs], ?_, by simp [h2], fun p hp => ?_⟩
      · rw [List.flatten_append, List.flatten_cons, List.flatten_nil, List.append_nil, Nat.succ_mul, List.take_add]
        rw [hsz] at q1
        exact h1.append q1
      · rcases List.mem_append.1 hp with hp | hp
        · exact h3 p hp
        · simp at hp; subst hp
          exact ⟨q2, by rw [← q1.1, q3]⟩
    obtain ⟨ps, h1, h2, h3⟩ := key c (Nat.le_refl _)
    rw [List.take_of_length_le (by omega)] at h1
    exact ⟨ps.flatten, h1, ⟨ps, rfl, h2, h3⟩, by rw [hcl, hct]; rfl⟩
  · cases hs
theorem rds : ∀ (l : List Sh) (n : Nat) (fs : List Field) (cs : List Value) (o : Nat), shBs P l fs o = true → cs.length = o + Sh.sizes l →
 (∀ f ∈ fs, ∃ x, DataW.trod enc P w 0 spare held n f.type ((cs.drop f.offset).take (P.cellsOf f.type)) = some x ∧ ∀ k ∈ x.1.weights P f.type, k ≤ reachBytes) → ∃ ps, CellsOK w (cs.drop o) ps.flatten ∧ Dens l ps
 | [], n, fs, cs, o, hs, hl, h => by
  refine ⟨[], ?_, rfl⟩
  rw [List.drop_eq_nil_of_le (by rw [hl]; simp [Sh.sizes])]
  exact ⟨rfl, by simp, fun j c g h1 => by simp at h1⟩
 | s :: r, n, fs, cs, o, hs, hl, h => by
  match fs, hs, h with
  | f :: fs, hs, h =>
   unfold shBs at hs
   simp only [Bool.and_eq_true, beq_iff_eq] at hs
   obtain ⟨⟨⟨h1, h2⟩, h3⟩, h4⟩ := hs
   obtain ⟨x, hx, hxw⟩ := h f (by simp)
   obtain ⟨gs, q1, q2, q3⟩ := rd s n f.type _ _ h3 hx hxw
   simp only [Sh.sizes] at hl
   obtain ⟨ps, k1, k2⟩ := rds r n fs cs (o + s.size) h4 (by rw [hl]; omega) (fun f' hf' => h f' (by simp [hf']))
   refine ⟨gs :: ps, ?_, ⟨gs, ps, rfl, q2, k2⟩⟩
   rw [List.flatten_cons]
   have e : cs.drop o = (cs.drop f.offset).take (P.cellsOf f.type) ++ cs.drop (o + s.size) := by
    rw [h1, h2, ← List.drop_drop]; exact (List.take_append_drop _ _).symm
   rw [e]
   exact q1.append k1
  | [], hs, h => simp [shBs] at hs
end

def Sh.val : Sh → List GVal → GVal
 | .agg _, gs => .agg gs
 | .arr _ _, gs => .agg gs
 | _, gs => gs.headD .any

theorem arg_read {S : Sh} {t : TypeId} {r : Reach} {base : Nat} {v : Value} {d : DataW H} {ps : List MemPlace} (hs : shB P S t = true) (hval : Value.okWide P w r base t v) (h : DataW.Trod enc P w 0 spare held t v d ps) (hw : ∀ k ∈ d.weights P t, k ≤ reachBytes) :
 ∃ gs, Den S gs ∧ VR (Env.all w) v (S.val gs) := by
 obtain ⟨n, h⟩ := h
 obtain ⟨gs, h1, h2, h3⟩ := rd S n t _ _ hs h hw
 refine ⟨gs, h2, ?_⟩
 have single : ∀ x : Value, v = x → x.cells.toList = [x] → (∃ g, gs = [g]) → S.val gs = gs.headD .any → VR (Env.all w) v (S.val gs) := by
  intro x hx hc ⟨g, hg⟩ hv
  subst hx; subst hg
  rw [hv]
  rw [hc] at h1
  exact h1.2.2 0 _ _ rfl rfl
 cases S with
 | int k =>
  unfold shB at hs
  split at hs
  · rename_i k' hu
    obtain ⟨n, rfl⟩ := okWide_int hu hval
    obtain ⟨m, e, _⟩ := h2
    exact single _ rfl rfl ⟨_, e⟩ rfl
  · cases hs
 | bool =>
  unfold shB at hs
  split at hs
  · rename_i hu
    obtain ⟨n, rfl⟩ := okWide_bool hu hval
    obtain ⟨m, e⟩ := h2
    exact single _ rfl rfl ⟨_, e⟩ rfl
  · cases hs
 | str =>
  unfold shB at hs
  split at hs
  · rename_i hu
    obtain ⟨n, rfl⟩ := okWide_string hu hval
    obtain ⟨m, e, _⟩ := h2
    exact single _ rfl rfl ⟨_, e⟩ rfl
  · cases hs
 | slice e =>
  unfold shB at hs
  split at hs
  · rename_i et hu
    obtain ⟨a, len, cap, rfl⟩ := okWide_slice hu hval
    obtain ⟨m, e, _⟩ := h2
    exact single _ rfl rfl ⟨_, e⟩ rfl
  · cases hs
 | agg l =>
  unfold shB at hs
  split at hs
  · rename_i fs hu
    obtain ⟨cs, rfl, _⟩ := okWide_struct hu hval
    refine .agg cs gs (by have := h1.1; simpa [Value.cells] using this) (fun j g hj => ?_)
    have hl : j < cs.size := by
     have := (List.getElem?_eq_some_iff.1 hj).1
     rw [← h1.1] at this; simpa [Value.cells] using this
    have := h1.2.2 j cs[j] g (by simp [Value.cells, hl]) hj
    simpa [Array.getD, hl] using this
  · cases hs
 | arr c e =>
  unfold shB at hs
  split at hs
  · rename_i n' et hu
    have hval' := hval
    simp only [Value.okWide, hu] at hval'
    obtain ⟨cs, rfl, hcs, _⟩ := hval'
    refine .agg cs gs (by have := h1.1; simpa [Value.cells] using this) (fun j g hj => ?_)
    have hl : j < cs.size := by
     have := (List.getElem?_eq_some_iff.1 hj).1
     rw [← h1.1] at this; simpa [Value.cells] using this
    have := h1.2.2 j cs[j] g (by simp [Value.cells, hl]) hj
    simpa [Array.getD, hl] using this
  · cases hs
end
end Z
end Gv
namespace Go.Proofs.YtnenmmdpclglhaaGreatDoor
open Go Go.ChangeShapes Go.WideShapes Go.RowKit
theorem laidOwn : ownKnob Tryz.prog.godebug = none := by kernel_rfl
theorem laidOut : laidOutB Tryz.prog = true := by kernel_rfl
abbrev laidL : List (String × DataW Unit) := [("errors.errorType", Rows.laid_errors_errorType)]
theorem laidVar : Tryz.prog.globalNamed "errors.errorType" = some 0 := by kernel_rfl
theorem laidRt : (Tryz.prog.cutTypes.find? (·.1 == "internal/reflectlite.rtype")).map (·.2) = some 176 := by kernel_rfl
theorem laidRow : ((List.range 253).filter fun t => Tryz.prog.rowNamed t [101, 114, 114, 111, 114]) = [28] := by kernel_rfl
theorem laidSize : Tryz.prog.types.size = 253 := by kernel_rfl
theorem laidHandle {W : World} (h : laidMetH Tryz.prog laidL W) : W.cell? ⟨0, 0, none⟩ = some (.iface 176 (.agg #[.pointer (some ⟨2, 28, none⟩)])) := by
 have h' : laidMet Tryz.prog [] W ∧ handlesMet Tryz.prog laidL W := h
 obtain ⟨name, u, ty, e1, e2, e3, e4, e5⟩ := h'.2 _ (List.mem_singleton.2 rfl)
 have en : name = [101, 114, 114, 111, 114] := (Option.some.inj e1).symm
 subst en
 obtain rfl := Option.some.inj (laidRt.symm.trans e2)
 have hm : ty ∈ (List.range 253).filter fun t => Tryz.prog.rowNamed t [101, 114, 114, 111, 114] := List.mem_filter.2 ⟨List.mem_range.2 (by rw [← laidSize]; exact e3), e4⟩
 rw [laidRow] at hm
 obtain rfl := List.mem_singleton.1 hm
 have hh : typeHandle Tryz.prog 28 = .pointer (some ⟨2, 28, none⟩) := by kernel_rfl
 rw [hh] at e5
 simpa using World.var?_cell laidVar e5 0
theorem laidGlobs {W : World} (h : laidMetH Tryz.prog laidL W) : Gv.GlobsIn W := fun p hp => by
 obtain rfl : p = (0, 0, .iface 176 (.agg #[.pointer (some ⟨2, 28, none⟩)])) := by simpa [Gv.globs] using hp
 exact ⟨laidHandle h, rfl⟩
noncomputable def laidWorld (os : Os) : World :=
 let w0 := World.holding Tryz.prog os ⟨#[], #[], []⟩
 { w0 with heap := w0.heap.modify 0 fun
  | .cells _ t frozen => .cells #[.iface 176 (.agg #[.pointer (some ⟨2, 28, none⟩)])] t frozen
  | o => o }
theorem laidWorld_met (os : Os) (args : Array Value) : laidMetH Tryz.prog laidL ((laidWorld os).forCall (fun _ _ => 0) ⟨#[], args, []⟩).memory :=
 laidMetH_of_parts (laidMet_nil _ _) (by kernel_rfl)
end Go.Proofs.YtnenmmdpclglhaaGreatDoor
