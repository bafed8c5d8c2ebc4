/- Contracts: order's Walk, where the function that tells who is done reads two objects more. -/
import Derived.Test.YtnenmmdpclglhaaGreatDoorP11
import Derived.Test.YtnenmmdpclglhaaGreatDoorP10
import Derived.Test.YtnenmmdpclglhaaGreatDoorP5
import Derived.Test.YtnenmmdpclglhaaGreatDoorP6
set_option linter.unusedVariables false
set_option linter.unusedSimpArgs false
set_option maxRecDepth 20000
set_option maxHeartbeats 4000000
namespace Gv.Tryz
open Go Gv Go.Proofs
open Nat (reduceEqDiff reduceAdd reduceSub reduceLeDiff reduceMul reduceLT)
theorem gWalkY (y1 y2 : GObj) (m : GM) (hm : GMOK m) (hs : List Hs) (th : Tag) (st s : Nat) (F : FuncId) (caps : List GVal) (dn : Hs → Bool) (hF : ∀ h : Hs, DoneY y1 y2 st s m F caps h (dn h)) (T : WSt) (hT : VisL m dn hs ([], []) T) (hl : hs.length ≤ 1000000) :
    GCalls Tryz.prog 38 [.ptr 0 st 0 0, .slice (hsG hs) th, (.func (.func F) [] caps)] (gObj st s m ++ [y1, y2]) (fun g O' => g = .slice (hsG T.2) .none ∧ O' = gObj st s m ++ [y1, y2]) := by
  have hml := hm.len
  have hd := hF
  refine GCalls.dropTo ?_
  refine h38.calls mixS (by simp) ?_
  simp only [gstart, s38, List.cons_append, List.nil_append, List.length_cons, List.length_nil, reduceAdd, reduceSub, List.replicate_succ, List.replicate_zero]
  simp +contextual -implicitDefEqProofs (maxSteps := 2000000) (disch := omega) only [↓lenV, binV, optV, ↓loadV, ↓storeV, ↓fieldAddrV, ↓indexAddrV, ↓allocV, ↓boxV, ↓buildV, ↓sliceV, ↓nilV, bound, cutTag, hiTag, fillG, place, GVal.cells, GVal.ofConst, ↓resV, resG, ↓reduceIte, reduceEqDiff, reduceAdd, reduceSub, reduceLeDiff, reduceCtorEq, ↓makeMapV, aggV, Tag.cap, GVal.solid, Nat.reduceBEq, reduceMul, reduceLT, vcA, ↓vcB, vcC, fbFy, e38, hsG_len, vcD]
  refine fun sq => ⟨⟨rfl, rfl, rfl⟩, fun sw => ?_⟩
  refine vcSLoop_by (ι := { p : ((Nat × List Cm) × (List Hs × List Hs)) × (Nat × Nat) // p.1.1.1 ≤ hs.length ∧ VisL m dn (hs.drop p.1.1.1) p.1.2 T ∧ SInv m p.1.2.1 p.1.2.2 0 }) (fun p => ⟨[.ptr 0 st 0 0, .slice (hsG hs) th, (.func (.func F) [] caps)] ++ List.replicate 4 .any ++ [.ptr 5 sw 0 0] ++ List.replicate 9 .any ++ [.slice (hsG hs) th, .int .i64 hs.length, .int .i64 (p.1.1.1.1 : Nat)] ++ List.replicate 19 .any, wObjY y1 y2 st s m sq sw p.1.2.1 p.1.2.2 0 (.func (.func F) [] caps) [] p.1.1.1.2 p.1.1.2.1 p.1.1.2.2⟩) (fun p => hs.length - p.1.1.1.1) ?_ ?_
  · refine Into.cellRow 5 3 33 rfl rfl rfl rfl ?_
    simp +contextual -implicitDefEqProofs (maxSteps := 2000000) (disch := omega) only [↓lenV, binV, optV, ↓loadV, ↓storeV, ↓fieldAddrV, ↓indexAddrV, ↓allocV, ↓boxV, ↓buildV, ↓sliceV, ↓nilV, bound, cutTag, hiTag, fillG, place, GVal.cells, GVal.ofConst, ↓resV, resG, ↓reduceIte, reduceEqDiff, reduceAdd, reduceSub, reduceLeDiff, reduceCtorEq, ↓makeMapV, aggV, Tag.cap, GVal.solid, Nat.reduceBEq, reduceMul, reduceLT, vcA, ↓vcB, vcC, fbFy, e38, vcD]
    intro sv
    refine Into.cellTok 5 4 32 [] rfl rfl rfl rfl ?_
    simp +contextual -implicitDefEqProofs (maxSteps := 2000000) (disch := omega) only [↓lenV, binV, optV, ↓loadV, ↓storeV, ↓fieldAddrV, ↓indexAddrV, ↓allocV, ↓boxV, ↓buildV, ↓sliceV, ↓nilV, bound, cutTag, hiTag, fillG, place, GVal.cells, GVal.ofConst, ↓resV, resG, ↓reduceIte, reduceEqDiff, reduceAdd, reduceSub, reduceLeDiff, reduceCtorEq, ↓makeMapV, aggV, Tag.cap, GVal.solid, Nat.reduceBEq, reduceMul, reduceLT, vcA, ↓vcB, vcC, fbFy, e38, vcD]
    intro so
    exact Into.first ⟨(((0, []), ([], [])), (sv, so)), by show 0 ≤ _; omega, by simpa using hT, ⟨List.nodup_nil, by simp, by simp⟩⟩ ⟨[], rfl⟩ (by simp [WL, leG_self, leG_any, hsG_len])
  · rintro ⟨⟨⟨⟨k, Z⟩, ⟨S, out⟩⟩, ⟨sv, so⟩⟩, hk, hV, hI⟩
    change k ≤ hs.length at hk
    change VisL m dn (hs.drop k) (S, out) T at hV
    change SInv m S out 0 at hI
    have hSm := hI.le
    have hOl := hI.len
    by_cases h : k < hs.length
    · have d0 : ((k : Int) < (hs.length : Int)) = True := eq_true (by omega)
      have eS := hsG_at hs k h
      rw [dropH h] at hV
      generalize hs.getD k h0 = x at *
      have cP := gPushY y1 y2 m hm x st s sq sw sv so 0 F caps dn hd [] Z S out (by simp) rfl
      simp +contextual -implicitDefEqProofs (maxSteps := 2000000) (disch := omega) only [↓lenV, binV, optV, ↓loadV, ↓storeV, ↓fieldAddrV, ↓indexAddrV, ↓allocV, ↓boxV, ↓buildV, ↓sliceV, ↓nilV, bound, cutTag, hiTag, fillG, place, GVal.cells, GVal.ofConst, ↓resV, resG, ↓reduceIte, reduceEqDiff, reduceAdd, reduceSub, reduceLeDiff, reduceCtorEq, ↓makeMapV, aggV, Tag.cap, GVal.solid, Nat.reduceBEq, reduceMul, reduceLT, vcA, ↓vcB, vcC, fbFy, e38, setO_3, setO_4, setO_5, setO_6, setO_7, setO_8, hsG_len, d0, eS, vcD, v32]
      refine ⟨by omega, fun u => ?_⟩
      refine (GCalls.tail cP (by rintro g O' ⟨_, _, rfl, rfl⟩; split <;> exact ⟨rfl, by simp⟩) rfl (by simp) [.row u 32 [bytesG x.1]]).mono ?_
      rintro g O' ⟨_, ⟨sv2, Z2, rfl, rfl⟩, rfl⟩
      have hT1 : ∃ T1, VisL m dn (hs.drop (k + 1)) T1 T ∧ (if pushed m dn S x = true then FinS m dn [(x, parsM m x)] (S ++ [x], out) T1 else T1 = (S, out)) := by
        cases hp : pushed m dn S x with
        | false => exact ⟨_, hV.inv_skip hp, by rw [if_neg (by simp)]⟩
        | true =>
          obtain ⟨so1, hV1, hV2⟩ := hV.inv_go hp
          exact ⟨_, hV2, by rw [if_pos rfl]; exact ⟨so1, hV1, rfl⟩⟩
      obtain ⟨T1, hV2, hF⟩ := hT1
      simp +contextual -implicitDefEqProofs (maxSteps := 2000000) (disch := omega) only [↓lenV, binV, optV, ↓loadV, ↓storeV, ↓fieldAddrV, ↓indexAddrV, ↓allocV, ↓boxV, ↓buildV, ↓sliceV, ↓nilV, bound, cutTag, hiTag, fillG, place, GVal.cells, GVal.ofConst, ↓resV, resG, ↓reduceIte, reduceEqDiff, reduceAdd, reduceSub, reduceLeDiff, reduceCtorEq, ↓makeMapV, aggV, Tag.cap, GVal.solid, Nat.reduceBEq, reduceMul, reduceLT, vcA, ↓vcB, vcC, fbFy, e38, setO_3, setO_4, setO_5, setO_6, setO_7, setO_8, vcD, v32]
      refine vcSLoop_by (ι := { p : ((List Cm × List Cm) × (List Hs × List Hs)) × (Nat × Nat) // FinS m dn p.1.1.1.reverse p.1.2 T1 ∧ SInv m p.1.2.1 p.1.2.2 p.1.1.1.length }) (fun p => ⟨[.ptr 0 st 0 0, .slice (hsG hs) th, (.func (.func F) [] caps)] ++ List.replicate 4 .any ++ [.ptr 5 sw 0 0] ++ List.replicate 9 .any ++ [.slice (hsG hs) th, .int .i64 hs.length, .int .i64 (k : Nat)] ++ List.replicate 19 .any, wObjY y1 y2 st s m sq sw p.1.2.1 p.1.2.2 p.1.1.1.1.length (.func (.func F) [] caps) p.1.1.1.1 p.1.1.1.2 p.1.1.2.1 p.1.1.2.2⟩) (fun p => wMu m p.1.1.2.1 p.1.1.1.1) ?_ ?_
      · cases hp : pushed m dn S x with
        | false =>
          rw [hp, if_neg (by simp)] at hF
          exact Into.first ⟨((([], Z2), (S, out)), (sv2, so)), hF, hI⟩ ⟨[.row u 32 [bytesG x.1]], by rw [if_neg (by simp)]; rfl⟩ (by simp [WL, leG_self, leG_any])
        | true =>
          rw [hp, if_pos rfl] at hF
          exact Into.first ⟨((([(x, parsM m x)], Z2), (S ++ [x], out)), (sv2, so)), hF, hI.push hp⟩ ⟨[.row u 32 [bytesG x.1]], by rw [if_pos rfl]; rfl⟩ (by simp [WL, leG_self, leG_any])
      · rintro ⟨⟨⟨⟨K, Z3⟩, ⟨S3, out3⟩⟩, ⟨sv3, so3⟩⟩, hF3, hI3⟩
        change FinS m dn K.reverse (S3, out3) T1 at hF3
        change SInv m S3 out3 K.length at hI3
        have hS3 := hI3.le
        have hO3 := hI3.len
        rcases List.eq_nil_or_concat K with rfl | ⟨K0, y, e⟩
        · simp +contextual -implicitDefEqProofs (maxSteps := 2000000) (disch := omega) only [↓lenV, binV, optV, ↓loadV, ↓storeV, ↓fieldAddrV, ↓indexAddrV, ↓allocV, ↓boxV, ↓buildV, ↓sliceV, ↓nilV, bound, cutTag, hiTag, fillG, place, GVal.cells, GVal.ofConst, ↓resV, resG, ↓reduceIte, reduceEqDiff, reduceAdd, reduceSub, reduceLeDiff, reduceCtorEq, ↓makeMapV, aggV, Tag.cap, GVal.solid, Nat.reduceBEq, reduceMul, reduceLT, vcA, ↓vcB, vcC, fbFy, e38, setO_3, setO_4, setO_5, setO_6, setO_7, setO_8, Int.lt_irrefl, List.length_nil, Int.natCast_zero, vcD, v32]
          rw [List.reverse_nil] at hF3
          rw [FinS] at hF3
          rw [hF3] at hV2
          exact Into.at ⟨(((k + 1, Z3), (S3, out3)), (sv3, so3)), by show k + 1 ≤ _; omega, hV2, hI3⟩ (by show _ < _; simp; omega) ⟨[], rfl⟩ (by simp [WL, leG_self, leG_any, leG_int])
        · rw [List.concat_eq_append] at e
          subst e
          obtain ⟨y, ps⟩ := y
          rw [List.reverse_append, List.reverse_singleton, List.singleton_append] at hF3
          obtain ⟨so1, hVp, hF4⟩ := hF3
          have dK : ((0 : Int) < (K0.length : Int) + 1) = True := eq_true (by omega)
          have hKl : K0.length + 1 ≤ 10000 := by rw [List.length_append, List.length_singleton] at hO3; omega
          cases ps with
          | nil =>
            have e1 := hVp.inv_nil
            subst e1
            have cS := gStep0Y y1 y2 m st s sq sw sv3 so3 K0.length (.func (.func F) [] caps) K0 Z3 y S3 out3 (by omega) (by omega) rfl
            simp +contextual -implicitDefEqProofs (maxSteps := 2000000) (disch := omega) only [↓lenV, binV, optV, ↓loadV, ↓storeV, ↓fieldAddrV, ↓indexAddrV, ↓allocV, ↓boxV, ↓buildV, ↓sliceV, ↓nilV, bound, cutTag, hiTag, fillG, place, GVal.cells, GVal.ofConst, ↓resV, resG, ↓reduceIte, reduceEqDiff, reduceAdd, reduceSub, reduceLeDiff, reduceCtorEq, ↓makeMapV, aggV, Tag.cap, GVal.solid, Nat.reduceBEq, reduceMul, reduceLT, vcA, ↓vcB, vcC, fbFy, e38, setO_3, setO_4, setO_5, setO_6, setO_7, setO_8, dK, List.length_append, List.length_cons, List.length_nil, List.length_singleton, vcD, v32]
            refine cS.mono ?_
            rintro g O' ⟨so4, rfl, rfl⟩
            simp +contextual -implicitDefEqProofs (maxSteps := 2000000) (disch := omega) only [↓lenV, binV, optV, ↓loadV, ↓storeV, ↓fieldAddrV, ↓indexAddrV, ↓allocV, ↓boxV, ↓buildV, ↓sliceV, ↓nilV, bound, cutTag, hiTag, fillG, place, GVal.cells, GVal.ofConst, ↓resV, resG, ↓reduceIte, reduceEqDiff, reduceAdd, reduceSub, reduceLeDiff, reduceCtorEq, ↓makeMapV, aggV, Tag.cap, GVal.solid, Nat.reduceBEq, reduceMul, reduceLT, vcA, ↓vcB, vcC, fbFy, e38, setO_3, setO_4, setO_5, setO_6, setO_7, setO_8, vcD, v32]
            refine Into.at ⟨(((K0, (y, []) :: Z3), (S3, out3 ++ [y])), (sv3, so4)), hF4, ⟨hI3.nodup, hI3.keys, ?_⟩⟩ ?_ ⟨[], rfl⟩ (by simp [WL, leG_self, leG_any, leG_int])
            · show (out3 ++ [y]).length + K0.length ≤ S3.length
              rw [List.length_append, List.length_singleton] at hO3 ⊢; omega
            · show wMu m S3 K0 < wMu m S3 (K0 ++ [(y, [])])
              simp [wMu]
          | cons p r =>
            have cS := gStep1Y y1 y2 m hm st s sq sw sv3 so3 K0.length F caps dn hd K0 Z3 y p r S3 out3 (by omega) rfl
            have hpl := hm.pars p
            simp +contextual -implicitDefEqProofs (maxSteps := 2000000) (disch := omega) only [↓lenV, binV, optV, ↓loadV, ↓storeV, ↓fieldAddrV, ↓indexAddrV, ↓allocV, ↓boxV, ↓buildV, ↓sliceV, ↓nilV, bound, cutTag, hiTag, fillG, place, GVal.cells, GVal.ofConst, ↓resV, resG, ↓reduceIte, reduceEqDiff, reduceAdd, reduceSub, reduceLeDiff, reduceCtorEq, ↓makeMapV, aggV, Tag.cap, GVal.solid, Nat.reduceBEq, reduceMul, reduceLT, vcA, ↓vcB, vcC, fbFy, e38, setO_3, setO_4, setO_5, setO_6, setO_7, setO_8, dK, List.length_append, List.length_cons, List.length_nil, List.length_singleton, vcD, v32]
            refine cS.mono ?_
            rintro g O' ⟨sv4, Z4, rfl, rfl⟩
            cases hp : pushed m dn S3 p with
            | false =>
              have hVr := hVp.inv_skip hp
              simp +contextual -implicitDefEqProofs (maxSteps := 2000000) (disch := omega) only [↓lenV, binV, optV, ↓loadV, ↓storeV, ↓fieldAddrV, ↓indexAddrV, ↓allocV, ↓boxV, ↓buildV, ↓sliceV, ↓nilV, bound, cutTag, hiTag, fillG, place, GVal.cells, GVal.ofConst, ↓resV, resG, ↓reduceIte, reduceEqDiff, reduceAdd, reduceSub, reduceLeDiff, reduceCtorEq, ↓makeMapV, aggV, Tag.cap, GVal.solid, Nat.reduceBEq, reduceMul, reduceLT, vcA, ↓vcB, vcC, fbFy, e38, setO_3, setO_4, setO_5, setO_6, setO_7, setO_8, Bool.false_eq_true, if_false, vcD, v32]
              refine Into.at ⟨(((K0 ++ [(y, r)], Z4), (S3, out3)), (sv4, so3)), ?_, ⟨hI3.nodup, hI3.keys, ?_⟩⟩ ?_ ⟨[], by simp⟩ (by simp [WL, leG_self, leG_any, leG_int])
              · show FinS m dn (K0 ++ [(y, r)]).reverse (S3, out3) T1
                rw [List.reverse_append, List.reverse_singleton, List.singleton_append]
                exact ⟨so1, hVr, hF4⟩
              · show out3.length + (K0 ++ [(y, r)]).length ≤ S3.length
                rw [List.length_append, List.length_singleton] at hO3 ⊢; exact hO3
              · show wMu m S3 (K0 ++ [(y, r)]) < wMu m S3 (K0 ++ [(y, p :: r)])
                simp [wMu]
            | true =>
              obtain ⟨so2, hVq, hVr⟩ := hVp.inv_go hp
              have hIp := hI3.push hp
              have hIl := hIp.le
              simp +contextual -implicitDefEqProofs (maxSteps := 2000000) (disch := omega) only [↓lenV, binV, optV, ↓loadV, ↓storeV, ↓fieldAddrV, ↓indexAddrV, ↓allocV, ↓boxV, ↓buildV, ↓sliceV, ↓nilV, bound, cutTag, hiTag, fillG, place, GVal.cells, GVal.ofConst, ↓resV, resG, ↓reduceIte, reduceEqDiff, reduceAdd, reduceSub, reduceLeDiff, reduceCtorEq, ↓makeMapV, aggV, Tag.cap, GVal.solid, Nat.reduceBEq, reduceMul, reduceLT, vcA, ↓vcB, vcC, fbFy, e38, setO_3, setO_4, setO_5, setO_6, setO_7, setO_8, if_true, vcD, v32]
              refine Into.at ⟨(((K0 ++ [(y, r)] ++ [(p, parsM m p)], Z4), (S3 ++ [p], out3)), (sv4, so3)), ?_, ⟨hIp.nodup, hIp.keys, ?_⟩⟩ ?_ ⟨[], by simp⟩ (by simp [WL, leG_self, leG_any, leG_int])
              · show FinS m dn (K0 ++ [(y, r)] ++ [(p, parsM m p)]).reverse (S3 ++ [p], out3) T1
                rw [List.reverse_append, List.reverse_singleton, List.singleton_append, List.reverse_append, List.reverse_singleton, List.singleton_append]
                exact ⟨so2, hVq, so1, hVr, hF4⟩
              · have := hIp.len
                show out3.length + (K0 ++ [(y, r)] ++ [(p, parsM m p)]).length ≤ (S3 ++ [p]).length
                rw [List.length_append, List.length_singleton] at this ⊢
                rw [List.length_append, List.length_singleton] at this ⊢
                rw [List.length_append, List.length_singleton]
                omega
              · show wMu m (S3 ++ [p]) (K0 ++ [(y, r)] ++ [(p, parsM m p)]) < wMu m S3 (K0 ++ [(y, p :: r)])
                rw [List.length_append, List.length_singleton] at hIl
                simp [wMu]
                omega
    · have d0 : ((k : Int) < (hs.length : Int)) = False := eq_false (by omega)
      rw [List.drop_of_length_le (by omega)] at hV
      have eT := hV.inv_nil
      subst eT
      simp +contextual -implicitDefEqProofs (maxSteps := 2000000) (disch := omega) only [↓lenV, binV, optV, ↓loadV, ↓storeV, ↓fieldAddrV, ↓indexAddrV, ↓allocV, ↓boxV, ↓buildV, ↓sliceV, ↓nilV, bound, cutTag, hiTag, fillG, place, GVal.cells, GVal.ofConst, ↓resV, resG, ↓reduceIte, reduceEqDiff, reduceAdd, reduceSub, reduceLeDiff, reduceCtorEq, ↓makeMapV, aggV, Tag.cap, GVal.solid, Nat.reduceBEq, reduceMul, reduceLT, vcA, ↓vcB, vcC, fbFy, e38, setO_3, setO_4, setO_5, setO_6, setO_7, setO_8, d0, vcD, v32]
      exact ⟨.slice (hsG out) .none, gObj st s m ++ [y1, y2], _, rfl, by rw [leA_slice], rfl, rfl⟩
end Gv.Tryz
/- Contracts: order.Walk with numbers' own functions. -/
set_option linter.unusedVariables false
set_option linter.unusedSimpArgs false
set_option maxRecDepth 20000
set_option maxHeartbeats 4000000
namespace Gv.Tryz
open Go Gv Go.Proofs
open Nat (reduceEqDiff reduceAdd reduceSub reduceLeDiff reduceMul reduceLT)
abbrev idO2 (ti so : Nat) (n : Int) (M O : List Hs) : List GObj := [.row ti 4 [[.int .i64 n, .slice (hsG M) .none, .slice (hsG O) .none, .map 3 so]], .map so (kvG encI (ofM M O))]
theorem iMasterZ (g1 g2 : GObj) (X : List GObj) (ti so : Nat) (n : Int) (M O : List Hs) (h : Hs) : GCalls Tryz.prog 39 [.ptr 2 ti 0 0, .agg (bytesG h.1)] (g1 :: g2 :: (idO2 ti so n M O ++ X)) (fun g O' => g = .bool (masterB (ofM M O) h) ∧ O' = g1 :: g2 :: (idO2 ti so n M O ++ X)) := by
  cases e : look (ofM M O) h with
  | some v =>
    obtain ⟨i, hi, hv, _⟩ := look_idx encI (ofM M O) h v e
    have ev : masterB (ofM M O) h = decide (v < splI) := by unfold masterB; rw [e]
    rw [ev]
    refine h39.calls mixS (by simp) ?_
    simp only [gstart, s39, List.cons_append, List.nil_append, List.length_cons, List.length_nil, reduceAdd, reduceSub, List.replicate_succ, List.replicate_zero]
    simp +contextual -implicitDefEqProofs (maxSteps := 2000000) (disch := omega) only [drawC, drawK, keepT, binV, ↓loadV, ↓fieldAddrV, ↓boxV, ↓nilV, GVal.cells, GVal.ofConst, ↓resV, resG, ↓reduceIte, reduceEqDiff, reduceAdd, reduceSub, reduceLeDiff, reduceCtorEq, ↓lookupV, keyOk, keyCells, pairG, Tag.cap, GVal.solid, Nat.reduceBEq, reduceMul, reduceLT, vcA, ↓vcB, vcC, fbFy, e39, kfind_h, hi, hv, vcD, v32]
  | none =>
    obtain ⟨hi, _⟩ := look_none encI (ofM M O) h e
    have ev : masterB (ofM M O) h = false := by unfold masterB; rw [e]
    rw [ev]
    refine h39.calls mixS (by simp) ?_
    simp only [gstart, s39, List.cons_append, List.nil_append, List.length_cons, List.length_nil, reduceAdd, reduceSub, List.replicate_succ, List.replicate_zero]
    simp +contextual -implicitDefEqProofs (maxSteps := 2000000) (disch := omega) only [drawC, drawK, keepT, binV, ↓loadV, ↓fieldAddrV, ↓boxV, ↓nilV, GVal.cells, GVal.ofConst, ↓resV, resG, ↓reduceIte, reduceEqDiff, reduceAdd, reduceSub, reduceLeDiff, reduceCtorEq, ↓lookupV, keyOk, keyCells, pairG, Tag.cap, GVal.solid, Nat.reduceBEq, reduceMul, reduceLT, vcA, ↓vcB, vcC, fbFy, e39, kfind_h, hi, vcD, v32]
theorem iDone1 (g1 g2 : GObj) (X : List GObj) (ti so : Nat) (n : GVal) (M O : List Hs) (h : Hs) : GCalls Tryz.prog 44 [.agg (bytesG h.1), .ref [.ptr 2 ti 0 0]] (g1 :: g2 :: .row ti 4 [[n, .slice (hsG M) .none, .slice (hsG O) .none, .map 3 so]] :: .map so (kvG encI (ofM M O)) :: X) (fun g O' => g = .bool (look (ofM M O) h).isSome ∧ O' = g1 :: g2 :: .row ti 4 [[n, .slice (hsG M) .none, .slice (hsG O) .none, .map 3 so]] :: .map so (kvG encI (ofM M O)) :: X) := by
  cases e : look (ofM M O) h with
  | some v =>
    obtain ⟨i, hi, hv, _⟩ := look_idx encI (ofM M O) h v e
    refine h44.calls mixS (by simp) ?_
    simp only [gstart, s44, List.cons_append, List.nil_append, List.length_cons, List.length_nil, reduceAdd, reduceSub, List.replicate_succ, List.replicate_zero]
    simp +contextual -implicitDefEqProofs (maxSteps := 2000000) (disch := omega) only [drawC, drawK, keepT, ↓loadV, ↓fieldAddrV, ↓boxV, ↓nilV, GVal.cells, GVal.ofConst, ↓resV, resG, ↓reduceIte, reduceEqDiff, reduceAdd, reduceSub, reduceLeDiff, reduceCtorEq, ↓lookupV, keyOk, keyCells, pairG, Tag.cap, GVal.solid, Nat.reduceBEq, reduceMul, reduceLT, vcA, ↓vcB, vcC, fbFy, e44, kfind_h, hi, hv, Option.isSome_some, vcD, v32]
  | none =>
    obtain ⟨hi, _⟩ := look_none encI (ofM M O) h e
    refine h44.calls mixS (by simp) ?_
    simp only [gstart, s44, List.cons_append, List.nil_append, List.length_cons, List.length_nil, reduceAdd, reduceSub, List.replicate_succ, List.replicate_zero]
    simp +contextual -implicitDefEqProofs (maxSteps := 2000000) (disch := omega) only [drawC, drawK, keepT, ↓loadV, ↓fieldAddrV, ↓boxV, ↓nilV, GVal.cells, GVal.ofConst, ↓resV, resG, ↓reduceIte, reduceEqDiff, reduceAdd, reduceSub, reduceLeDiff, reduceCtorEq, ↓lookupV, keyOk, keyCells, pairG, Tag.cap, GVal.solid, Nat.reduceBEq, reduceMul, reduceLT, vcA, ↓vcB, vcC, fbFy, e44, kfind_h, hi, Option.isSome_none, vcD, v32]
theorem iWalkM (m : GM) (hm : GMOK m) (hs : List Hs) (th : Tag) (st s ti so : Nat) (n : Int) (M O : List Hs) (T : WSt) (hT : VisL m (masterB (ofM M O)) hs ([], []) T) (hl : hs.length ≤ 1000000) :
    GCalls Tryz.prog 38 [.ptr 0 st 0 0, .slice (hsG hs) th, (.func (.func 39) [.ptr 2 ti 0 0] [])] (gObj st s m ++ idO2 ti so n M O) (fun g O' => g = .slice (hsG T.2) .none ∧ O' = gObj st s m ++ idO2 ti so n M O) :=
  gWalkZ _ _ m hm hs th st s _ _ (masterB (ofM M O)) (fun h X => iMasterZ _ _ X ti so n M O h) T hT hl
theorem iWalkD (m : GM) (hm : GMOK m) (hs : List Hs) (th : Tag) (st s ti so : Nat) (n : GVal) (M O : List Hs) (T : WSt) (hT : VisL m (fun h => (look (ofM M O) h).isSome) hs ([], []) T) (hl : hs.length ≤ 1000000) :
    GCalls Tryz.prog 38 [.ptr 0 st 0 0, .slice (hsG hs) th, (.func (.func 44) [] [.ref [.ptr 2 ti 0 0]])] (gObj st s m ++ [.row ti 4 [[n, .slice (hsG M) .none, .slice (hsG O) .none, .map 3 so]], .map so (kvG encI (ofM M O))]) (fun g O' => g = .slice (hsG T.2) .none ∧ O' = gObj st s m ++ [.row ti 4 [[n, .slice (hsG M) .none, .slice (hsG O) .none, .map 3 so]], .map so (kvG encI (ofM M O))]) :=
  gWalkY _ _ m hm hs th st s _ _ (fun h => (look (ofM M O) h).isSome) (fun h X => iDone1 _ _ X ti so n M O h) T hT hl
end Gv.Tryz
/- Objects that are set aside for a while: a map whose entries are held one by one. -/
set_option linter.unusedVariables false
namespace Gv
open Go Go.MapKept Go.ChangeMaps
variable {P : Program}
structure Hid (E : Env) (O : List GObj) (w : World) (b : Nat) : Prop where
  obj : ¬ InO E O b
  snap : ∀ o, E.snap b o = none
  lt : b < w.heap.size
theorem Hid.keep {E E' : Env} {O O' : List GObj} {w w' : World} {b : Nat} (h : Hid E O w b) (k : Keep E O w E' O' w') : Hid E' O' w' b ∧ w'.heap[b]? = w.heap[b]? := by
  refine ⟨⟨fun hb => ?_, fun o => ?_, Nat.lt_of_lt_of_le h.lt k.size⟩, k.heap b h.lt h.obj⟩
  · rcases k.objs b hb with h1 | h1
    · exact h.obj h1
    · have := h.lt; omega
  · cases hv : E'.snap b o with
    | none => rfl
    | some v =>
      rcases k.snap b o v hv with h1 | h1 | h1
      · rw [h.snap] at h1; cases h1
      · have := h.lt; omega
      · exact absurd h1 h.obj
theorem HSim.grown {E : Env} {O : List GObj} {w w' : World} (h : HSim E O w) {row : Option Nat} (g : w.grownBy w' row) (hr : ∀ r, row = some r → ¬ InO E O r ∧ ∀ o, E.snap r o = none) : HSim E O w' := by
  have hne : ∀ b, InO E O b → some b ≠ row := fun b hb e => (hr b e.symm).1 hb
  refine ⟨h.fin, fun b o v hv => ?_, h.one, fun i obj ho => ?_, h.sep, h.glob⟩
  · have hb : some b ≠ row := fun e => by rw [(hr b e.symm).2 o] at hv; cases hv
    rw [Go.World.cell?_of_block (w := w) (w' := w') (a := ⟨b, o, none⟩) (g.block b (h.lt hv) hb)]
    exact h.sealed _ _ _ hv
  · refine (h.real i obj ho).keep (.refl E) (fun b hb => g.block b ((h.real i obj ho).blk_lt hb) (hne b ⟨i, obj, ho, hb⟩)) (fun b o v hb hv => ?_)
    exact hv
theorem Keep.grown {E0 E : Env} {O0 O : List GObj} {w0 w w' : World} (k : Keep E0 O0 w0 E O w) {row : Option Nat} (g : w.grownBy w' row) (hr : ∀ r, row = some r → w0.heap.size ≤ r) : Keep E0 O0 w0 E O w' :=
  ⟨k.ext, g.os.trans k.os, g.output.trans k.out, Nat.le_trans k.size g.size, fun b hb hn => (g.block b (Nat.lt_of_lt_of_le hb k.size) (fun e => by have := hr b e.symm; omega)).trans (k.heap b hb hn), k.snap, k.objs, trivial⟩
theorem Hid.grown {E : Env} {O : List GObj} {w w' : World} {b : Nat} {row : Option Nat} (h : Hid E O w b) (g : w.grownBy w' row) : Hid E O w' b := ⟨h.obj, h.snap, Nat.lt_of_lt_of_le h.lt g.size⟩
theorem HSim.hide {E : Env} {O : List GObj} {w : World} (h : HSim E O w) (i : Nat) (x : GObj) (hO : O[i]? = some x) (hx : x.isClock = false) : HSim E (O.set i .dead) w ∧ Keep E O w E (O.set i .dead) w := by
  have split : ∀ (j : Nat) y, (O.set i .dead)[j]? = some y → (j = i ∧ y = .dead) ∨ O[j]? = some y := by
    intro j y hy
    rw [List.getElem?_set] at hy
    by_cases e : i = j
    · rw [if_pos e] at hy
      split at hy
      · exact .inl ⟨e.symm, (Option.some.inj hy).symm⟩
      · cases hy
    · rw [if_neg e] at hy; exact .inr hy
  have hc : clockOf (O.set i .dead) = clockOf O := by
    match O, i with
    | [], _ => rfl
    | y :: r, 0 => simp at hO; subst hO; cases y <;> first | rfl | cases hx
    | y :: r, k + 1 => cases y <;> rfl
  refine ⟨⟨by unfold Fin'; rw [hc]; exact h.fin, h.sealed, h.one, fun j y hy => ?_, fun j k oj ok b hjk hj hk hbj hbk => ?_, h.glob⟩, ⟨.refl E, rfl, rfl, Nat.le_refl _, fun _ _ _ => rfl, fun _ _ _ h => .inl h, fun b ⟨j, y, hy, hb⟩ => ?_, trivial⟩⟩
  · rcases split j y hy with ⟨_, rfl⟩ | h1
    · trivial
    · exact h.real j y h1
  · rcases split j oj hj with ⟨_, rfl⟩ | h1
    · cases hbj
    · rcases split k ok hk with ⟨_, rfl⟩ | h2
      · cases hbk
      · exact h.sep j k oj ok b hjk h1 h2 hbj hbk
  · rcases split j y hy with ⟨_, rfl⟩ | h1
    · cases hb
    · exact .inl ⟨j, y, h1, hb⟩
structure MapAt (E : Env) (w : World) (b : Nat) (es : Array MapEntry) (clock : Nat) (kv : List (GVal × GVal)) : Prop where
  at_ : w.heap[b]? = some (.map es clock)
  size : es.size = kv.length
  ent : ∀ (i : Nat) e p, es[i]? = some e → kv[i]? = some p → EntryOK E e p
  born : BornOK es clock
theorem MapAt.ext {E E' : Env} {w w' : World} {b : Nat} {es : Array MapEntry} {clock : Nat} {kv : List (GVal × GVal)} (h : MapAt E w b es clock kv) (hE : E.le E') (hw : w'.heap[b]? = w.heap[b]?) : MapAt E' w' b es clock kv :=
  ⟨hw.trans h.at_, h.size, fun i e p he hp => ⟨(h.ent i e p he hp).1.mono hE, (h.ent i e p he hp).2.mono hE⟩, h.born⟩
theorem HSim.hideMap {E : Env} {O : List GObj} {w : World} (h : HSim E O w) {i st : Nat} {kv : List (GVal × GVal)} (hO : O[i]? = some (.map st kv)) :
    ∃ l b es clock, E.loc st = some l ∧ l.block = some b ∧ MapAt E w b es clock kv ∧ HSim E (O.set i .dead) w ∧ Keep E O w E (O.set i .dead) w ∧ Hid E (O.set i .dead) w b ∧ InO E O b := by
  obtain ⟨l, b, es, clock, hl, hb, hw, hs, he, hbo, hsn⟩ := h.real i _ hO
  obtain ⟨h1, h2⟩ := h.hide i _ hO rfl
  refine ⟨l, b, es, clock, hl, hb, ⟨hw, hs, he, hbo⟩, h1, h2, ⟨fun hi => ?_, hsn, (Array.getElem?_eq_some_iff.1 hw).1⟩, ⟨i, _, hO, by simp [GObj.blk, hl, hb]⟩⟩
  obtain ⟨j, y, hy, hyb⟩ := hi
  rw [List.getElem?_set] at hy
  by_cases e : i = j
  · rw [if_pos e] at hy
    split at hy
    · cases hy; cases hyb
    · cases hy
  · rw [if_neg e] at hy
    exact h.sep i j _ _ b e hO hy (by simp [GObj.blk, hl, hb]) hyb
theorem HSim.showMap {E : Env} {O : List GObj} {w : World} (h : HSim E O w) {i st b clock : Nat} {l : GLoc} {es : Array MapEntry} {kv : List (GVal × GVal)} (hO : O[i]? = some .dead) (hl : E.loc st = some l) (hb : l.block = some b)
    (hm : MapAt E w b es clock kv) (hh : Hid E O w b) : HSim E (O.set i (.map st kv)) w ∧ ∀ E0 O0 w0, Keep E0 O0 w0 E O w → (InO E0 O0 b ∨ w0.heap.size ≤ b) → Keep E0 O0 w0 E (O.set i (.map st kv)) w := by
  have hblk : (GObj.map st kv).blk E = some b := by simp [GObj.blk, hl, hb]
  have split : ∀ (j : Nat) y, (O.set i (.map st kv))[j]? = some y → (j = i ∧ y = .map st kv) ∨ (j ≠ i ∧ O[j]? = some y) := by
    intro j y hy
    rw [List.getElem?_set] at hy
    by_cases e : i = j
    · rw [if_pos e] at hy
      split at hy
      · exact .inl ⟨e.symm, (Option.some.inj hy).symm⟩
      · cases hy
    · rw [if_neg e] at hy; exact .inr ⟨fun q => e q.symm, hy⟩
  have hc : clockOf (O.set i (.map st kv)) = clockOf O := by
    match O, i with
    | [], _ => rfl
    | y :: r, 0 => simp at hO; subst hO; rfl
    | y :: r, k + 1 => cases y <;> rfl
  refine ⟨⟨by unfold Fin'; rw [hc]; exact h.fin, h.sealed, h.one, fun j y hy => ?_, fun j k oj ok b' hjk hj hk hbj hbk => ?_, h.glob⟩, fun E0 O0 w0 K hbn => ⟨K.ext, K.os, K.out, K.size, K.heap, K.snap, fun b' ⟨j, y, hy, hyb⟩ => ?_, trivial⟩⟩
  · rcases split j y hy with ⟨_, rfl⟩ | ⟨_, h1⟩
    · exact ⟨l, b, es, clock, hl, hb, hm.at_, hm.size, hm.ent, hm.born, hh.snap⟩
    · exact h.real j y h1
  · rcases split j oj hj with ⟨e1, rfl⟩ | ⟨e1, h1⟩
    · rcases split k ok hk with ⟨e2, rfl⟩ | ⟨e2, h2⟩
      · exact hjk (e1.trans e2.symm)
      · rw [hblk] at hbj; cases hbj
        exact hh.obj ⟨k, ok, h2, hbk⟩
    · rcases split k ok hk with ⟨e2, rfl⟩ | ⟨e2, h2⟩
      · rw [hblk] at hbk; cases hbk
        exact hh.obj ⟨j, oj, h1, hbj⟩
      · exact h.sep j k oj ok b' hjk h1 h2 hbj hbk
  · rcases split j y hy with ⟨_, rfl⟩ | ⟨_, h1⟩
    · rw [hblk] at hyb; cases hyb; exact hbn
    · exact K.objs b' ⟨j, y, h1, hyb⟩
end Gv
/- `m[k] = f(m[k])`: a map's entry found, and written later. -/
set_option linter.unusedVariables false
namespace Gv
open Go Go.MapKept Go.ChangeMaps
variable {P : Program} {E : Env} {O : List GObj} {w : World}
theorem bornIdx : ∀ {es : List MapEntry} {i : Nat} {e : MapEntry}, es.Pairwise (fun x y => x.born ≠ y.born) → es[i]? = some e → es.findIdx? (fun x => ((x.born : Nat) : Int) == ((e.born : Nat) : Int)) = some i
  | [], i, e, _, h => by cases h
  | a :: r, 0, e, _, h => by cases h; simp [List.findIdx?_cons]
  | a :: r, i + 1, e, hp, h => by
    have h1 : r[i]? = some e := by simpa using h
    have h2 := (List.pairwise_cons.1 hp).1 e (List.mem_of_getElem? h1)
    have h3 : (((a.born : Nat) : Int) == ((e.born : Nat) : Int)) = false := by rw [beq_eq_false_iff_ne]; omega
    rw [List.findIdx?_cons, h3, bornIdx (List.pairwise_cons.1 hp).2 h1]
    rfl
theorem bornIdxA {es : Array MapEntry} {clock i : Nat} {e : MapEntry} (h : BornOK es clock) (hi : es.toList[i]? = some e) : es.findIdx? (fun x => ((x.born : Nat) : Int) == ((e.born : Nat) : Int)) = some i := by
  have : es.findIdx? (fun x => ((x.born : Nat) : Int) == ((e.born : Nat) : Int)) = es.toList.findIdx? (fun x => ((x.born : Nat) : Int) == ((e.born : Nat) : Int)) := by cases es; simp
  rw [this]; exact bornIdx h.2 hi
def oldAt (kv : List (GVal × GVal)) (z : GVal) : Option Nat → GVal
  | some i => match kv[i]? with
    | some p => p.2
    | none => .any
  | none => z
def putAt (kv : List (GVal × GVal)) (x v : GVal) : Option Nat → List (GVal × GVal)
  | some i => kv.set i (x, v)
  | none => kv ++ [(x, v)]
theorem grown_set {w : World} {b : Nat} {es : Array MapEntry} {clock : Nat} (hw : w.heap[b]? = some (.map es clock)) (es' : Array MapEntry) (clock' : Nat) :
    w.grownBy { w with heap := w.heap.setIfInBounds b (.map es' clock') } (some b) ∧ { w with heap := w.heap.setIfInBounds b (.map es' clock') }.heap[b]? = some (.map es' clock') ∧ { w with heap := w.heap.setIfInBounds b (.map es' clock') }.heap.size = w.heap.size := by
  have hlt := (Array.getElem?_eq_some_iff.1 hw).1
  refine ⟨⟨rfl, rfl, rfl, by simp, fun k _ hk => ?_⟩, ?_, by simp⟩
  · show (w.heap.setIfInBounds b _)[k]? = _
    rw [Array.getElem?_setIfInBounds, if_neg (fun e => hk (by rw [e]))]
  · show (w.heap.setIfInBounds b _)[b]? = _
    rw [Array.getElem?_setIfInBounds, if_pos rfl, if_pos hlt]
theorem mapEntry_hid {t : TypeId} {k : KT} {et : TypeId} {z x : GVal} {rx : Value} {r : Option Nat} {b clock : Nat} {es : Array MapEntry} {kv : List (GVal × GVal)} (hkt : keyT P t = some (k, et)) (hz : zeroG P et = some z) (hko : keyOk k x) (hx : VR E rx x)
    (hm : MapAt E w b es clock kv) (hr : kfind k x kv = some r) :
    ∃ (rv0 : Value) (stamp : Nat) (es1 : Array MapEntry) (clock1 : Nat) (w1 : World), (Instr.mapEntry t (.map (some b)) rx).run P w = .ok (.tuple #[rv0, goInt stamp]) w1 ∧ w.grownBy w1 (some b) ∧ w1.heap[b]? = some (.map es1 clock1) ∧ VR E rv0 (oldAt kv z r) ∧
      ∀ (E2 : Env) (w2 : World) (rv : Value) (gv : GVal), E.le E2 → w2.heap[b]? = some (.map es1 clock1) → VR E2 rv gv →
        ∃ (w3 : World) (es3 : Array MapEntry) (clock3 : Nat), (Instr.entryStore t (.map (some b)) (goInt stamp) rv).run P w2 = .ok () w3 ∧ w2.grownBy w3 (some b) ∧ MapAt E2 w3 b es3 clock3 (putAt kv x gv r) := by
  obtain ⟨kt, hu, hf, ht, hn⟩ := keyT_spec hkt
  have hchk : ∀ em, (Instr.checkKey em 10000 kt rx).run P w = .ok () w := fun em => by
    unfold keyOk at hko
    split at hko
    · rename_i cs hcs; exact checkKey_run hf ht hx hcs hko
    · exact hko.elim
  obtain ⟨hw, hl, he, hbo⟩ := hm
  have hl' : es.toList.length = kv.length := by simpa using hl
  have he' : ∀ (i : Nat) e p, es.toList[i]? = some e → kv[i]? = some p → EntryOK E e p := fun i e p h1 h2 => he i e p (by simpa using h1) h2
  have hfk := findKey_run (P := P) (w := w) hf ht hn hx hl' he' hr
  cases r with
  | some i =>
    obtain ⟨p, hp, hpe⟩ := kfind_eq hr
    have hlt : i < es.toList.length := by rw [hl']; exact (List.getElem?_eq_some_iff.1 hp).1
    have hei : es.toList[i]? = some (es.toList[i]) := List.getElem?_eq_getElem hlt
    obtain ⟨e, ee⟩ : ∃ e, es.toList[i] = e := ⟨_, rfl⟩
    rw [ee] at hei
    have hkey : (Instr.keyThatStays e.key rx).run P w = .ok rx w := by
      have h2 := (he' i _ p hei hp).1
      have h3 := keyEq_rigid hn hx h2 hpe
      have h4 : Instr.sameBits 10000 e.key rx = true := by
        have := sameBits_key hn hx h2 hpe
        rw [← h3] at this ⊢; exact this
      unfold Instr.keyThatStays
      rw [if_pos h4]; simp
    have hei' : es[i]? = some e := by simpa using hei
    obtain ⟨g1, g2, _⟩ := grown_set hw (es.modify i fun e => { e with key := rx }) clock
    have hb1 : BornOK (es.modify i fun e => { e with key := rx }) clock := hbo.modify i _ fun _ => rfl
    refine ⟨e.val, e.born, _, _, _, ?_, g1, g2, ?_, ?_⟩
    · unfold Instr.mapEntry
      simp only [Sem.run_bind, run_underlying hu, Result.andThen_ok, getMap hw, hchk, hfk, At, hei, Nat.zero_add, hei', Option.map_some, Option.getD_some, hkey]
      rw [setMap _ hw]
      rfl
    · simp only [oldAt, hp]
      exact (he' i _ p hei hp).2
    · intro E2 w2 rv gv hE hw2 hrv
      obtain ⟨g3, g4, _⟩ := grown_set hw2 ((es.modify i fun e => { e with key := rx }).modify i fun e => { e with val := rv }) clock
      have hidx : (es.modify i fun e => { e with key := rx }).findIdx? (fun e' => ((e'.born : Nat) : Int) == ((e.born : Nat) : Int)) = some i := by
        refine bornIdxA (e := { e with key := rx }) hb1 ?_
        rw [Array.getElem?_toList, Array.getElem?_modify, if_pos rfl, hei']
        rfl
      refine ⟨_, _, _, ?_, g3, g4, by simpa [putAt] using hl, fun j e' p' he2 hp' => ?_, hb1.modify i _ fun _ => rfl⟩
      · simp [Instr.entryStore, MapKept.run_getObj_map hw2, asInt, asIntOf, goInt, hidx, MapKept.run_setObj_map _ hw2, Result.andThen]
      · simp only [putAt] at hp'
        rw [Array.getElem?_modify] at he2
        rw [List.getElem?_set] at hp'
        by_cases hij : i = j
        · subst hij
          rw [if_pos rfl, Array.getElem?_modify, if_pos rfl, hei'] at he2
          simp only [Option.map_some, Option.some.injEq] at he2
          rw [if_pos rfl, if_pos (by rw [← hl']; exact hlt)] at hp'
          simp only [Option.some.injEq] at hp'
          subst he2; subst hp'
          exact ⟨hx.mono hE, hrv⟩
        · rw [if_neg hij] at he2 hp'
          rw [Array.getElem?_modify, if_neg hij] at he2
          exact ⟨(he j e' p' he2 hp').1.mono hE, (he j e' p' he2 hp').2.mono hE⟩
  | none =>
    obtain ⟨v0, hv0, hvz⟩ := zeroG_run hz w E
    have hv0' : ∀ u : World, (zeroValue et).run P u = .ok v0 u → True := fun _ _ => trivial
    obtain ⟨g1, g2, _⟩ := grown_set hw (es.push { key := rx, val := v0, born := clock }) (clock + 1)
    have hb1 : BornOK (es.push { key := rx, val := v0, born := clock }) (clock + 1) := hbo.push _ rfl
    refine ⟨v0, clock, _, _, _, ?_, g1, g2, hvz, ?_⟩
    · unfold Instr.mapEntry
      simp only [Sem.run_bind, run_underlying hu, Result.andThen_ok, getMap hw, hchk, hfk, At, hv0]
      rw [setMap _ hw]
      rfl
    · intro E2 w2 rv gv hE hw2 hrv
      obtain ⟨g3, g4, _⟩ := grown_set hw2 ((es.push { key := rx, val := v0, born := clock }).modify es.size fun e => { e with val := rv }) (clock + 1)
      have hidx : (es.push { key := rx, val := v0, born := clock }).findIdx? (fun e' => ((e'.born : Nat) : Int) == ((clock : Nat) : Int)) = some es.size := by
        exact bornIdxA (e := { key := rx, val := v0, born := clock }) hb1 (by simp)
      refine ⟨_, _, _, ?_, g3, g4, by simpa [putAt] using hl, fun j e' p' he2 hp' => ?_, hb1.modify _ _ fun _ => rfl⟩
      · simp [Instr.entryStore, MapKept.run_getObj_map hw2, asInt, asIntOf, goInt, hidx, MapKept.run_setObj_map _ hw2, Result.andThen]
      · simp only [putAt] at hp'
        rw [Array.getElem?_modify, Array.getElem?_push] at he2
        by_cases hj : j = es.size
        · subst hj
          rw [if_pos rfl, if_pos rfl] at he2
          simp only [Option.map_some, Option.some.injEq] at he2
          rw [List.getElem?_append_right (by omega)] at hp'
          rw [show es.size - kv.length = 0 by omega] at hp'
          simp at hp'
          subst he2; subst hp'
          exact ⟨hx.mono hE, hrv⟩
        · rw [if_neg (fun e => hj e.symm), if_neg hj] at he2
          have hjlt := (Array.getElem?_eq_some_iff.1 he2).1
          rw [List.getElem?_append_left (by omega)] at hp'
          exact ⟨(he j e' p' he2 hp').1.mono hE, (he j e' p' he2 hp').2.mono hE⟩
end Gv
/- A walk in parts: some by conditions, some by hand. -/
set_option linter.unusedVariables false
namespace Gv
open Go Go.MapKept Go.ChangeMaps Go.Maps
variable {P : Program} {all : Array Oper} {QQ : Exit → Act → World → Prop} {E : Env} {st : GSt} {a : Act} {w : World} {o : Oper} {rest : List Oper}
@[reducible] def cfgOf {P : Program} {f : FuncId} {C : Cfg} {n : Nat} {rs : List ResultVar} {s : SCode} (_ : FnS P f C n rs s) : Cfg := C
def vcN (N : GSt → Prop) : Ex → GSt → Prop
  | .normal, s => N s
  | _, _ => False
def NW (s : List GVal) (O : List GObj) (st : GSt) : Prop := st.o = O ∧ WL st.s s
theorem wp_part {C : Cfg} (hmix : P.follows .mixedOrders = true) {c : Code} {s : SCode} (hs : slim C c = some s) (hc : codeOk C c = true) (h : HSim E st.o w) (ha : SlotsR E a st.s) {N : GSt → Prop} (hv : vcS P C.ro s (vcN N) st) {Q : Exit → Act → World → Prop}
    (hn : ∀ st' E' a' w', HSim E' st'.o w' → Keep E st.o w E' st'.o w' → SlotsR E' a' st'.s → N st' → Q .normal a' w') : c.wp P Q a w := by
  refine wp_mono (vc_sound hmix c (vcN N) st E a w hc h ha (vcS_ok c s (vcN N) (vcN N) st hs (fun _ _ h => h) hv)) ?_
  rintro e a' w' ⟨ex, st', E', hx, h1, h2, h3, h4⟩
  cases e <;> cases ex <;> first
    | exact hx.elim
    | exact h4.elim
    | exact hn st' E' a' w' h1 h2 h3 h4
theorem Post.trans {E0 E : Env} {O0 O : List GObj} {w0 w : World} {Q : Ex → GSt → Prop} {e : Exit} {a' : Act} {w' : World} (k : Keep E0 O0 w0 E O w) (h : Post E O w Q e a' w') : Post E0 O0 w0 Q e a' w' := by
  obtain ⟨ex, st', E', hx, h1, h2, h3, h4⟩ := h
  exact ⟨ex, st', E', hx, h1, k.trans h2, h3, h4⟩
theorem wpList_run (hg : o.guard = none) {v : Value} {w' : World} (hr : (execOp a.eval o).run P w = .ok (.value v) w') (h : wpList P all QQ rest (a.put o.dst v) w') : wpList P all QQ (o :: rest) a w :=
  wpList_plain hg fun K' hK' => by
    unfold Oper.wp
    rw [hr]
    simp only [Oper.upon_value]
    exact hK' _ _ h
theorem wpList_skip (hg : o.guard = none) {w' : World} (hr : (execOp a.eval o).run P w = .ok .skip w') (h : wpList P all QQ rest (a.put o.dst undef) w') : wpList P all QQ (o :: rest) a w :=
  wpList_plain hg fun K' hK' => by
    unfold Oper.wp
    rw [hr]
    exact hK' _ _ h
theorem op_step (hg : o.guard = none) (h : HSim E st.o w) (ha : SlotsR E a st.s) {R : List Nat} {N : GSt → Prop} (hk : opv P R st o (fun g O' => N (st.put o.dst g O')))
    (hq : ∀ st' E' a' w', HSim E' st'.o w' → Keep E st.o w E' st'.o w' → SlotsR E' a' st'.s → N st' → wpList P all QQ rest a' w') : wpList P all QQ (o :: rest) a w :=
  wpList_plain hg fun K' hK' => Oper.wp_mono (fun a w h => hK' a w h) (op_sound h ha hk (fun v w' E' O' g h1 h2 h3 h4 =>
    hq (st.put o.dst g O') E' _ w' (by rw [GSt.put_o]; exact h1) (by rw [GSt.put_o]; exact h2) (ha.put h2.ext h3 O') h4))
theorem ops_seg {R : List Nat} : ∀ (k : Nat) {ops : List Oper} {l : List SOp} {st : GSt} {E : Env} {a : Act} {w : World} (hl : (ops.take k).map (fun o => (⟨o.dst, o.op, none⟩ : SOp)) = l) (hg : (ops.take k).all (fun o => o.guard.isNone) = true)
    (h : HSim E st.o w) (ha : SlotsR E a st.s) {N : GSt → Prop} (hv : opsS P R l N st)
    (hq : ∀ st' E' a' w', HSim E' st'.o w' → Keep E st.o w E' st'.o w' → SlotsR E' a' st'.s → N st' → wpList P all QQ (ops.drop k) a' w'), wpList P all QQ ops a w
  | 0, ops, l, st, E, a, w, hl, hg, h, ha, N, hv, hq => by
    simp only [List.take_zero, List.map_nil] at hl
    subst hl
    rw [opsS_nil] at hv
    exact hq st E a w h (.refl _ _ _) ha hv
  | k + 1, [], l, st, E, a, w, hl, hg, h, ha, N, hv, hq => by
    simp only [List.take_nil, List.map_nil] at hl
    subst hl
    rw [opsS_nil] at hv
    exact hq st E a w h (.refl _ _ _) ha hv
  | k + 1, o :: r, l, st, E, a, w, hl, hg, h, ha, N, hv, hq => by
    simp only [List.take_succ_cons, List.map_cons] at hl
    subst hl
    simp only [List.take_succ_cons, List.all_cons, Bool.and_eq_true, Option.isNone_iff_eq_none] at hg
    rw [opsS_one, ← opS_eq] at hv
    refine op_step (N := fun s => opsS P R ((r.take k).map (fun o => (⟨o.dst, o.op, none⟩ : SOp))) N s) hg.1 h ha hv (fun st' E' a' w' h1 h2 h3 h4 => ?_)
    exact ops_seg k rfl hg.2 h1 h3 h4 (fun st2 E2 a2 w2 q1 q2 q3 q4 => hq st2 E2 a2 w2 q1 (h2.trans q2) q3 q4)
theorem range_step (hg : o.guard = none) {m : Operand} {t k e : TypeId} (hop : o.op = Op.range t m) (ht : P.underlying t = some (.map k e)) {b clock : Nat} {es : Array MapEntry}
    (hm : a.eval m = .map (some b)) (hb : w.heap[b]? = some (.map es clock)) (hbo : Gv.BornOK es clock)
    (hK : ∀ w', WalkAt w' b w.heap.size es clock #[] → w.grownBy w' none → w'.heap.size = w.heap.size + 1 → wpList P all QQ rest (a.put o.dst (.pointer (some ⟨w.heap.size, 0, none⟩))) w') :
    wpList P all QQ (o :: rest) a w := by
  have hrun := run_range_map w t k e b es clock ht hb
  have hlt := (Array.getElem?_eq_some_iff.1 hb).1
  refine wpList_run (v := .pointer (some ⟨w.heap.size, 0, none⟩)) (w' := w.alloc (.mapIter (some b) clock #[] clock)) hg (by simp [execOp, hop, hm, hrun, Result.andThen]) ?_
  exact hK _ ⟨clock, clock, ((MapKept.heap_alloc w _).2 b hlt).trans hb, (MapKept.heap_alloc w _).1, hbo.1, Nat.le_refl _, Nat.le_refl _⟩ (World.grownBy_alloc w _ none) (by simp)
theorem next_step (hg : o.guard = none) {it : Operand} (hop : o.op = Op.next it false) {b r clock : Nat} {es : Array MapEntry} (hbo : Gv.BornOK es clock) {seen : Array Nat} {xs : List MapEntry} (hx : Came es seen xs)
    (hit : a.eval it = .pointer (some ⟨r, 0, none⟩)) (h : WalkAt w b r es clock seen)
    (hDone : xs.Perm es.toList → wpList P all QQ rest (a.put o.dst (.tuple #[.bool false])) w)
    (hMore : ∀ (e : MapEntry) (w' : World), e ∈ es.toList → Came es (seen.push e.born) (xs ++ [e]) → xs.length < es.size → WalkAt w' b r es clock (seen.push e.born) → w'.rangeLeft b r < w.rangeLeft b r →
      w.grownBy w' (some r) → (∀ w2 : World, w2.heap[b]? = w'.heap[b]? → w2.heap[r]? = w'.heap[r]? → (Instr.entry (.pointer (some ⟨r, 0, none⟩))).run P w2 = .ok (.tuple #[e.key, e.val]) w2) → wpList P all QQ rest (a.put o.dst (.tuple #[.bool true, e.key, e.val])) w') :
    wpList P all QQ (o :: rest) a w := by
  have hle := h.left_eq
  obtain ⟨since, c0, hb, hr, hold, hsc, hsk⟩ := h
  obtain ⟨hse, hxn, hxm⟩ := hx
  have hne : r ≠ b := fun e => by rw [e, hb] at hr; cases hr
  have hnd : es.toList.Nodup := hbo.2.imp fun h e => h (congrArg _ e)
  have hbn : (es.toList.map (·.born)).Nodup := List.pairwise_map.2 hbo.2
  rcases run_next_at (P := P) w o.type r b since c0 seen es clock hr hb hold hsc with ⟨h0, hrun⟩ | ⟨e, he, w1, hal, hrun⟩
  · refine wpList_run hg (by simp [execOp, hop, hit, hrun, Result.andThen]) (hDone ?_)
    refine (List.perm_ext_iff_of_nodup hxn hnd).2 fun x => ⟨fun q => hxm x q, fun q => ?_⟩
    have hs := all_seen es seen h0 x q
    rw [hse] at hs
    have hm : x.born ∈ xs.map MapEntry.born := by simpa using hs
    obtain ⟨y, hy, ey⟩ := List.mem_map.1 hm
    rwa [← born_inj hbn (hxm y hy) q ey]
  · have hr1 : w1.heap[r]? = some (.mapIter (some b) since seen c0) := by rcases hal with rfl | rfl <;> exact hr
    have hb1 : w1.heap[b]? = some (.map es clock) := by rcases hal with rfl | rfl <;> exact hb
    have hset := heap_set (o' := .mapIter (some b) since (seen.push e.born) clock) hr1
    have hb' : (ChangeMaps.setBlock w1 r (.mapIter (some b) since (seen.push e.born) clock)).heap[b]? = some (.map es clock) := (hset.2 b (fun e1 => hne e1.symm)).trans hb1
    obtain ⟨hem, hes⟩ := mem_left he
    have hc : Came es (seen.push e.born) (xs ++ [e]) := by
      refine ⟨by rw [hse]; simp, List.nodup_append.2 ⟨hxn, by simp, fun y hy z hz => ?_⟩, fun y hy => ?_⟩
      · rw [List.mem_singleton.1 hz]
        intro q
        have : e.born ∈ xs.map MapEntry.born := List.mem_map_of_mem (q ▸ hy)
        rw [hse] at hes
        have h3 : (xs.map MapEntry.born).toArray.contains e.born = true := by simpa using this
        rw [h3] at hes; cases hes
      · rcases List.mem_append.1 hy with q | q
        · exact hxm y q
        · rw [List.mem_singleton.1 q]; exact hem
    have hlen : (xs ++ [e]).length ≤ es.toList.length := nodup_le _ _ hc.2.1 hc.2.2
    have hw : WalkAt (ChangeMaps.setBlock w1 r (.mapIter (some b) since (seen.push e.born) clock)) b r es clock (seen.push e.born) := ⟨since, clock, hb', hset.1, hold, hsk, hsk⟩
    refine wpList_run hg (by simp [execOp, hop, hit, hrun, Result.andThen]) (hMore e _ hem hc (by simp at hlen; omega) hw ?_ ?_ (fun w2 e1 e2 => run_entry_at w2 r b since seen es clock e (e2.trans hset.1) (e1.trans hb') hem hbn))
    · rw [hle, hw.left_eq]
      exact left_shrinks es _ e he
    · rcases hal with rfl | rfl <;> exact ⟨rfl, rfl, rfl, by simp [ChangeMaps.setBlock], fun i _ hi => hset.2 i (fun e1 => hi (by rw [e1]))⟩
theorem entry_step (hg : o.guard = none) {it : Operand} (hop : o.op = Op.entry it) {r : Nat} {v : Value} (hit : a.eval it = .pointer (some ⟨r, 0, none⟩)) (he : (Instr.entry (.pointer (some ⟨r, 0, none⟩))).run P w = .ok v w)
    (h : wpList P all QQ rest (a.put o.dst v) w) : wpList P all QQ (o :: rest) a w :=
  wpList_run hg (by simp [execOp, hop, hit, he, Result.andThen]) h
theorem mapEntry_step (hg : o.guard = none) {m x : Operand} {t : TypeId} (hop : o.op = Op.mapEntry t m x) {v : Value} {w' : World} (hr : (Instr.mapEntry t (a.eval m) (a.eval x)).run P w = .ok v w')
    (h : wpList P all QQ rest (a.put o.dst v) w') : wpList P all QQ (o :: rest) a w :=
  wpList_run hg (by simp [execOp, hop, hr, Result.andThen]) h
theorem entryStore_step (hg : o.guard = none) {m x y : Operand} {t : TypeId} (hop : o.op = Op.entryStore t m x y) {w' : World} (hr : (Instr.entryStore t (a.eval m) (a.eval x) (a.eval y)).run P w = .ok () w')
    (h : wpList P all QQ rest (a.put o.dst undef) w') : wpList P all QQ (o :: rest) a w :=
  wpList_skip hg (by simp [execOp, hop, hr, Result.andThen]) h
theorem map_val {v : Value} {i s b : Nat} {l : GLoc} (h : VR E v (.map i s)) (hl : E.loc s = some l) (hb : l.block = some b) : v = .map (some b) := by
  cases h with
  | map r o st l' hl' hb' =>
    rw [hl] at hl'; cases hl'
    rw [hb] at hb'; cases hb'
    rfl
theorem HSim.meltBox {O : List GObj} {t sz : Nat} {cs cs' : List GVal} (h : HSim E (O ++ [.row t sz [cs]]) w) {s : List GVal} (ha : SlotsR E a s) (i n : Nat) (hx : s.getD i .any = .ptr O.length t 0 0) (hsz : cs.length = sz)
    (hf : frzL (Gv.frz [.row t sz [cs]] n) cs = some cs') (hne : cs ≠ []) :
    HSim (E.frz [.row t sz [cs]] w) O w ∧ Keep E (O ++ [.row t sz [cs]]) w (E.frz [.row t sz [cs]] w) O w ∧ SlotsR (E.frz [.row t sz [cs]] w) a (s.set i (.ref cs')) := by
  obtain ⟨h0, h1, h2⟩ := h.melt
  refine ⟨h1, h2, by simp [ha.size], ha.defers, fun k g hg => ?_⟩
  rw [List.getElem?_set] at hg
  by_cases hk : i = k
  · subst hk
    rw [if_pos rfl] at hg
    split at hg
    · rename_i hlt
      simp only [Option.some.injEq] at hg
      subst hg
      have := ha.at_ i _ (getD_of (d := GVal.any) hlt)
      rw [hx] at this
      revert this
      generalize a.tmps.getD i undef = tv
      intro this
      cases this with
      | ptr b off o st i j l hl hb ho =>
        have hreal := h0.real 0 _ rfl
        obtain ⟨l', hl', hsz', hxs, hr⟩ := hreal
        rw [hl] at hl'; cases hl'
        rw [hb] at hr
        obtain ⟨cur, el, hcw, hcs, hct, hrows, hsn⟩ := hr
        have hrow : ∀ j g, [cs].flatten[j]? = some g → ∃ v, (E.frz [.row t sz [cs]] w).snap b (off + j) = some v ∧ VR E v g := fun j g hj => by
          have := row_frz h0 (i := 0) rfl hl hb hj
          obtain ⟨v, hv1, hv2⟩ := this
          refine ⟨v, ?_, ?_⟩
          · rw [ho]; simpa using hv1
          · first | exact hv2 | exact hv2.2 | exact hv2.1
        have hl2 := frzL_len hf
        refine .ref b off cs' (fun j => ((E.frz [.row t sz [cs]] w).snap b (off + j)).getD undef) (fun j hj => ?_) (fun j g hg => ?_)
        · obtain ⟨v, hv, _⟩ := hrow j (cs[j]'(by omega)) (by simp)
          rw [hv]; rfl
        · obtain ⟨x, hx1, hx2⟩ := frzL_at hf j g hg
          obtain ⟨v, hv, hvr⟩ := hrow j x (by simpa using hx1)
          rw [hv]
          exact frz_sound h0 n _ _ _ hvr hx2
    · cases hg
  · rw [if_neg hk] at hg
    exact (ha.at_ k g hg).mono h2.ext
theorem HSim.meltBox1 {O : List GObj} {t sz : Nat} {cs : List GVal} (h : HSim E (O ++ [.row t sz [cs]]) w) {s : List GVal} (ha : SlotsR E a s) (i : Nat) (hx : s.getD i .any = .ptr O.length t 0 0) (hsz : cs.length = sz) :
    HSim (E.frz [.row t sz [cs]] w) O w ∧ Keep E (O ++ [.row t sz [cs]]) w (E.frz [.row t sz [cs]] w) O w ∧ SlotsR (E.frz [.row t sz [cs]] w) a (s.set i (.ref cs)) := by
  obtain ⟨h0, h1, h2⟩ := h.melt
  refine ⟨h1, h2, by simp [ha.size], ha.defers, fun k g hg => ?_⟩
  rw [List.getElem?_set] at hg
  by_cases hk : i = k
  · subst hk
    rw [if_pos rfl] at hg
    split at hg
    · rename_i hlt
      simp only [Option.some.injEq] at hg
      subst hg
      have := ha.at_ i _ (getD_of (d := GVal.any) hlt)
      rw [hx] at this
      revert this
      generalize a.tmps.getD i undef = tv
      intro this
      cases this with
      | ptr b off o st i j l hl hb ho =>
        have hreal := h0.real 0 _ rfl
        obtain ⟨l', hl', hsz', hxs, hr⟩ := hreal
        rw [hl] at hl'; cases hl'
        rw [hb] at hr
        obtain ⟨cur, el, hcw, hcs, hct, hrows, hsn⟩ := hr
        have hrow : ∀ j g, [cs].flatten[j]? = some g → ∃ v, (E.frz [.row t sz [cs]] w).snap b (off + j) = some v ∧ VR E v g := fun j g hj => by
          have := row_frz h0 (i := 0) rfl hl hb hj
          obtain ⟨v, hv1, hv2⟩ := this
          refine ⟨v, ?_, ?_⟩
          · rw [ho]; simpa using hv1
          · first | exact hv2 | exact hv2.2 | exact hv2.1
        refine .ref b off cs (fun j => ((E.frz [.row t sz [cs]] w).snap b (off + j)).getD undef) (fun j hj => ?_) (fun j g hg => ?_)
        · obtain ⟨v, hv, _⟩ := hrow j (cs[j]'(by omega)) (by simp)
          rw [hv]; rfl
        · obtain ⟨v, hv, hvr⟩ := hrow j g (by simpa using hg)
          rw [hv]
          exact hvr.mono h2.ext
    · cases hg
  · rw [if_neg hk] at hg
    exact (ha.at_ k g hg).mono h2.ext
end Gv
/- Some of the objects, in another order. -/
set_option linter.unusedVariables false
namespace Gv
open Go
theorem HSim.pick {E : Env} {O X : List GObj} {w : World} (h : HSim E O w) (pl : List Nat) (hX : Fits O pl X) (hnd : pl.Nodup) (hc : clockOf X = none) : HSim E X w ∧ Keep E O w E X w := by
  have hpl : ∀ {i j k : Nat}, pl[i]? = some k → pl[j]? = some k → i = j := fun {i j k} hi hj => by
    obtain ⟨h1, e1⟩ := List.getElem?_eq_some_iff.1 hi
    obtain ⟨h2, e2⟩ := List.getElem?_eq_some_iff.1 hj
    have hp := List.pairwise_iff_getElem.1 hnd
    rcases Nat.lt_trichotomy i j with q | q | q
    · exact absurd (e1.trans e2.symm) (hp i j h1 h2 q)
    · exact q
    · exact absurd (e2.trans e1.symm) (hp j i h2 h1 q)
  refine ⟨⟨?_, h.sealed, h.one, fun i x hx => ?_, fun i j oi oj b hij hi hj hbi hbj => ?_, h.glob⟩, ⟨.refl E, rfl, rfl, Nat.le_refl _, fun _ _ _ => rfl, fun _ _ _ hv => .inl hv, fun b ⟨i, x, hx, hb⟩ => ?_, trivial⟩⟩
  · obtain ⟨n, _, q⟩ := h.fin
    exact ⟨n, (fun c e => by rw [hc] at e; cases e), q⟩
  · obtain ⟨j, y, _, hy, hle⟩ := hX.at_ i x hx
    exact hle.real E w (h.real j y hy)
  · obtain ⟨i', yi, pi, hyi, li⟩ := hX.at_ i oi hi
    obtain ⟨j', yj, pj, hyj, lj⟩ := hX.at_ j oj hj
    rw [li.blk] at hbi
    rw [lj.blk] at hbj
    refine h.sep i' j' yi yj b (fun e => hij ?_) hyi hyj hbi hbj
    rw [e] at pi
    exact hpl pi pj
  · obtain ⟨j, y, _, hy, hle⟩ := hX.at_ i x hx
    exact .inl ⟨j, y, hy, by rw [← hle.blk]; exact hb⟩
end Gv
/- A contract over some objects, used among others. -/
set_option linter.unusedVariables false
namespace Gv
open Go
def FitsR (O : List GObj) : List Nat → List GObj → Prop
  | [], [] => True
  | j :: pl, x :: r => (∃ y, O[j]? = some y ∧ OLe x y) ∧ FitsR O pl r
  | _, _ => False
theorem FitsR.at_ {O : List GObj} : ∀ {pl : List Nat} {X : List GObj}, FitsR O pl X → ∀ (i j : Nat), pl[i]? = some j → ∃ x y, X[i]? = some x ∧ O[j]? = some y ∧ OLe x y
  | [], [], _, i, j, h => by simp at h
  | j :: pl, x :: r, h, 0, k, hk => by simp at hk; subst hk; obtain ⟨y, h1, h2⟩ := h.1; exact ⟨x, y, rfl, h1, h2⟩
  | j :: pl, x :: r, h, i + 1, k, hk => by simpa using FitsR.at_ h.2 i k (by simpa using hk)
  | [], _ :: _, h, _, _, _ => h.elim
  | _ :: _, [], h, _, _, _ => h.elim
theorem idx_spec : ∀ (pl : List Nat) (k : Nat), (k ∉ pl ∧ pl.findIdx? (· == k) = none) ∨ ∃ i, pl.findIdx? (· == k) = some i ∧ pl[i]? = some k
  | [], k => .inl ⟨by simp, rfl⟩
  | j :: pl, k => by
    rw [List.findIdx?_cons]
    by_cases e : j = k
    · subst e
      exact .inr ⟨0, by simp, rfl⟩
    · have e' : (j == k) = false := by simpa using e
      rw [e']
      rcases idx_spec pl k with ⟨h1, h2⟩ | ⟨i, h1, h2⟩
      · exact .inl ⟨by simp [h1]; exact fun q => e q.symm, by rw [h2]; rfl⟩
      · exact .inr ⟨i + 1, by rw [h1]; rfl, by simpa using h2⟩
def pickS (pl : List Nat) (k : Nat) : Bool × Nat := match pl.findIdx? (· == k) with
  | some i => (false, i)
  | none => (true, k)
theorem pickS_inj {pl : List Nat} {a b : Nat} (h : pickS pl a = pickS pl b) : a = b := by
  unfold pickS at h
  rcases idx_spec pl a with ⟨_, ha⟩ | ⟨i, ha, ha2⟩ <;> rcases idx_spec pl b with ⟨_, hb⟩ | ⟨j, hb, hb2⟩ <;> rw [ha, hb] at h <;> simp at h
  · exact h
  · subst h; rw [ha2] at hb2; cases hb2; rfl
theorem GCalls.readAt {P : Program} {f : FuncId} {args args' : List GVal} {X O : List GObj} {r : GVal} (h : GCalls P f args X (fun g O' => g = r ∧ O' = X)) (pl : List Nat) (hX : Fits O pl X) (hR : FitsR O pl X) (hnd : pl.Nodup) (ha : GLes args' args) (hcX : clockOf X = none) (hc : clockOf O = none) :
    GCalls P f args' O (fun g O' => g = r ∧ O' = O) := by
  refine GCalls.frame h pl hX hnd ha hcX hc ?_
  rintro g O' ⟨rfl, rfl⟩
  refine ⟨g, O, (List.range O.length).map (pickS pl), ⟨rfl, rfl⟩, GLe.refl g, Comes.of (by simp) fun k z s hz hs => ?_, ?_, hc⟩
  · have hk : k < O.length := (List.getElem?_eq_some_iff.1 hz).1
    simp only [List.getElem?_map, List.getElem?_range hk, Option.map_some, Option.some.injEq] at hs
    subst hs
    unfold pickS
    rcases idx_spec pl k with ⟨h1, h2⟩ | ⟨i, h1, h2⟩
    · rw [h2]; exact ⟨h1, z, hz, .refl _⟩
    · rw [h1]
      obtain ⟨x, y, a1, a2, a3⟩ := hR.at_ i k h2
      rw [hz] at a2; cases a2
      exact ⟨x, a1, a3⟩
  · rw [List.nodup_iff_pairwise_ne, List.pairwise_map]
    exact (List.pairwise_lt_range (n := O.length)).imp fun {a b} hab e => by have := pickS_inj e; omega
theorem GCalls.oneNew {P : Program} {f : FuncId} {args args' : List GVal} {x : GObj} {O : List GObj} {r : GVal} {x1 z1 y1 : Nat → GObj} (h : GCalls P f args [x] (fun g O' => ∃ so, g = r ∧ O' = [x1 so, y1 so])) (i : Nat) {xi : GObj} (hi : O[i]? = some xi) (hx : OLe xi x) (hz : ∀ so, OLe (x1 so) (z1 so)) (ha : GLes args' args) (hcX : clockOf [x] = none) (hc : clockOf O = none) (hz1 : ∀ so, (z1 so).isClock = false) (hy1 : ∀ so, (y1 so).isClock = false) :
    GCalls P f args' O (fun g O' => ∃ so, g = r ∧ O' = O.set i (z1 so) ++ [y1 so]) := by
  have hil := (List.getElem?_eq_some_iff.1 hi).1
  refine GCalls.frame h [i] ⟨⟨xi, hi, hx⟩, trivial⟩ (by simp) ha hcX hc ?_
  rintro g O' ⟨so, rfl, rfl⟩
  refine ⟨g, _, (List.range (O.length + 1)).map (fun k => if k = i then (false, 0) else if k = O.length then (false, 1) else (true, k)), ⟨so, rfl, rfl⟩, GLe.refl g, Comes.of (by simp) fun k z s hz' hs => ?_, ?_, ?_⟩
  · have hk : k < O.length + 1 := by have := (List.getElem?_eq_some_iff.1 hz').1; simpa using this
    simp only [List.getElem?_map, List.getElem?_range hk, Option.map_some, Option.some.injEq] at hs
    subst hs
    by_cases e : k = i
    · subst e
      rw [List.getElem?_append_left (by simpa using hil), List.getElem?_set_self hil] at hz'
      cases hz'
      simp only [if_pos]
      exact ⟨x1 so, rfl, hz so⟩
    · by_cases e2 : k = O.length
      · subst e2
        rw [List.getElem?_append_right (by simp)] at hz'
        simp at hz'
        subst hz'
        simp only [if_neg e, if_pos]
        exact ⟨y1 so, rfl, .refl _⟩
      · rw [List.getElem?_append_left (by simp; omega), List.getElem?_set_ne (fun q => e q.symm)] at hz'
        simp only [if_neg e, if_neg e2]
        exact ⟨by simp [e], z, hz', .refl _⟩
  · rw [List.nodup_iff_pairwise_ne, List.pairwise_map]
    refine List.Pairwise.imp_of_mem ?_ (List.pairwise_lt_range (n := O.length + 1))
    intro a b _ _ hab
    by_cases a1 : a = i <;> by_cases b1 : b = i <;> by_cases a3 : a = O.length <;> by_cases b3 : b = O.length <;> simp_all <;> omega
  · match O, i with
    | [], _ => simp at hil
    | y :: r, 0 => 
      have := hz1 so
      show clockOf (z1 so :: _) = none
      cases hq : z1 so <;> first | rfl | (rw [hq] at this; cases this)
    | y :: r, k + 1 =>
      show clockOf (y :: _) = none
      cases y <;> first | rfl | cases hc
theorem GInto.pick {g : GVal} {O X : List GObj} {N : GVal → List GObj → Prop} (pl : List Nat) (hX : Fits O pl X) (hnd : pl.Nodup) (hc : clockOf X = none) (h : N g X) : GInto g O N := fun E v w hs hv => by
  obtain ⟨h1, h2⟩ := hs.pick pl hX hnd hc
  exact ⟨g, X, E, h, h1, h2, hv⟩
structure VCs (P : Program) (R : List Nat) (s : SCode) (Q : Ex → GSt → Prop) (st : GSt) : Prop where
  ok : vcS P R s Q st
theorem wp_partV {P : Program} {E : Env} {st : GSt} {a : Act} {w : World} {C : Cfg} (hmix : P.follows .mixedOrders = true) {c : Code} {s : SCode} (hs : slim C c = some s) (hc : codeOk C c = true) (h : HSim E st.o w) (ha : SlotsR E a st.s) {N : GSt → Prop} (hv : VCs P C.ro s (vcN N) st) {Q : Exit → Act → World → Prop}
    (hn : ∀ st' E' a' w', HSim E' st'.o w' → Keep E st.o w E' st'.o w' → SlotsR E' a' st'.s → N st' → Q .normal a' w') : c.wp P Q a w := wp_part hmix hs hc h ha hv.ok hn
end Gv
/- ids' Update: the ghost parts. -/
set_option linter.unusedVariables false
set_option linter.unusedSimpArgs false
set_option maxRecDepth 20000
set_option maxHeartbeats 4000000
namespace Gv.Tryz
open Go Gv Go.Proofs
open Nat (reduceEqDiff reduceAdd reduceSub reduceLeDiff reduceMul reduceLT)
abbrev uS (ti st : Nat) (x5 x7 x8 x10 x11 x63 x64 x65 : GVal) : List GVal := [.ptr 2 ti 0 0, .ptr 0 st 0 0, .any, .any, .any, x5, .any, x7, x8, .any, x10, x11, .any, .any, .any, .any, .any, .any, .any, .any, .any, .any, .any, .any, .any, .any, .any, .any, .any, .any, .any, .any, .any, .any, .any, .any, .any, .any, .any, .any, .any, .any, .any, .any, .any, .any, .any, .any, .any, .any, .any, .any, .any, .any, .any, .any, .any, .any, .any, .any, .any, .any, .any, x63, x64, x65, .any, .any, .any, .any, .any, .any, .any, .any, .any, .any, .any, .any, .any, .any, .any, .any, .any, .any, .any, .any]
abbrev C10 : Cfg := cfgOf h12
theorem u0 (ti st : Nat) (R : List GVal) (hR : R.length = 3) (hs : allSolid R = True) (O : List GObj) : VCs Tryz.prog [5] s12_0 (vcN (NW (uS ti st (.ref R) .any .any .any .any .any .any .any) O)) (gstart 86 [.ptr 2 ti 0 0, .ptr 0 st 0 0, .agg R] O) := by
  refine ⟨?_⟩
  simp only [gstart, List.cons_append, List.nil_append, List.length_cons, List.length_nil, reduceAdd, reduceSub, List.replicate_succ, List.replicate_zero]
  skip
  simp +contextual -implicitDefEqProofs (maxSteps := 2000000) (disch := omega) only [drawC, drawK, keepT, ↓lenV, binV, ↓loadV, ↓storeV, ↓fieldAddrV, ↓indexAddrV, ↓allocV, ↓boxV, ↓buildV, ↓buildSliceV, ↓nilV, ↓ifaceV, ↓appendV, ↓srcV, fillG, fillE, place, GVal.cells, GVal.ofConst, ↓resV, resG, ↓reduceIte, reduceEqDiff, reduceAdd, reduceSub, reduceLeDiff, reduceCtorEq, ↓asrcV, aggV, Tag.cap, GVal.solid, Nat.reduceBEq, reduceMul, reduceLT, vcA, ↓vcB, vcC, fbFy, e12, vcN, NW, leG_any, leG_self, and_true, true_and, hR, hs, vcD]
theorem u1 (ti st : Nat) (x5 : GVal) (O : List GObj) : VCs Tryz.prog [5] (.seq s12_1 s12_3) (vcN (NW (uS ti st x5 .any .any .any .any .any .any .any) O)) ⟨uS ti st x5 .any .any .any .any .any .any .any, O⟩ := by
  refine ⟨?_⟩
  skip
  simp +contextual -implicitDefEqProofs (maxSteps := 2000000) (disch := omega) only [drawC, drawK, keepT, ↓lenV, binV, ↓loadV, ↓storeV, ↓fieldAddrV, ↓indexAddrV, ↓allocV, ↓boxV, ↓buildV, ↓buildSliceV, ↓nilV, ↓ifaceV, ↓appendV, ↓srcV, fillG, fillE, place, GVal.cells, GVal.ofConst, ↓resV, resG, ↓reduceIte, reduceEqDiff, reduceAdd, reduceSub, reduceLeDiff, reduceCtorEq, ↓asrcV, aggV, Tag.cap, GVal.solid, Nat.reduceBEq, reduceMul, reduceLT, vcA, ↓vcB, vcC, fbFy, e12, uS, vcN, NW, leG_any, leG_self, and_true, true_and, vcD]
theorem u4 (ti st so : Nat) (x5 : GVal) (n : Int) (M O : List Hs) (g1 g2 : GObj) : VCs Tryz.prog [5] s12_4 (vcN (NW (uS ti st x5 (.slice (hsG M) .none) (.slice (hsG O) .none) .any .any .any .any .any) (g1 :: g2 :: idO2 ti so n M O))) ⟨uS ti st x5 .any .any .any .any .any .any .any, g1 :: g2 :: idO2 ti so n M O⟩ := by
  refine ⟨?_⟩
  skip
  simp +contextual -implicitDefEqProofs (maxSteps := 2000000) (disch := omega) only [drawC, drawK, keepT, ↓lenV, binV, ↓loadV, ↓storeV, ↓fieldAddrV, ↓indexAddrV, ↓allocV, ↓boxV, ↓buildV, ↓buildSliceV, ↓nilV, ↓ifaceV, ↓appendV, ↓srcV, fillG, fillE, place, GVal.cells, GVal.ofConst, ↓resV, resG, ↓reduceIte, reduceEqDiff, reduceAdd, reduceSub, reduceLeDiff, reduceCtorEq, ↓asrcV, aggV, Tag.cap, GVal.solid, Nat.reduceBEq, reduceMul, reduceLT, vcA, ↓vcB, vcC, fbFy, e12, uS, vcN, NW, leG_any, leG_self, and_true, true_and, vcD]
theorem u12n (ti st : Nat) (cs : List Cm) (hs : List Hs) (th : Tag) (gr : Int) (hg : gr ≠ 1) (x7 x8 : GVal) (O : List GObj) : VCs Tryz.prog [5] s12_12 (vcN (NW (uS ti st (.ref (reqG cs hs th gr)) x7 x8 .any .any .any .any .any) O)) ⟨uS ti st (.ref (reqG cs hs th gr)) x7 x8 .any .any .any .any .any, O⟩ := by
  refine ⟨?_⟩
  have d0 : (gr = 1) = False := eq_false hg
  skip
  simp +contextual -implicitDefEqProofs (maxSteps := 2000000) (disch := omega) only [drawC, drawK, keepT, ↓lenV, binV, ↓loadV, ↓storeV, ↓fieldAddrV, ↓indexAddrV, ↓allocV, ↓boxV, ↓buildV, ↓buildSliceV, ↓nilV, ↓ifaceV, ↓appendV, ↓srcV, fillG, fillE, place, GVal.cells, GVal.ofConst, ↓resV, resG, ↓reduceIte, reduceEqDiff, reduceAdd, reduceSub, reduceLeDiff, reduceCtorEq, ↓asrcV, aggV, Tag.cap, GVal.solid, Nat.reduceBEq, reduceMul, reduceLT, vcA, ↓vcB, vcC, fbFy, e12, uS, vcN, NW, leG_any, leG_self, and_true, true_and, d0, vcD]
theorem u12m (m : GM) (hm : GMOK m) (ti st s so : Nat) (cs : List Cm) (hs : List Hs) (th : Tag) (n : Int) (M O : List Hs) (T : WSt) (hT : VisL m (masterB (ofM M O)) hs ([], []) T) (hl : hs.length ≤ 1000000) (hM : M.length ≤ 1000000) (hO : O.length ≤ 1000000) (hTl : T.2.length ≤ 1000000) (hn : (M.length : Int) + T.2.length ≤ n) :
    VCs Tryz.prog [5] s12_12 (vcN (NW (uS ti st (.ref (reqG cs hs th 1)) (.slice (hsG (M ++ T.2)) .none) (.slice (hsG (woL O T.2)) .none) .any .any .any .any .any) (gObj st s m ++ idO2 ti so n M O))) ⟨uS ti st (.ref (reqG cs hs th 1)) (.slice (hsG M) .none) (.slice (hsG O) .none) .any .any .any .any .any, gObj st s m ++ idO2 ti so n M O⟩ := by
  refine ⟨?_⟩
  have cW := iWalkM m hm hs th st s ti so n M O T hT hl
  have d0 : (n < (M.length : Int) + T.2.length) = False := eq_false (by omega)
  have cC := iConcat M T.2 .none .none .full (by omega)
  have cO := iWithout O T.2 hO hTl
  skip
  simp +contextual -implicitDefEqProofs (maxSteps := 2000000) (disch := omega) only [drawC, drawK, keepT, ↓lenV, binV, ↓loadV, ↓storeV, ↓fieldAddrV, ↓indexAddrV, ↓allocV, ↓boxV, ↓buildV, ↓buildSliceV, ↓nilV, ↓ifaceV, ↓appendV, ↓srcV, fillG, fillE, place, GVal.cells, GVal.ofConst, ↓resV, resG, ↓reduceIte, reduceEqDiff, reduceAdd, reduceSub, reduceLeDiff, reduceCtorEq, ↓asrcV, aggV, Tag.cap, GVal.solid, Nat.reduceBEq, reduceMul, reduceLT, vcA, ↓vcB, vcC, fbFy, e12, uS, vcD]
  refine cW.mono ?_
  rintro g O' ⟨rfl, rfl⟩
  simp +contextual -implicitDefEqProofs (maxSteps := 2000000) (disch := omega) only [drawC, drawK, keepT, ↓lenV, binV, ↓loadV, ↓storeV, ↓fieldAddrV, ↓indexAddrV, ↓allocV, ↓boxV, ↓buildV, ↓buildSliceV, ↓nilV, ↓ifaceV, ↓appendV, ↓srcV, fillG, fillE, place, GVal.cells, GVal.ofConst, ↓resV, resG, ↓reduceIte, reduceEqDiff, reduceAdd, reduceSub, reduceLeDiff, reduceCtorEq, ↓asrcV, aggV, Tag.cap, GVal.solid, Nat.reduceBEq, reduceMul, reduceLT, vcA, ↓vcB, vcC, fbFy, e12, hsG_len, d0, vcD]
  refine cC.then ?_ (by rfl)
  simp +contextual -implicitDefEqProofs (maxSteps := 2000000) (disch := omega) only [drawC, drawK, keepT, ↓lenV, binV, ↓loadV, ↓storeV, ↓fieldAddrV, ↓indexAddrV, ↓allocV, ↓boxV, ↓buildV, ↓buildSliceV, ↓nilV, ↓ifaceV, ↓appendV, ↓srcV, fillG, fillE, place, GVal.cells, GVal.ofConst, ↓resV, resG, ↓reduceIte, reduceEqDiff, reduceAdd, reduceSub, reduceLeDiff, reduceCtorEq, ↓asrcV, aggV, Tag.cap, GVal.solid, Nat.reduceBEq, reduceMul, reduceLT, vcA, ↓vcB, vcC, fbFy, e12, vcD]
  refine cO.then ?_ (by rfl)
  simp +contextual -implicitDefEqProofs (maxSteps := 2000000) (disch := omega) only [drawC, drawK, keepT, ↓lenV, binV, ↓loadV, ↓storeV, ↓fieldAddrV, ↓indexAddrV, ↓allocV, ↓boxV, ↓buildV, ↓buildSliceV, ↓nilV, ↓ifaceV, ↓appendV, ↓srcV, fillG, fillE, place, GVal.cells, GVal.ofConst, ↓resV, resG, ↓reduceIte, reduceEqDiff, reduceAdd, reduceSub, reduceLeDiff, reduceCtorEq, ↓asrcV, aggV, Tag.cap, GVal.solid, Nat.reduceBEq, reduceMul, reduceLT, vcA, ↓vcB, vcC, fbFy, e12, vcN, NW, leG_any, leG_self, and_true, true_and, vcD]
theorem u13 (ti st s so : Nat) (x5 x7 x8 : GVal) (n : Int) (m : GM) (M O : List Hs) : VCs Tryz.prog [5] s12_13 (vcN fun st' => ∃ tn tb, NW (uS ti st x5 x7 x8 (.ptr 5 tb 0 0) .any .any .any .any) (gObj st s m ++ idO2 ti so n M O ++ [.row tn 4 [[.int .i64 0, .slice [] .nil, .slice [] .nil, .lit (.map none)]], .row tb 1 [[.ptr 4 tn 0 0]]]) st') ⟨uS ti st x5 x7 x8 .any .any .any .any .any, gObj st s m ++ idO2 ti so n M O⟩ := by
  refine ⟨?_⟩
  skip
  simp +contextual -implicitDefEqProofs (maxSteps := 2000000) (disch := omega) only [drawC, drawK, keepT, ↓lenV, binV, ↓loadV, ↓storeV, ↓fieldAddrV, ↓indexAddrV, ↓allocV, ↓boxV, ↓buildV, ↓buildSliceV, ↓nilV, ↓ifaceV, ↓appendV, ↓srcV, fillG, fillE, place, GVal.cells, GVal.ofConst, ↓resV, resG, ↓reduceIte, reduceEqDiff, reduceAdd, reduceSub, reduceLeDiff, reduceCtorEq, ↓asrcV, aggV, Tag.cap, GVal.solid, Nat.reduceBEq, reduceMul, reduceLT, vcA, ↓vcB, vcC, fbFy, e12, uS, vcN, NW, leG_any, leG_self, and_true, true_and, vcD]
  exact ⟨rfl, rfl, fun tn => ⟨rfl, fun tb => ⟨tn, tb, rfl, by simp [leG_self]⟩⟩⟩
abbrev nxO (tn sn : Nat) (M O : List Hs) : List GObj := [.row tn 4 [[.int .i64 0, .slice (hsG M) .none, .slice (hsG O) .none, .map 5 sn]], .map sn (kvG encI (ofM M O))]
theorem u14 (ti st s so tn : Nat) (x5 : GVal) (n : Int) (m : GM) (M O M1 O1 : List Hs) (hM : M1.length ≤ 1000000) (hO : O1.length ≤ 1000000) : VCs Tryz.prog [5] s12_14 (vcN fun st' => ∃ sn, NW (uS ti st x5 (.slice (hsG M1) .none) (.slice (hsG O1) .none) (.ref [.ptr 4 tn 0 0]) .any .any .any .any) (gObj st s m ++ idO2 ti so n M O ++ nxO tn sn M1 O1) st') ⟨uS ti st x5 (.slice (hsG M1) .none) (.slice (hsG O1) .none) (.ref [.ptr 4 tn 0 0]) .any .any .any .any, gObj st s m ++ idO2 ti so n M O ++ [.row tn 4 [[.int .i64 0, .slice [] .nil, .slice [] .nil, .lit (.map none)]]]⟩ := by
  refine ⟨?_⟩
  have cN := GCalls.oneNew (z1 := fun sn => .row tn 4 [[.int .i64 0, .slice (hsG M1) .none, .slice (hsG O1) .none, .map 5 sn]]) (args' := [.ptr 4 tn 0 0, .slice (hsG M1) .none, .slice (hsG O1) .none]) (iNumber tn (.int .i64 0) (.slice [] .nil) (.slice [] .nil) (.lit (.map none)) M1 O1 hM hO) (O := gObj st s m ++ idO2 ti so n M O ++ [.row tn 4 [[.int .i64 0, .slice [] .nil, .slice [] .nil, .lit (.map none)]]]) 4 rfl (.refl _) (fun so => OLe.row ⟨⟨GLe.refl _, GLe.refl _, GLe.refl _, GLe.map _ _ _, trivial⟩, trivial⟩) ⟨GLe.ptr _ _ _ _ _, GLe.refl _, GLe.refl _, trivial⟩ rfl rfl (fun _ => rfl) (fun _ => rfl)
  skip
  simp +contextual -implicitDefEqProofs (maxSteps := 2000000) (disch := omega) only [drawC, drawK, keepT, ↓lenV, binV, ↓loadV, ↓storeV, ↓fieldAddrV, ↓indexAddrV, ↓allocV, ↓boxV, ↓buildV, ↓buildSliceV, ↓nilV, ↓ifaceV, ↓appendV, ↓srcV, fillG, fillE, place, GVal.cells, GVal.ofConst, ↓resV, resG, ↓reduceIte, reduceEqDiff, reduceAdd, reduceSub, reduceLeDiff, reduceCtorEq, ↓asrcV, aggV, Tag.cap, GVal.solid, Nat.reduceBEq, reduceMul, reduceLT, vcA, ↓vcB, vcC, fbFy, e12, uS, vcD]
  refine cN.mono ?_
  rintro g O' ⟨sn, rfl, rfl⟩
  simp +contextual -implicitDefEqProofs (maxSteps := 2000000) (disch := omega) only [drawC, drawK, keepT, ↓lenV, binV, ↓loadV, ↓storeV, ↓fieldAddrV, ↓indexAddrV, ↓allocV, ↓boxV, ↓buildV, ↓buildSliceV, ↓nilV, ↓ifaceV, ↓appendV, ↓srcV, fillG, fillE, place, GVal.cells, GVal.ofConst, ↓resV, resG, ↓reduceIte, reduceEqDiff, reduceAdd, reduceSub, reduceLeDiff, reduceCtorEq, ↓asrcV, aggV, Tag.cap, GVal.solid, Nat.reduceBEq, reduceMul, reduceLT, vcA, ↓vcB, vcC, fbFy, e12, vcN, NW, leG_any, leG_self, and_true, true_and, vcD]
  exact ⟨sn, rfl⟩
theorem u15 (ti st : Nat) (x7 x8 x10 : GVal) (cs : List Cm) (hs : List Hs) (th : Tag) (ht : th = .nil → hs = []) (hl : hs.length ≤ 1000000) (gr : Int) (O : List GObj) (hc : clockOf O = none) : VCs Tryz.prog [5] s12_15 (vcN fun st' => (hs = [] ∧ NW (uS ti st (.ref (reqG cs hs th gr)) x7 x8 x10 (.slice [] .nil) .any .any .any) O st') ∨ ∃ v, NW (uS ti st (.ref (reqG cs hs th gr)) x7 x8 x10 (.own O.length v 0 hs.length) .any .any .any) (O ++ [.row v 32 (hsG hs)]) st') ⟨uS ti st (.ref (reqG cs hs th gr)) x7 x8 x10 .any .any .any .any, O⟩ := by
  refine ⟨?_⟩
  have cC := GCalls.newUp (hClone hs th (by omega) ht) (O := O) hc (by rintro g O' (⟨_, rfl, rfl⟩ | ⟨st, rfl, rfl⟩) <;> rfl)
  skip
  simp +contextual -implicitDefEqProofs (maxSteps := 2000000) (disch := omega) only [drawC, drawK, keepT, ↓lenV, binV, ↓loadV, ↓storeV, ↓fieldAddrV, ↓indexAddrV, ↓allocV, ↓boxV, ↓buildV, ↓buildSliceV, ↓nilV, ↓ifaceV, ↓appendV, ↓srcV, fillG, fillE, place, GVal.cells, GVal.ofConst, ↓resV, resG, ↓reduceIte, reduceEqDiff, reduceAdd, reduceSub, reduceLeDiff, reduceCtorEq, ↓asrcV, aggV, Tag.cap, GVal.solid, Nat.reduceBEq, reduceMul, reduceLT, vcA, ↓vcB, vcC, fbFy, e12, uS, vcD]
  refine cC.mono ?_
  rintro g O' ⟨g0, O1, (⟨rfl, rfl, rfl⟩ | ⟨v, rfl, rfl⟩), rfl, rfl⟩
  · simp +contextual -implicitDefEqProofs (maxSteps := 2000000) (disch := omega) only [drawC, drawK, keepT, ↓lenV, binV, ↓loadV, ↓storeV, ↓fieldAddrV, ↓indexAddrV, ↓allocV, ↓boxV, ↓buildV, ↓buildSliceV, ↓nilV, ↓ifaceV, ↓appendV, ↓srcV, fillG, fillE, place, GVal.cells, GVal.ofConst, ↓resV, resG, ↓reduceIte, reduceEqDiff, reduceAdd, reduceSub, reduceLeDiff, reduceCtorEq, ↓asrcV, aggV, Tag.cap, GVal.solid, Nat.reduceBEq, reduceMul, reduceLT, vcA, ↓vcB, vcC, fbFy, e12, vcN, NW, leG_any, leG_self, and_true, true_and, GVal.up, vcD]
    exact .inl trivial
  · simp +contextual -implicitDefEqProofs (maxSteps := 2000000) (disch := omega) only [drawC, drawK, keepT, ↓lenV, binV, ↓loadV, ↓storeV, ↓fieldAddrV, ↓indexAddrV, ↓allocV, ↓boxV, ↓buildV, ↓buildSliceV, ↓nilV, ↓ifaceV, ↓appendV, ↓srcV, fillG, fillE, place, GVal.cells, GVal.ofConst, ↓resV, resG, ↓reduceIte, reduceEqDiff, reduceAdd, reduceSub, reduceLeDiff, reduceCtorEq, ↓asrcV, aggV, Tag.cap, GVal.solid, Nat.reduceBEq, reduceMul, reduceLT, vcA, ↓vcB, vcC, fbFy, e12, vcN, NW, leG_any, leG_self, and_true, true_and, GVal.up, vcD]
    exact .inr ⟨v, rfl, by rw [leG_self]; trivial⟩
abbrev uO (ti st s so tn sn : Nat) (n : Int) (m : GM) (M O M1 O1 : List Hs) : List GObj := gObj st s m ++ idO2 ti so n M O ++ nxO tn sn M1 O1
theorem u23 (ti st s so tn sn : Nat) (n : Int) (m : GM) (M O M1 O1 : List Hs) (x7 x8 x10 x11 : GVal) (X : List GObj) (cs : List Cm) (hs : List Hs) (th : Tag) (gr : Int) (hl : hs.length ≤ 1000000) (hc : cs.length ≤ 1000000)
    (hx : (hs = [] ∧ x11 = .slice [] .nil ∧ X = []) ∨ ∃ v, x11 = .own 6 v 0 hs.length ∧ X = [.row v 32 (hsG hs)]) :
    VCs Tryz.prog [5] s12_23 (vcN fun st' => ∃ v, NW (uS ti st (.ref (reqG cs hs th gr)) x7 x8 x10 (.own 6 v 0 (hs ++ cs.map (·.1)).length) .any .any .any) (uO ti st s so tn sn n m M O M1 O1 ++ [.row v 32 (hsG (hs ++ cs.map (·.1)))]) st') ⟨uS ti st (.ref (reqG cs hs th gr)) x7 x8 x10 x11 .any .any .any, uO ti st s so tn sn n m M O M1 O1 ++ X⟩ := by
  refine ⟨?_⟩
  skip
  simp +contextual -implicitDefEqProofs (maxSteps := 2000000) (disch := omega) only [drawC, drawK, keepT, ↓lenV, binV, ↓loadV, ↓storeV, ↓fieldAddrV, ↓indexAddrV, ↓allocV, ↓boxV, ↓buildV, ↓buildSliceV, ↓nilV, ↓ifaceV, ↓appendV, ↓srcV, fillG, fillE, place, GVal.cells, GVal.ofConst, ↓resV, resG, ↓reduceIte, reduceEqDiff, reduceAdd, reduceSub, reduceLeDiff, reduceCtorEq, ↓asrcV, aggV, Tag.cap, GVal.solid, Nat.reduceBEq, reduceMul, reduceLT, vcA, ↓vcB, vcC, fbFy, e12, uS, csG_len, vcD]
  refine vcSLoop_by (ι := { p : Nat × Nat // p.1 ≤ cs.length }) (fun p => ⟨uS ti st (.ref (reqG cs hs th gr)) x7 x8 x10 (.own 6 p.1.2 0 (hs ++ (cs.map (·.1)).take p.1.1).length) (.slice (csG cs) .none) (.int .i64 cs.length) (.int .i64 (p.1.1 : Nat)), uO ti st s so tn sn n m M O M1 O1 ++ [.row p.1.2 32 (hsG (hs ++ (cs.map (·.1)).take p.1.1))]⟩) (fun p => cs.length - p.1.1) ?_ ?_
  · rcases hx with ⟨rfl, rfl, rfl⟩ | ⟨v, rfl, rfl⟩
    · refine Into.row 11 32 rfl rfl ?_
      simp +contextual -implicitDefEqProofs (maxSteps := 2000000) (disch := omega) only [drawC, drawK, keepT, ↓lenV, binV, ↓loadV, ↓storeV, ↓fieldAddrV, ↓indexAddrV, ↓allocV, ↓boxV, ↓buildV, ↓buildSliceV, ↓nilV, ↓ifaceV, ↓appendV, ↓srcV, fillG, fillE, place, GVal.cells, GVal.ofConst, ↓resV, resG, ↓reduceIte, reduceEqDiff, reduceAdd, reduceSub, reduceLeDiff, reduceCtorEq, ↓asrcV, aggV, Tag.cap, GVal.solid, Nat.reduceBEq, reduceMul, reduceLT, vcA, ↓vcB, vcC, fbFy, e12, vcD]
      intro v
      exact Into.first ⟨(0, v), Nat.zero_le _⟩ ⟨[], rfl⟩ (by simp [WL, leG_self, leG_any, csG_len])
    · exact Into.first ⟨(0, v), Nat.zero_le _⟩ ⟨[], by simp⟩ (by simp [WL, leG_self, leG_any, csG_len])
  · rintro ⟨⟨k, v⟩, hk⟩
    change k ≤ cs.length at hk
    by_cases h : k < cs.length
    · have d0 : ((k : Int) < (cs.length : Int)) = True := eq_true (by omega)
      have eC := csG_at cs k h
      have eT : hs ++ (cs.map (·.1)).take (k + 1) = (hs ++ (cs.map (·.1)).take k) ++ [(cs.getD k default).1] := by
        rw [List.take_add_one]; simp [List.getD, h]
      have lT : (hs ++ (cs.map (·.1)).take k).length ≤ 2000000 := by
        have := List.length_take_le k (cs.map (·.1))
        rw [List.length_append]
        have h2 : (cs.map (·.1)).length = cs.length := List.length_map ..
        omega
      generalize cs.getD k default = c at *
      generalize hs ++ (cs.map (·.1)).take k = L at *
      have l33 : (comG c).length = 33 := comG_len c
      have t32 : List.take 32 (comG c) = bytesG c.1.1 := take32a c.1 _
      have t33 : List.take 33 (comG c) = comG c := List.take_of_length_le (by rw [l33]; exact Nat.le_refl _)
      have dz : List.drop 33 ([.int .u8 0, .int .u8 0, .int .u8 0, .int .u8 0, .int .u8 0, .int .u8 0, .int .u8 0, .int .u8 0, .int .u8 0, .int .u8 0, .int .u8 0, .int .u8 0, .int .u8 0, .int .u8 0, .int .u8 0, .int .u8 0, .int .u8 0, .int .u8 0, .int .u8 0, .int .u8 0, .int .u8 0, .int .u8 0, .int .u8 0, .int .u8 0, .int .u8 0, .int .u8 0, .int .u8 0, .int .u8 0, .int .u8 0, .int .u8 0, .int .u8 0, .int .u8 0, .slice [] .nil] : List GVal) = [] := rfl
      have s33 : allSolid (comG c) = True := by rw [show comG c = bytesG c.1.1 ++ [.slice (hsG c.2) .none] from rfl, solid33]; simp [GVal.solid]
      have eL : List.take L.length (hsG L) = hsG L := List.take_of_length_le (by rw [hsG_len]; exact Nat.le_refl _)
      simp +contextual -implicitDefEqProofs (maxSteps := 2000000) (disch := omega) only [drawC, drawK, keepT, ↓lenV, binV, ↓loadV, ↓storeV, ↓fieldAddrV, ↓indexAddrV, ↓allocV, ↓boxV, ↓buildV, ↓buildSliceV, ↓nilV, ↓ifaceV, ↓appendV, ↓srcV, fillG, fillE, place, GVal.cells, GVal.ofConst, ↓resV, resG, ↓reduceIte, reduceEqDiff, reduceAdd, reduceSub, reduceLeDiff, reduceCtorEq, ↓asrcV, aggV, Tag.cap, GVal.solid, Nat.reduceBEq, reduceMul, reduceLT, vcA, ↓vcB, vcC, fbFy, e12, eL, t33, dz, s33, List.append_nil, uS, uO, nxO, idO2, List.cons_append, List.nil_append, d0, csG_len, eC, l33, t32, hsG_len, all_hsG, setO_3, setO_4, setO_5, setO_6, setO_7, setO_8, vcD, v32]
      refine ⟨by omega, fun sc => ⟨by omega, by omega, by omega, fun v2 => ?_⟩⟩
      have eLen : (hs ++ (cs.map (·.1)).take (k + 1)).length = L.length + 1 := by rw [eT]; simp
      refine Into.at ⟨(k + 1, v2), h⟩ (by show _ < _; simp; omega) ⟨[.row sc 33 [comG c]], ?_⟩ ?_
      · show _ = (uO ti st s so tn sn n m M O M1 O1 ++ [.row v2 32 (hsG (hs ++ (cs.map (·.1)).take (k + 1)))]) ++ [.row sc 33 [comG c]]
        rw [eT, hsG_app]
        rfl
      · show WL _ (uS ti st (.ref (reqG cs hs th gr)) x7 x8 x10 (.own 6 v2 0 (hs ++ (cs.map (·.1)).take (k + 1)).length) (.slice (csG cs) .none) (.int .i64 cs.length) (.int .i64 (k + 1 : Nat)))
        rw [eLen]
        simp [WL, leG_self, leG_any, leG_int]
    · have d0 : ((k : Int) < (cs.length : Int)) = False := eq_false (by omega)
      have ek : (cs.map (·.1)).take k = cs.map (·.1) := List.take_of_length_le (by rw [List.length_map]; omega)
      rw [ek]
      simp +contextual -implicitDefEqProofs (maxSteps := 2000000) (disch := omega) only [drawC, drawK, keepT, ↓lenV, binV, ↓loadV, ↓storeV, ↓fieldAddrV, ↓indexAddrV, ↓allocV, ↓boxV, ↓buildV, ↓buildSliceV, ↓nilV, ↓ifaceV, ↓appendV, ↓srcV, fillG, fillE, place, GVal.cells, GVal.ofConst, ↓resV, resG, ↓reduceIte, reduceEqDiff, reduceAdd, reduceSub, reduceLeDiff, reduceCtorEq, ↓asrcV, aggV, Tag.cap, GVal.solid, Nat.reduceBEq, reduceMul, reduceLT, vcA, ↓vcB, vcC, fbFy, e12, uS, d0, vcN, NW, leG_any, leG_self, and_true, true_and, vcD]
      exact ⟨v, rfl, by rw [leG_self]; trivial⟩
theorem u27 (m : GM) (hm : GMOK m) (ti st s so tn sn : Nat) (n : Int) (M O M1 O1 : List Hs) (x5 : GVal) (L : List Hs) (hL : L.length ≤ 1000000) (T : WSt) (hT : VisL m (fun h => (look (ofM M1 O1) h).isSome) L ([], []) T) (hM : M1.length ≤ 1000000) (hO : O1.length + T.2.length ≤ 1000000) :
    VCs Tryz.prog [5] s12_27 (retQ Tryz.prog [.tmp 6] fun g O' => ∃ so', g = .lit .nilIface ∧ O' = (uO ti st s so tn sn n m M O M1 O1).set 2 (.row ti 4 [[.int .i64 n, .slice (hsG M1) .none, .slice (hsG (O1 ++ T.2)) .none, .map 6 so']]) ++ [.map so' (kvG encI (ofM M1 (O1 ++ T.2)))]) ⟨uS ti st x5 (.slice (hsG M1) .none) (.slice (hsG O1) .none) (.ref [.ptr 4 tn 0 0]) (.slice (hsG L) .none) .any .any .any, uO ti st s so tn sn n m M O M1 O1⟩ := by
  refine ⟨?_⟩
  have cW := GCalls.readAt (args' := [.ptr 0 st 0 0, .slice (hsG L) .none, (.func (.func 44) [] [.ref [.ptr 4 tn 0 0]])]) (iWalkD m hm L .none st s tn sn (.int .i64 0) M1 O1 T hT hL) (O := uO ti st s so tn sn n m M O M1 O1) [0, 1, 4, 5]
    ⟨⟨_, rfl, .refl _⟩, ⟨_, rfl, .refl _⟩, ⟨_, rfl, OLe.row ⟨⟨GLe.refl _, GLe.refl _, GLe.refl _, GLe.map _ _ _, trivial⟩, trivial⟩⟩, ⟨_, rfl, .refl _⟩, trivial⟩
    ⟨⟨_, rfl, .refl _⟩, ⟨_, rfl, .refl _⟩, ⟨_, rfl, OLe.row ⟨⟨GLe.refl _, GLe.refl _, GLe.refl _, GLe.map _ _ _, trivial⟩, trivial⟩⟩, ⟨_, rfl, .refl _⟩, trivial⟩
    (by decide) ⟨GLe.refl _, GLe.refl _, GLe.func _ trivial ⟨GLe.ref ⟨GLe.ptr _ _ _ _ _, trivial⟩, trivial⟩, trivial⟩ rfl rfl
  have cC := iConcat O1 T.2 .none .none .full (by omega)
  have cN := GCalls.oneNew (z1 := fun so' => .row ti 4 [[.int .i64 n, .slice (hsG M1) .none, .slice (hsG (O1 ++ T.2)) .none, .map 6 so']]) (args' := [.ptr 2 ti 0 0, .slice (hsG M1) .none, .slice (hsG (O1 ++ T.2)) .none]) (iNumber ti (.int .i64 n) (.slice (hsG M) .none) (.slice (hsG O) .none) (.map 3 so) M1 (O1 ++ T.2) hM (by rw [List.length_append]; omega)) (O := uO ti st s so tn sn n m M O M1 O1) 2 rfl (.refl _) (fun so => OLe.row ⟨⟨GLe.refl _, GLe.refl _, GLe.refl _, GLe.map _ _ _, trivial⟩, trivial⟩) ⟨GLe.ptr _ _ _ _ _, GLe.refl _, GLe.refl _, trivial⟩ rfl rfl (fun _ => rfl) (fun _ => rfl)
  skip
  simp +contextual -implicitDefEqProofs (maxSteps := 2000000) (disch := omega) only [drawC, drawK, keepT, ↓lenV, binV, ↓loadV, ↓storeV, ↓fieldAddrV, ↓indexAddrV, ↓allocV, ↓boxV, ↓buildV, ↓buildSliceV, ↓nilV, ↓ifaceV, ↓appendV, ↓srcV, fillG, fillE, place, GVal.cells, GVal.ofConst, ↓resV, resG, ↓reduceIte, reduceEqDiff, reduceAdd, reduceSub, reduceLeDiff, reduceCtorEq, ↓asrcV, aggV, Tag.cap, GVal.solid, Nat.reduceBEq, reduceMul, reduceLT, vcA, ↓vcB, vcC, fbFy, e12, uS, vcD]
  refine cW.mono ?_
  rintro g O' ⟨rfl, rfl⟩
  simp +contextual -implicitDefEqProofs (maxSteps := 2000000) (disch := omega) only [drawC, drawK, keepT, ↓lenV, binV, ↓loadV, ↓storeV, ↓fieldAddrV, ↓indexAddrV, ↓allocV, ↓boxV, ↓buildV, ↓buildSliceV, ↓nilV, ↓ifaceV, ↓appendV, ↓srcV, fillG, fillE, place, GVal.cells, GVal.ofConst, ↓resV, resG, ↓reduceIte, reduceEqDiff, reduceAdd, reduceSub, reduceLeDiff, reduceCtorEq, ↓asrcV, aggV, Tag.cap, GVal.solid, Nat.reduceBEq, reduceMul, reduceLT, vcA, ↓vcB, vcC, fbFy, e12, vcD]
  refine cC.then ?_ (by rfl)
  simp +contextual -implicitDefEqProofs (maxSteps := 2000000) (disch := omega) only [drawC, drawK, keepT, ↓lenV, binV, ↓loadV, ↓storeV, ↓fieldAddrV, ↓indexAddrV, ↓allocV, ↓boxV, ↓buildV, ↓buildSliceV, ↓nilV, ↓ifaceV, ↓appendV, ↓srcV, fillG, fillE, place, GVal.cells, GVal.ofConst, ↓resV, resG, ↓reduceIte, reduceEqDiff, reduceAdd, reduceSub, reduceLeDiff, reduceCtorEq, ↓asrcV, aggV, Tag.cap, GVal.solid, Nat.reduceBEq, reduceMul, reduceLT, vcA, ↓vcB, vcC, fbFy, e12, vcD]
  refine cN.mono ?_
  rintro g O' ⟨so', rfl, rfl⟩
  simp +contextual -implicitDefEqProofs (maxSteps := 2000000) (disch := omega) only [drawC, drawK, keepT, ↓lenV, binV, ↓loadV, ↓storeV, ↓fieldAddrV, ↓indexAddrV, ↓allocV, ↓boxV, ↓buildV, ↓buildSliceV, ↓nilV, ↓ifaceV, ↓appendV, ↓srcV, fillG, fillE, place, GVal.cells, GVal.ofConst, ↓resV, resG, ↓reduceIte, reduceEqDiff, reduceAdd, reduceSub, reduceLeDiff, reduceCtorEq, ↓asrcV, aggV, Tag.cap, GVal.solid, Nat.reduceBEq, reduceMul, reduceLT, vcA, ↓vcB, vcC, fbFy, e12, vcD]
  exact ⟨so', rfl⟩
end Gv.Tryz
/- ids' Update: put together. -/
set_option linter.unusedVariables false
set_option linter.unusedSimpArgs false
set_option maxRecDepth 20000
set_option maxHeartbeats 1000000
namespace Gv.Tryz
open Go Gv Go.Proofs
theorem req_solid (cs : List Cm) (hs : List Hs) (th : Tag) (gr : Int) : allSolid (reqG cs hs th gr) = True := by simp [reqG, allSolid, GVal.solid]
theorem iUpdateRaw (m : GM) (hm : GMOK m) (ti st s so : Nat) (cs : List Cm) (hs : List Hs) (th : Tag) (ht : th = .nil → hs = []) (gr n : Int) (M O M1 O1 : List Hs)
    (hcase : (gr ≠ 1 ∧ M1 = M ∧ O1 = O) ∨ (gr = 1 ∧ ∃ T1 : WSt, VisL m (masterB (ofM M O)) hs ([], []) T1 ∧ M1 = M ++ T1.2 ∧ O1 = woL O T1.2 ∧ (M.length : Int) + T1.2.length ≤ n ∧ T1.2.length ≤ 100000))
    (T2 : WSt) (hT2 : VisL m (fun h => (look (ofM M1 O1) h).isSome) (hs ++ cs.map (·.1)) ([], []) T2) (hc : cs.length ≤ 100000) (hh : hs.length ≤ 100000) (hM : M.length ≤ 100000) (hO : O.length ≤ 100000) (hM1 : M1.length ≤ 1000000) (hO1 : O1.length + T2.2.length ≤ 1000000) :
    GCalls Tryz.prog 12 [.ptr 2 ti 0 0, .ptr 0 st 0 0, .agg (reqG cs hs th gr)] (gObj st s m ++ idO2 ti so n M O) (fun g O' => ∃ so' tn sn, g = .lit .nilIface ∧ O' = (uO ti st s so tn sn n m M O M1 O1).set 2 (.row ti 4 [[.int .i64 n, .slice (hsG M1) .none, .slice (hsG (O1 ++ T2.2)) .none, .map 6 so']]) ++ [.map so' (kvG encI (ofM M1 (O1 ++ T2.2)))]) := by
  refine gcalls_of_wp (hf := Tryz.func12) (hb := rfl) (hn := Tryz.ntmps12) (hr := Tryz.results12) (hen := by kernel_rfl) (hargs := by simp) ?_
  intro E a w hs0 ha
  refine wp_seq (wp_partV (st := ⟨(gstart 86 [.ptr 2 ti 0 0, .ptr 0 st 0 0, .agg (reqG cs hs th gr)] []).s, gObj st s m ++ idO2 ti so n M O⟩) mixS (s := s12_0) (C := C10) (by kernel_rfl) (by kernel_rfl) hs0 ha (u0 ti st _ rfl (req_solid _ _ _ _) _) ?_)
  rintro ⟨t1, O1'⟩ E1 a1 w1 q1 k1 s1R ⟨e1, hw1⟩
  change O1' = gObj st s m ++ idO2 ti so n M O at e1
  subst e1
  have s1 := s1R.weak hw1
  show (Code.seq _ _).wp _ _ _ _
  refine wp_seq (wp_partV (st := ⟨uS ti st (.ref (reqG cs hs th gr)) .any .any .any .any .any .any .any, gObj st s m ++ idO2 ti so n M O⟩) mixS (s := .seq s12_1 s12_3) (C := C10) (by kernel_rfl) (by kernel_rfl) q1 s1 (u1 ti st _ _) ?_)
  rintro ⟨t2, O2'⟩ E2 a2 w2 q2 k2 s2R ⟨e2, hw2⟩
  change O2' = gObj st s m ++ idO2 ti so n M O at e2
  subst e2
  have s2 := s2R.weak hw2
  show (Code.seq _ _).wp _ _ _ _
  refine wp_seq (wp_partV (st := ⟨uS ti st (.ref (reqG cs hs th gr)) .any .any .any .any .any .any .any, gObj st s m ++ idO2 ti so n M O⟩) mixS (s := s12_4) (C := C10) (by kernel_rfl) (by kernel_rfl) q2 s2 (u4 ti st so _ n M O _ _) ?_)
  rintro ⟨t3, O3'⟩ E3 a3 w3 q3 k3 s3R ⟨e3, hw3⟩
  change O3' = gObj st s m ++ idO2 ti so n M O at e3
  subst e3
  have s3 := s3R.weak hw3
  have c12 : VCs Tryz.prog [5] s12_12 (vcN (NW (uS ti st (.ref (reqG cs hs th gr)) (.slice (hsG M1) .none) (.slice (hsG O1) .none) .any .any .any .any .any) (gObj st s m ++ idO2 ti so n M O))) ⟨uS ti st (.ref (reqG cs hs th gr)) (.slice (hsG M) .none) (.slice (hsG O) .none) .any .any .any .any .any, gObj st s m ++ idO2 ti so n M O⟩ := by
    rcases hcase with ⟨h1, rfl, rfl⟩ | ⟨rfl, T1, h1, rfl, rfl, h2, h3⟩
    · exact u12n ti st cs hs th gr h1 _ _ _
    · exact u12m m hm ti st s so cs hs th n M O T1 h1 (by omega) (by omega) (by omega) (by omega) h2
  show (Code.seq _ _).wp _ _ _ _
  refine wp_seq (wp_partV (st := ⟨uS ti st (.ref (reqG cs hs th gr)) (.slice (hsG M) .none) (.slice (hsG O) .none) .any .any .any .any .any, gObj st s m ++ idO2 ti so n M O⟩) mixS (s := s12_12) (C := C10) (by kernel_rfl) (by kernel_rfl) q3 s3 c12 ?_)
  rintro ⟨t4, O4'⟩ E4 a4 w4 q4 k4 s4R ⟨e4, hw4⟩
  change O4' = gObj st s m ++ idO2 ti so n M O at e4
  subst e4
  have s4 := s4R.weak hw4
  have k04 := ((k1.trans k2).trans k3).trans k4
  show (Code.seq _ _).wp _ _ _ _
  refine wp_seq (wp_partV (st := ⟨uS ti st (.ref (reqG cs hs th gr)) (.slice (hsG M1) .none) (.slice (hsG O1) .none) .any .any .any .any .any, gObj st s m ++ idO2 ti so n M O⟩) mixS (s := s12_13) (C := C10) (by kernel_rfl) (by kernel_rfl) q4 s4 (u13 ti st s so _ _ _ n m M O) ?_)
  rintro ⟨t5, O5'⟩ E5 a5 w5 q5 k5 s5R ⟨tn, tb, e5, hw5⟩
  change O5' = (gObj st s m ++ idO2 ti so n M O ++ [.row tn 4 [[.int .i64 0, .slice [] .nil, .slice [] .nil, .lit (.map none)]]]) ++ [.row tb 1 [[.ptr 4 tn 0 0]]] at e5
  subst e5
  obtain ⟨q6, k6, s6⟩ := q5.meltBox1 (s5R.weak hw5) 10 rfl rfl
  show (Code.seq _ _).wp _ _ _ _
  refine wp_seq (wp_partV (st := ⟨uS ti st (.ref (reqG cs hs th gr)) (.slice (hsG M1) .none) (.slice (hsG O1) .none) (.ref [.ptr 4 tn 0 0]) .any .any .any .any, gObj st s m ++ idO2 ti so n M O ++ [.row tn 4 [[.int .i64 0, .slice [] .nil, .slice [] .nil, .lit (.map none)]]]⟩) mixS (s := s12_14) (C := C10) (by kernel_rfl) (by kernel_rfl) q6 (s6.weak (by simp [WL, leG_self, leG_any])) (u14 ti st s so tn _ n m M O M1 O1 hM1 (by omega)) ?_)
  rintro ⟨t7, O7'⟩ E7 a7 w7 q7 k7 s7R ⟨sn, e7, hw7⟩
  change O7' = uO ti st s so tn sn n m M O M1 O1 at e7
  subst e7
  have s7 := s7R.weak hw7
  have k07 := ((k04.trans k5).trans k6).trans k7
  show (Code.seq _ _).wp _ _ _ _
  refine wp_seq (wp_partV (st := ⟨uS ti st (.ref (reqG cs hs th gr)) (.slice (hsG M1) .none) (.slice (hsG O1) .none) (.ref [.ptr 4 tn 0 0]) .any .any .any .any, uO ti st s so tn sn n m M O M1 O1⟩) mixS (s := s12_15) (C := C10) (by kernel_rfl) (by kernel_rfl) q7 s7 (u15 ti st _ _ _ cs hs th ht (by omega) gr _ rfl) ?_)
  rintro ⟨t8, O8'⟩ E8 a8 w8 q8 k8 s8R h8
  obtain ⟨x11, X, hx, e8, s8⟩ : ∃ x11 X, ((hs = [] ∧ x11 = .slice [] .nil ∧ X = []) ∨ ∃ v, x11 = .own 6 v 0 hs.length ∧ X = [.row v 32 (hsG hs)]) ∧ O8' = uO ti st s so tn sn n m M O M1 O1 ++ X ∧ SlotsR E8 a8 (uS ti st (.ref (reqG cs hs th gr)) (.slice (hsG M1) .none) (.slice (hsG O1) .none) (.ref [.ptr 4 tn 0 0]) x11 .any .any .any) := by
    rcases h8 with ⟨h1, e, hw⟩ | ⟨v, e, hw⟩
    · exact ⟨_, [], .inl ⟨h1, rfl, rfl⟩, by rw [List.append_nil]; exact e, s8R.weak hw⟩
    · exact ⟨_, _, .inr ⟨v, rfl, rfl⟩, e, s8R.weak hw⟩
  subst e8
  show (Code.seq _ _).wp _ _ _ _
  refine wp_seq (wp_partV (st := ⟨uS ti st (.ref (reqG cs hs th gr)) (.slice (hsG M1) .none) (.slice (hsG O1) .none) (.ref [.ptr 4 tn 0 0]) x11 .any .any .any, uO ti st s so tn sn n m M O M1 O1 ++ X⟩) mixS (s := s12_23) (C := C10) (by kernel_rfl) (by kernel_rfl) q8 s8 (u23 ti st s so tn sn n m M O M1 O1 _ _ _ x11 X cs hs th gr (by omega) (by omega) hx) ?_)
  rintro ⟨t9, O9'⟩ E9 a9 w9 q9 k9 s9R ⟨v, e9, hw9⟩
  change O9' = uO ti st s so tn sn n m M O M1 O1 ++ [.row v 32 (hsG (hs ++ cs.map (·.1)))] at e9
  subst e9
  have s9 := s9R.weak hw9
  obtain ⟨st', Ex, e10, q10, k10, s10⟩ := (Into.melt (st := ⟨uS ti st (.ref (reqG cs hs th gr)) (.slice (hsG M1) .none) (.slice (hsG O1) .none) (.ref [.ptr 4 tn 0 0]) (.own 6 v 0 (hs ++ cs.map (·.1)).length) .any .any .any, uO ti st s so tn sn n m M O M1 O1 ++ [.row v 32 (hsG (hs ++ cs.map (·.1)))]⟩) (N := fun st' => st' = ⟨uS ti st (.ref (reqG cs hs th gr)) (.slice (hsG M1) .none) (.slice (hsG O1) .none) (.ref [.ptr 4 tn 0 0]) (.slice (hsG (hs ++ cs.map (·.1))) .none) .any .any .any, uO ti st s so tn sn n m M O M1 O1⟩) 11 2 rfl rfl (hsG_len _).symm (frz_hs _ 1 _) (Into.here rfl)) E9 a9 w9 q9 s9
  subst e10
  have K10 := ((k07.trans k8).trans k9).trans k10
  refine wp_mono (vc_sound mixS _ (retQ Tryz.prog [.tmp 6] _) ⟨_, _⟩ _ a9 w9 (C := C10) (by kernel_rfl) q10 s10 (vcS_ok (C := C10) _ _ _ _ _ (by kernel_rfl) ?_ (u27 m hm ti st s so tn sn n M O M1 O1 _ _ (by rw [List.length_append, List.length_map]; omega) T2 hT2 hM1 hO1).ok)) (fun e a' w' hpost => Post.trans K10 hpost)
  intro e s h
  cases e with
  | normal => obtain ⟨so', h1, h2⟩ := h; exact ⟨so', tn, sn, h1, h2⟩
  | ret => obtain ⟨so', h1, h2⟩ := h; exact ⟨so', tn, sn, h1, h2⟩
  | exit k => exact h.elim
theorem iUpdate (m : GM) (hm : GMOK m) (ti st s so : Nat) (cs : List Cm) (hs : List Hs) (th : Tag) (ht : th = .nil → hs = []) (gr n : Int) (M O M1 O1 : List Hs)
    (hcase : (gr ≠ 1 ∧ M1 = M ∧ O1 = O) ∨ (gr = 1 ∧ ∃ T1 : WSt, VisL m (masterB (ofM M O)) hs ([], []) T1 ∧ M1 = M ++ T1.2 ∧ O1 = woL O T1.2 ∧ (M.length : Int) + T1.2.length ≤ n ∧ T1.2.length ≤ 100000))
    (T2 : WSt) (hT2 : VisL m (fun h => (look (ofM M1 O1) h).isSome) (hs ++ cs.map (·.1)) ([], []) T2) (hc : cs.length ≤ 100000) (hh : hs.length ≤ 100000) (hM : M.length ≤ 100000) (hO : O.length ≤ 100000) (hM1 : M1.length ≤ 1000000) (hO1 : O1.length + T2.2.length ≤ 1000000) :
    GCalls Tryz.prog 12 [.ptr 2 ti 0 0, .ptr 0 st 0 0, .agg (reqG cs hs th gr)] (gObj st s m ++ idO2 ti so n M O) (fun g O' => ∃ so', g = .lit .nilIface ∧ O' = gObj st s m ++ idO2 ti so' n M1 (O1 ++ T2.2)) := by
  refine GCalls.into ((iUpdateRaw m hm ti st s so cs hs th ht gr n M O M1 O1 hcase T2 hT2 hc hh hM hO hM1 hO1).mono ?_)
  rintro g O' ⟨so', tn, sn, rfl, rfl⟩
  exact GInto.pick (X := gObj st s m ++ idO2 ti so' n M1 (O1 ++ T2.2)) [0, 1, 2, 6] ⟨⟨_, rfl, .refl _⟩, ⟨_, rfl, .refl _⟩, ⟨_, rfl, OLe.row ⟨⟨GLe.refl _, GLe.refl _, GLe.refl _, GLe.map _ _ _, trivial⟩, trivial⟩⟩, ⟨_, rfl, .refl _⟩, trivial⟩ (by decide) rfl ⟨so', rfl, rfl⟩
end Gv.Tryz
/- The law's listed: all hashes by their numbers. -/
set_option linter.unusedVariables false
set_option linter.unusedSimpArgs false
set_option maxRecDepth 20000
set_option maxHeartbeats 4000000
namespace Gv.Tryz
open Go Gv Go.Proofs
open Nat (reduceEqDiff reduceAdd reduceSub reduceLeDiff reduceMul reduceLT)
theorem iListed (ti so : Nat) (n : Int) (M O : List Hs) (hM : M.length ≤ 100000) (hO : O.length ≤ 100000) : GCalls Tryz.prog 14 [.ptr 0 ti 0 0] (idO ti so n M O) (fun g O' => g = .slice (hsG (M ++ O)) .none ∧ O' = idO ti so n M O) := by
  have cM := fun X => (iMasters ti so n M O).keep2 rfl X
  have cO := fun X => (iOthers ti so n M O).keep2 rfl X
  refine GCalls.dropTo ?_
  refine h14.calls mixS (by simp) ?_
  simp only [gstart, s14, List.cons_append, List.nil_append, List.length_cons, List.length_nil, reduceAdd, reduceSub, List.replicate_succ, List.replicate_zero]
  simp +contextual -implicitDefEqProofs (maxSteps := 2000000) (disch := omega) only [binV, optV, ↓loadV, ↓storeV, ↓allocV, ↓buildSliceV, ↓sliceV, ↓appendV, ↓srcV, bound, cutTag, hiTag, fillE, GVal.cells, GVal.ofConst, ↓resV, resG, ↓reduceIte, reduceEqDiff, reduceAdd, reduceSub, reduceLeDiff, reduceCtorEq, ↓asrcV, Tag.cap, GVal.solid, Nat.reduceBEq, reduceMul, reduceLT, vcA, ↓vcB, vcC, fbFy, e14, vcD]
  refine vcSLoop_by (ι := { p : Nat × Nat // p.1 ≤ M.length }) (fun p => ⟨[.ptr 0 ti 0 0, .any, .any, .slice (hsG (M.take p.1.1)) (.tok 2 p.1.2), .int .i64 (p.1.1 : Nat)] ++ List.replicate 39 .any, idO ti so n M O ++ [.tok p.1.2 32]⟩) (fun p => M.length - p.1.1) ?_ ?_
  · refine Into.tok 3 32 [] rfl rfl ?_
    simp +contextual -implicitDefEqProofs (maxSteps := 2000000) (disch := omega) only [binV, optV, ↓loadV, ↓storeV, ↓allocV, ↓buildSliceV, ↓sliceV, ↓appendV, ↓srcV, bound, cutTag, hiTag, fillE, GVal.cells, GVal.ofConst, ↓resV, resG, ↓reduceIte, reduceEqDiff, reduceAdd, reduceSub, reduceLeDiff, reduceCtorEq, ↓asrcV, Tag.cap, GVal.solid, Nat.reduceBEq, reduceMul, reduceLT, vcA, ↓vcB, vcC, fbFy, e14, vcD]
    intro v
    exact Into.first ⟨(0, v), Nat.zero_le _⟩ ⟨[], by simp⟩ (by simp [WL, leG_self, leG_any, hsG])
  · rintro ⟨⟨k, v⟩, hk⟩
    change k ≤ M.length at hk
    by_cases h : k < M.length
    · have d0 : ((k : Int) < (M.length : Int)) = True := eq_true (by omega)
      have cH := fun X => (iHashM ti so n M O k (by omega) (by omega)).keep2 rfl X
      have eT := takeH h
      have lT : (M.take k).length ≤ 100000 := by rw [List.length_take]; omega
      simp only [decide_eq_true h] at cH
      generalize M.getD k h0 = x at *
      generalize M.take k = L at *
      simp +contextual -implicitDefEqProofs (maxSteps := 2000000) (disch := omega) only [binV, optV, ↓loadV, ↓storeV, ↓allocV, ↓buildSliceV, ↓sliceV, ↓appendV, ↓srcV, bound, cutTag, hiTag, fillE, GVal.cells, GVal.ofConst, ↓resV, resG, ↓reduceIte, reduceEqDiff, reduceAdd, reduceSub, reduceLeDiff, reduceCtorEq, ↓asrcV, Tag.cap, GVal.solid, Nat.reduceBEq, reduceMul, reduceLT, vcA, ↓vcB, vcC, fbFy, e14, vcD]
      refine (cM _).mono ?_
      rintro g O' ⟨rfl, rfl⟩
      simp +contextual -implicitDefEqProofs (maxSteps := 2000000) (disch := omega) only [binV, optV, ↓loadV, ↓storeV, ↓allocV, ↓buildSliceV, ↓sliceV, ↓appendV, ↓srcV, bound, cutTag, hiTag, fillE, GVal.cells, GVal.ofConst, ↓resV, resG, ↓reduceIte, reduceEqDiff, reduceAdd, reduceSub, reduceLeDiff, reduceCtorEq, ↓asrcV, Tag.cap, GVal.solid, Nat.reduceBEq, reduceMul, reduceLT, vcA, ↓vcB, vcC, fbFy, e14, d0, vcD]
      refine (cH _).mono ?_
      rintro g O' ⟨rfl, rfl⟩
      simp +contextual -implicitDefEqProofs (maxSteps := 2000000) (disch := omega) only [binV, optV, ↓loadV, ↓storeV, ↓allocV, ↓buildSliceV, ↓sliceV, ↓appendV, ↓srcV, bound, cutTag, hiTag, fillE, GVal.cells, GVal.ofConst, ↓resV, resG, ↓reduceIte, reduceEqDiff, reduceAdd, reduceSub, reduceLeDiff, reduceCtorEq, ↓asrcV, Tag.cap, GVal.solid, Nat.reduceBEq, reduceMul, reduceLT, vcA, ↓vcB, vcC, fbFy, e14, hsG_len, all_hsG, vcD, v32]
      refine fun sc => ⟨by omega, by omega, fun v2 => ?_⟩
      have e2 : hsG L ++ [bytesG x.1] = hsG (M.take (k + 1)) := by rw [eT, hsG_app]; rfl
      rw [e2]
      exact Into.at ⟨(k + 1, v2), h⟩ (by show _ < _; simp; omega) ⟨[.row sc 32 [bytesG x.1]], by simp⟩ (by simp [WL, leG_self, leG_any, leG_int])
    · have d0 : ((k : Int) < (M.length : Int)) = False := eq_false (by omega)
      have ek : k = M.length := by omega
      subst ek
      rw [List.take_length]
      simp +contextual -implicitDefEqProofs (maxSteps := 2000000) (disch := omega) only [binV, optV, ↓loadV, ↓storeV, ↓allocV, ↓buildSliceV, ↓sliceV, ↓appendV, ↓srcV, bound, cutTag, hiTag, fillE, GVal.cells, GVal.ofConst, ↓resV, resG, ↓reduceIte, reduceEqDiff, reduceAdd, reduceSub, reduceLeDiff, reduceCtorEq, ↓asrcV, Tag.cap, GVal.solid, Nat.reduceBEq, reduceMul, reduceLT, vcA, ↓vcB, vcC, fbFy, e14, vcD]
      refine (cM _).mono ?_
      rintro g O' ⟨rfl, rfl⟩
      simp +contextual -implicitDefEqProofs (maxSteps := 2000000) (disch := omega) only [binV, optV, ↓loadV, ↓storeV, ↓allocV, ↓buildSliceV, ↓sliceV, ↓appendV, ↓srcV, bound, cutTag, hiTag, fillE, GVal.cells, GVal.ofConst, ↓resV, resG, ↓reduceIte, reduceEqDiff, reduceAdd, reduceSub, reduceLeDiff, reduceCtorEq, ↓asrcV, Tag.cap, GVal.solid, Nat.reduceBEq, reduceMul, reduceLT, vcA, ↓vcB, vcC, fbFy, e14, d0, vcD]
      refine vcSLoop_by (ι := { p : Nat × Nat // p.1 ≤ O.length }) (fun p => ⟨[.ptr 0 ti 0 0, .any, .any, .slice (hsG (M ++ O.take p.1.1)) (.tok 2 p.1.2), .any, .any, .any, .int .i64 (p.1.1 : Nat)] ++ List.replicate 36 .any, idO ti so n M O ++ [.tok p.1.2 32]⟩) (fun p => O.length - p.1.1) ?_ ?_
      · exact Into.first ⟨(0, v), Nat.zero_le _⟩ ⟨[], by simp⟩ (by simp [WL, leG_self, leG_any])
      · clear cM hk h d0
        clear v
        rintro ⟨⟨k, v⟩, hk⟩
        change k ≤ O.length at hk
        by_cases h : k < O.length
        · have d0 : ((k : Int) < (O.length : Int)) = True := eq_true (by omega)
          have cH := fun X => (iHashO ti so n M O k (by omega) (by omega)).keep2 rfl X
          have eT : M ++ O.take (k + 1) = (M ++ O.take k) ++ [O.getD k h0] := by rw [takeH h, List.append_assoc]
          have lT : (M ++ O.take k).length ≤ 200000 := by rw [List.length_append, List.length_take]; omega
          simp only [decide_eq_true h] at cH
          generalize O.getD k h0 = x at *
          generalize M ++ O.take k = L at *
          simp +contextual -implicitDefEqProofs (maxSteps := 2000000) (disch := omega) only [binV, optV, ↓loadV, ↓storeV, ↓allocV, ↓buildSliceV, ↓sliceV, ↓appendV, ↓srcV, bound, cutTag, hiTag, fillE, GVal.cells, GVal.ofConst, ↓resV, resG, ↓reduceIte, reduceEqDiff, reduceAdd, reduceSub, reduceLeDiff, reduceCtorEq, ↓asrcV, Tag.cap, GVal.solid, Nat.reduceBEq, reduceMul, reduceLT, vcA, ↓vcB, vcC, fbFy, e14, vcD]
          refine (cO _).mono ?_
          rintro g O' ⟨rfl, rfl⟩
          simp +contextual -implicitDefEqProofs (maxSteps := 2000000) (disch := omega) only [binV, optV, ↓loadV, ↓storeV, ↓allocV, ↓buildSliceV, ↓sliceV, ↓appendV, ↓srcV, bound, cutTag, hiTag, fillE, GVal.cells, GVal.ofConst, ↓resV, resG, ↓reduceIte, reduceEqDiff, reduceAdd, reduceSub, reduceLeDiff, reduceCtorEq, ↓asrcV, Tag.cap, GVal.solid, Nat.reduceBEq, reduceMul, reduceLT, vcA, ↓vcB, vcC, fbFy, e14, d0, vcD]
          refine (cH _).mono ?_
          rintro g O' ⟨rfl, rfl⟩
          simp +contextual -implicitDefEqProofs (maxSteps := 2000000) (disch := omega) only [binV, optV, ↓loadV, ↓storeV, ↓allocV, ↓buildSliceV, ↓sliceV, ↓appendV, ↓srcV, bound, cutTag, hiTag, fillE, GVal.cells, GVal.ofConst, ↓resV, resG, ↓reduceIte, reduceEqDiff, reduceAdd, reduceSub, reduceLeDiff, reduceCtorEq, ↓asrcV, Tag.cap, GVal.solid, Nat.reduceBEq, reduceMul, reduceLT, vcA, ↓vcB, vcC, fbFy, e14, hsG_len, all_hsG, vcD, v32]
          refine fun sc => ⟨by omega, by omega, fun v2 => ?_⟩
          have e2 : hsG L ++ [bytesG x.1] = hsG (M ++ O.take (k + 1)) := by rw [eT, hsG_app]; rfl
          rw [e2]
          exact Into.at ⟨(k + 1, v2), h⟩ (by show _ < _; simp; omega) ⟨[.row sc 32 [bytesG x.1]], by simp⟩ (by simp [WL, leG_self, leG_any, leG_int])
        · have d0 : ((k : Int) < (O.length : Int)) = False := eq_false (by omega)
          have ek : k = O.length := by omega
          subst ek
          rw [List.take_length]
          simp +contextual -implicitDefEqProofs (maxSteps := 2000000) (disch := omega) only [binV, optV, ↓loadV, ↓storeV, ↓allocV, ↓buildSliceV, ↓sliceV, ↓appendV, ↓srcV, bound, cutTag, hiTag, fillE, GVal.cells, GVal.ofConst, ↓resV, resG, ↓reduceIte, reduceEqDiff, reduceAdd, reduceSub, reduceLeDiff, reduceCtorEq, ↓asrcV, Tag.cap, GVal.solid, Nat.reduceBEq, reduceMul, reduceLT, vcA, ↓vcB, vcC, fbFy, e14, vcD]
          refine (cO _).mono ?_
          rintro g O' ⟨rfl, rfl⟩
          simp +contextual -implicitDefEqProofs (maxSteps := 2000000) (disch := omega) only [binV, optV, ↓loadV, ↓storeV, ↓allocV, ↓buildSliceV, ↓sliceV, ↓appendV, ↓srcV, bound, cutTag, hiTag, fillE, GVal.cells, GVal.ofConst, ↓resV, resG, ↓reduceIte, reduceEqDiff, reduceAdd, reduceSub, reduceLeDiff, reduceCtorEq, ↓asrcV, Tag.cap, GVal.solid, Nat.reduceBEq, reduceMul, reduceLT, vcA, ↓vcB, vcC, fbFy, e14, d0, vcD]
          exact ⟨.slice (hsG (M ++ O)) .none, idO ti so n M O, [.tok v 32], rfl, by rw [leA_slice], rfl, rfl⟩
end Gv.Tryz
/- Contracts: graph's Ancestors. -/
set_option linter.unusedVariables false
set_option linter.unusedSimpArgs false
set_option maxRecDepth 20000
set_option maxHeartbeats 4000000
namespace Gv.Tryz
open Go Gv Go.Proofs
def inM (m : GM) (l : List Hs) : List Hs := l.filter fun h => (look m h).isSome
noncomputable def ancL (m : GM) (l : List Hs) : List Hs := by
  classical exact sortR ((l ++ hashesM m).filter fun x => decide (Reach (parsM m) (inM m l) x))
theorem ancL_mem (m : GM) (l : List Hs) (x : Hs) : x ∈ ancL m l ↔ Reach (parsM m) (inM m l) x := by
  classical
  unfold ancL
  rw [sortR_mem, List.mem_filter, decide_eq_true_eq]
  refine ⟨fun h => h.2, fun h => ⟨?_, h⟩⟩
  cases h with
  | base x hx => exact List.mem_append_left _ (List.mem_filter.1 hx).1
  | step x y _ hy => exact List.mem_append_right _ (pars_in hy)
end Gv.Tryz
/- Contracts: order's Rising. -/
set_option linter.unusedVariables false
set_option linter.unusedSimpArgs false
set_option maxRecDepth 20000
set_option maxHeartbeats 4000000
namespace Gv.Tryz
open Go Gv Go.Proofs
theorem ss_nodup {a : List Hs} (h : SS a) : a.Nodup := h.imp fun {x y} q e => by rw [e] at q; exact LT.irrefl _ q
end Gv.Tryz
