/- OrderKnown gives true. -/
import Derived.Test.YtgkglnjmiobdmaaP11
set_option linter.unusedVariables false
set_option linter.unusedSimpArgs false
set_option maxRecDepth 20000
set_option maxHeartbeats 4000000
namespace Gv.Try
open Go Gv Go.Proofs
theorem gDone1 (h : Hs) : GPure Try.prog 15 [.agg (bytesG h.1)] (.bool (decide (h = q1))) := by
  have e := cellsEq_hs h q1
  refine h15.pure mixS (by simp) ?_
  simp only [gstart, s15, List.cons_append, List.nil_append, List.length_cons, List.length_nil, Nat.reduceAdd, Nat.reduceSub, List.replicate_succ, List.replicate_zero]
  simp +contextual -implicitDefEqProofs (maxSteps := 2000000) (disch := omega) only [binV, ↓loadV, ↓boxV, ↓buildV, fillG, place, GVal.cells, grp, GVal.ofConst, ↓resV, resG, List.map, List.headD, List.take, List.drop, ↓reduceIte, Nat.reduceEqDiff, Nat.reduceAdd, Nat.reduceSub, Nat.reduceLeDiff, reduceCtorEq, implies_true, ne_eq, aggV, Tag.cap, List.replicate, allSolid, GVal.solid, Nat.reduceBEq, Nat.reduceMul, Nat.reduceLT, List.length_map, List.length_range, splice, vcA, ↓vcB, vcC, fbFd, e15, qE1, len32, take32, solidH, e]
theorem walk_b : VisL fourCs (fun h => decide (h = q1)) [q3, q9, q4, q3] ([], []) ([q3, q4, q2], [q3, q2, q4]) := by
  have w1 : ∀ S L, VisL fourCs (fun h => decide (h = q1)) [q1] (S, L) (S, L) := fun S L => .skip q1 [] _ _ (by unfold pushed; simp) (.nil _)
  have w2 : VisL fourCs (fun h => decide (h = q1)) [q2, q3] ([q3, q4], [q3]) ([q3, q4, q2], [q3, q2]) := .go q2 [q3] _ ([q3, q4, q2], [q3]) _ (by kernel_rfl) (by rw [p2]; exact w1 _ _) (.skip q3 [] _ _ (by kernel_rfl) (.nil _))
  have w4 : VisL fourCs (fun h => decide (h = q1)) [q4, q3] ([q3], [q3]) ([q3, q4, q2], [q3, q2, q4]) := .go q4 [q3] _ ([q3, q4, q2], [q3, q2]) _ (by kernel_rfl) (by rw [p4]; exact w2) (.skip q3 [] _ _ (by kernel_rfl) (.nil _))
  exact .go q3 [q9, q4, q3] _ ([q3], []) _ (by kernel_rfl) (by rw [p3]; exact w1 _ _) (.skip q9 [q4, q3] _ _ (by kernel_rfl) w4)
theorem gWalkNil (hs : List Hs) (t : Tag) (X : List GObj) : GCalls Try.prog 13 [.lit (.pointer none), .slice (hsG hs) t, .lit .nilFunc] X (fun g O' => g = .slice [] .nil ∧ O' = X) := by
  refine h13.calls mixS (by simp) ?_
  simp only [gstart, s13, List.cons_append, List.nil_append, List.length_cons, List.length_nil, Nat.reduceAdd, Nat.reduceSub, List.replicate_succ, List.replicate_zero]
  simp +contextual -implicitDefEqProofs (maxSteps := 2000000) (disch := omega) only [↓lenV, binV, optV, ↓loadV, ↓storeV, ↓fieldAddrV, ↓indexAddrV, ↓allocV, ↓boxV, ↓buildV, ↓sliceV, ↓nilV, bound, cutTag, hiTag, fillG, place, GVal.cells, grp, GVal.ofConst, ↓resV, resG, List.map, List.headD, List.take, List.drop, ↓reduceIte, Nat.reduceEqDiff, Nat.reduceAdd, Nat.reduceSub, Nat.reduceLeDiff, reduceCtorEq, implies_true, ne_eq, ↓makeMapV, aggV, Tag.cap, List.replicate, allSolid, GVal.solid, Nat.reduceBEq, Nat.reduceMul, Nat.reduceLT, List.length_map, List.length_range, splice, vcA, ↓vcB, vcC, fbFd, e13]
theorem specKnown : GPure Try.prog 4 [] (.bool true) := by
  have cS := hSame [q3, q2, q4] [q3, q2, q4] .none .full (by decide)
  rw [decide_eq_true rfl] at cS
  have cW := fun st s => gWalkF fourCs fourM [q3, q9, q4, q3] .full st s 15 [] _ gDone1 _ walk_b (by decide)
  have cN := fun X => gWalkNil [q4] .full X
  have r1 := fun st s => gRising fourCs fourM st s [q3, q2, q4] .none (by decide)
  have r2 := fun st s => gRising fourCs fourM st s [q4, q2] .full (by decide)
  have r3 := fun st s => gRising fourCs fourM st s [q2, q2] .full (by decide)
  have r4 := fun st s => gRising fourCs fourM st s [q9] .full (by decide)
  have r5 := fun st s => gRising fourCs fourM st s [] .nil (by decide)
  simp only [ris_a, ris_b, ris_c, ris_d, ris_e] at r1 r2 r3 r4 r5
  refine GCalls.toPure ?_
  refine h4.calls mixS (by simp) ?_
  simp only [gstart, s4, List.cons_append, List.nil_append, List.length_cons, List.length_nil, Nat.reduceAdd, Nat.reduceSub, List.replicate_succ, List.replicate_zero]
  simp +contextual -implicitDefEqProofs (maxSteps := 2000000) (disch := omega) only [↓lenV, binV, ↓unV, optV, ↓buildV, ↓buildSliceV, ↓sliceV, bound, cutTag, hiTag, fillG, fillE, place, GVal.cells, grp, GVal.ofConst, ↓resV, resG, List.map, List.headD, List.take, List.drop, ↓reduceIte, Nat.reduceEqDiff, Nat.reduceAdd, Nat.reduceSub, Nat.reduceLeDiff, reduceCtorEq, implies_true, ne_eq, aggV, Tag.cap, List.replicate, allSolid, GVal.solid, Nat.reduceBEq, Nat.reduceMul, Nat.reduceLT, List.length_map, List.length_range, splice, vcA, ↓vcB, vcC, fbFd, e4]
  refine gFour.mono ?_
  rintro g O' ⟨st, s, rfl, rfl⟩
  simp +contextual -implicitDefEqProofs (maxSteps := 2000000) (disch := omega) only [↓lenV, binV, ↓unV, optV, ↓buildV, ↓buildSliceV, ↓sliceV, bound, cutTag, hiTag, fillG, fillE, place, GVal.cells, grp, GVal.ofConst, ↓resV, resG, List.map, List.headD, List.take, List.drop, ↓reduceIte, Nat.reduceEqDiff, Nat.reduceAdd, Nat.reduceSub, Nat.reduceLeDiff, reduceCtorEq, implies_true, ne_eq, aggV, Tag.cap, List.replicate, allSolid, GVal.solid, Nat.reduceBEq, Nat.reduceMul, Nat.reduceLT, List.length_map, List.length_range, splice, vcA, ↓vcB, vcC, fbFd, e4]
  refine gKnown.then ?_ (by rfl)
  simp +contextual -implicitDefEqProofs (maxSteps := 2000000) (disch := omega) only [↓lenV, binV, ↓unV, optV, ↓buildV, ↓buildSliceV, ↓sliceV, bound, cutTag, hiTag, fillG, fillE, place, GVal.cells, grp, GVal.ofConst, ↓resV, resG, List.map, List.headD, List.take, List.drop, ↓reduceIte, Nat.reduceEqDiff, Nat.reduceAdd, Nat.reduceSub, Nat.reduceLeDiff, reduceCtorEq, implies_true, ne_eq, aggV, Tag.cap, List.replicate, allSolid, GVal.solid, Nat.reduceBEq, Nat.reduceMul, Nat.reduceLT, List.length_map, List.length_range, splice, vcA, ↓vcB, vcC, fbFd, e4, qE1, qE2, qE3, qE4, qE9, len32, take32, solidH]
  refine (cW st s).mono ?_
  rintro g O' ⟨rfl, rfl⟩
  simp +contextual -implicitDefEqProofs (maxSteps := 2000000) (disch := omega) only [↓lenV, binV, ↓unV, optV, ↓buildV, ↓buildSliceV, ↓sliceV, bound, cutTag, hiTag, fillG, fillE, place, GVal.cells, grp, GVal.ofConst, ↓resV, resG, List.map, List.headD, List.take, List.drop, ↓reduceIte, Nat.reduceEqDiff, Nat.reduceAdd, Nat.reduceSub, Nat.reduceLeDiff, reduceCtorEq, implies_true, ne_eq, aggV, Tag.cap, List.replicate, allSolid, GVal.solid, Nat.reduceBEq, Nat.reduceMul, Nat.reduceLT, List.length_map, List.length_range, splice, vcA, ↓vcB, vcC, fbFd, e4, qE1, qE2, qE3, qE4, qE9, len32, take32, solidH]
  refine cS.then ?_ (by rfl)
  simp +contextual -implicitDefEqProofs (maxSteps := 2000000) (disch := omega) only [↓lenV, binV, ↓unV, optV, ↓buildV, ↓buildSliceV, ↓sliceV, bound, cutTag, hiTag, fillG, fillE, place, GVal.cells, grp, GVal.ofConst, ↓resV, resG, List.map, List.headD, List.take, List.drop, ↓reduceIte, Nat.reduceEqDiff, Nat.reduceAdd, Nat.reduceSub, Nat.reduceLeDiff, reduceCtorEq, implies_true, ne_eq, aggV, Tag.cap, List.replicate, allSolid, GVal.solid, Nat.reduceBEq, Nat.reduceMul, Nat.reduceLT, List.length_map, List.length_range, splice, vcA, ↓vcB, vcC, fbFd, e4, qE1, qE2, qE3, qE4, qE9, len32, take32, solidH]
  refine (cN _).mono ?_
  rintro g O' ⟨rfl, rfl⟩
  simp +contextual -implicitDefEqProofs (maxSteps := 2000000) (disch := omega) only [↓lenV, binV, ↓unV, optV, ↓buildV, ↓buildSliceV, ↓sliceV, bound, cutTag, hiTag, fillG, fillE, place, GVal.cells, grp, GVal.ofConst, ↓resV, resG, List.map, List.headD, List.take, List.drop, ↓reduceIte, Nat.reduceEqDiff, Nat.reduceAdd, Nat.reduceSub, Nat.reduceLeDiff, reduceCtorEq, implies_true, ne_eq, aggV, Tag.cap, List.replicate, allSolid, GVal.solid, Nat.reduceBEq, Nat.reduceMul, Nat.reduceLT, List.length_map, List.length_range, splice, vcA, ↓vcB, vcC, fbFd, e4, qE1, qE2, qE3, qE4, qE9, len32, take32, solidH]
  refine (r1 st s).mono ?_
  rintro g O' ⟨rfl, rfl⟩
  simp +contextual -implicitDefEqProofs (maxSteps := 2000000) (disch := omega) only [↓lenV, binV, ↓unV, optV, ↓buildV, ↓buildSliceV, ↓sliceV, bound, cutTag, hiTag, fillG, fillE, place, GVal.cells, grp, GVal.ofConst, ↓resV, resG, List.map, List.headD, List.take, List.drop, ↓reduceIte, Nat.reduceEqDiff, Nat.reduceAdd, Nat.reduceSub, Nat.reduceLeDiff, reduceCtorEq, implies_true, ne_eq, aggV, Tag.cap, List.replicate, allSolid, GVal.solid, Nat.reduceBEq, Nat.reduceMul, Nat.reduceLT, List.length_map, List.length_range, splice, vcA, ↓vcB, vcC, fbFd, e4, qE1, qE2, qE3, qE4, qE9, len32, take32, solidH]
  refine (r2 st s).mono ?_
  rintro g O' ⟨rfl, rfl⟩
  simp +contextual -implicitDefEqProofs (maxSteps := 2000000) (disch := omega) only [↓lenV, binV, ↓unV, optV, ↓buildV, ↓buildSliceV, ↓sliceV, bound, cutTag, hiTag, fillG, fillE, place, GVal.cells, grp, GVal.ofConst, ↓resV, resG, List.map, List.headD, List.take, List.drop, ↓reduceIte, Nat.reduceEqDiff, Nat.reduceAdd, Nat.reduceSub, Nat.reduceLeDiff, reduceCtorEq, implies_true, ne_eq, aggV, Tag.cap, List.replicate, allSolid, GVal.solid, Nat.reduceBEq, Nat.reduceMul, Nat.reduceLT, List.length_map, List.length_range, splice, vcA, ↓vcB, vcC, fbFd, e4, qE1, qE2, qE3, qE4, qE9, len32, take32, solidH]
  refine (r3 st s).mono ?_
  rintro g O' ⟨rfl, rfl⟩
  simp +contextual -implicitDefEqProofs (maxSteps := 2000000) (disch := omega) only [↓lenV, binV, ↓unV, optV, ↓buildV, ↓buildSliceV, ↓sliceV, bound, cutTag, hiTag, fillG, fillE, place, GVal.cells, grp, GVal.ofConst, ↓resV, resG, List.map, List.headD, List.take, List.drop, ↓reduceIte, Nat.reduceEqDiff, Nat.reduceAdd, Nat.reduceSub, Nat.reduceLeDiff, reduceCtorEq, implies_true, ne_eq, aggV, Tag.cap, List.replicate, allSolid, GVal.solid, Nat.reduceBEq, Nat.reduceMul, Nat.reduceLT, List.length_map, List.length_range, splice, vcA, ↓vcB, vcC, fbFd, e4, qE1, qE2, qE3, qE4, qE9, len32, take32, solidH]
  refine (r4 st s).mono ?_
  rintro g O' ⟨rfl, rfl⟩
  simp +contextual -implicitDefEqProofs (maxSteps := 2000000) (disch := omega) only [↓lenV, binV, ↓unV, optV, ↓buildV, ↓buildSliceV, ↓sliceV, bound, cutTag, hiTag, fillG, fillE, place, GVal.cells, grp, GVal.ofConst, ↓resV, resG, List.map, List.headD, List.take, List.drop, ↓reduceIte, Nat.reduceEqDiff, Nat.reduceAdd, Nat.reduceSub, Nat.reduceLeDiff, reduceCtorEq, implies_true, ne_eq, aggV, Tag.cap, List.replicate, allSolid, GVal.solid, Nat.reduceBEq, Nat.reduceMul, Nat.reduceLT, List.length_map, List.length_range, splice, vcA, ↓vcB, vcC, fbFd, e4, qE1, qE2, qE3, qE4, qE9, len32, take32, solidH]
  refine (r5 st s).mono ?_
  rintro g O' ⟨rfl, rfl⟩
  simp +contextual -implicitDefEqProofs (maxSteps := 2000000) (disch := omega) only [↓lenV, binV, ↓unV, optV, ↓buildV, ↓buildSliceV, ↓sliceV, bound, cutTag, hiTag, fillG, fillE, place, GVal.cells, grp, GVal.ofConst, ↓resV, resG, List.map, List.headD, List.take, List.drop, ↓reduceIte, Nat.reduceEqDiff, Nat.reduceAdd, Nat.reduceSub, Nat.reduceLeDiff, reduceCtorEq, implies_true, ne_eq, aggV, Tag.cap, List.replicate, allSolid, GVal.solid, Nat.reduceBEq, Nat.reduceMul, Nat.reduceLT, List.length_map, List.length_range, splice, vcA, ↓vcB, vcC, fbFd, e4, qE1, qE2, qE3, qE4, qE9, len32, take32, solidH]
  exact ⟨1, .bool true, rfl, by rw [leA_bool]⟩
end Gv.Try
