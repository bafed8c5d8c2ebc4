/- Contracts: the document's questions. -/
import Derived.Test.YthidcccnjplafaaGreatP13
set_option linter.unusedVariables false
set_option linter.unusedSimpArgs false
set_option maxRecDepth 20000
set_option maxHeartbeats 8000000
namespace Gv.Tryz
open Go Gv Go.Proofs
theorem filt_len (A : List Int) (f : Int → Bool) (k : Nat) : ((A.take k).filter f).length ≤ A.length := by
  refine Nat.le_trans (List.length_filter_le _ _) ?_
  rw [List.length_take]; omega
theorem rThereC {m o : List (List Int)} (h : TOK m o) (s : List Sp.S) (t : Tag) (hs : s.length ≤ 1000) (ho : Sp.Ok s) : GCalls Tryz.prog 48 [.agg [.slice (tabG m) .none, .slice (tabG o) .none], .slice (spl s) t] [] (fun g O' => ∃ v, g = .slice (ints (thereL m o s)) (.tok 0 v) ∧ O' = [.tok v 1]) := by
  have hl := h.len
  have cA := spec14 m o .none .none (by omega) (by omega)
  have hA := allI_len m.length o.length
  rw [thereL]
  generalize allI m.length o.length = A at *
  refine h48.calls mixS (by simp) ?_
  simp only [gstart, s48, List.cons_append, List.nil_append, List.length_cons, List.length_nil, Nat.reduceAdd, Nat.reduceSub, List.replicate_succ, List.replicate_zero]
  simp +contextual -implicitDefEqProofs (maxSteps := 2000000) (disch := omega) only [↓lenV, binV, optV, ↓loadV, ↓indexAddrV, ↓boxV, ↓buildSliceV, ↓sliceV, ↓appendV, ↓srcV, bound, cutTag, hiTag, fillE, GVal.cells, grp, GVal.ofConst, ↓resV, resG, List.map, List.headD, List.take, List.drop, ↓reduceIte, Nat.reduceEqDiff, Nat.reduceAdd, Nat.reduceSub, Nat.reduceLeDiff, reduceCtorEq, implies_true, ne_eq, ↓asrcV, Tag.cap, List.replicate, allSolid, GVal.solid, Nat.reduceBEq, Nat.reduceMul, Nat.reduceLT, List.length_map, List.length_range, splice, vcA, ↓vcB, vcC, fbFz, e48]
  refine cA.then ?_ (by rfl)
  simp +contextual -implicitDefEqProofs (maxSteps := 2000000) (disch := omega) only [↓lenV, binV, optV, ↓loadV, ↓indexAddrV, ↓boxV, ↓buildSliceV, ↓sliceV, ↓appendV, ↓srcV, bound, cutTag, hiTag, fillE, GVal.cells, grp, GVal.ofConst, ↓resV, resG, List.map, List.headD, List.take, List.drop, ↓reduceIte, Nat.reduceEqDiff, Nat.reduceAdd, Nat.reduceSub, Nat.reduceLeDiff, reduceCtorEq, implies_true, ne_eq, ↓asrcV, Tag.cap, List.replicate, allSolid, GVal.solid, Nat.reduceBEq, Nat.reduceMul, Nat.reduceLT, List.length_map, List.length_range, splice, vcA, ↓vcB, vcC, fbFz, e48]
  refine vcSLoop_by (ι := { p : Nat × Nat // p.1 ≤ A.length }) (fun p => ⟨[.any, .slice (spl s) t, .any, .any, .any, .slice (ints ((A.take p.1.1).filter fun n => Sp.hasB s n)) (.tok 0 p.1.2), .slice (ints A) .none, .int .i64 (p.1.1 : Nat)] ++ List.replicate 22 .any, [.tok p.1.2 1]⟩) (fun p => A.length - p.1.1) ?_ ?_
  · refine Into.tok 5 1 [] rfl rfl ?_
    simp +contextual -implicitDefEqProofs (maxSteps := 2000000) (disch := omega) only [↓lenV, binV, optV, ↓loadV, ↓indexAddrV, ↓boxV, ↓buildSliceV, ↓sliceV, ↓appendV, ↓srcV, bound, cutTag, hiTag, fillE, GVal.cells, grp, GVal.ofConst, ↓resV, resG, List.map, List.headD, List.take, List.drop, ↓reduceIte, Nat.reduceEqDiff, Nat.reduceAdd, Nat.reduceSub, Nat.reduceLeDiff, reduceCtorEq, implies_true, ne_eq, ↓asrcV, Tag.cap, List.replicate, allSolid, GVal.solid, Nat.reduceBEq, Nat.reduceMul, Nat.reduceLT, List.length_map, List.length_range, splice, vcA, ↓vcB, vcC, fbFz, e48]
    intro u
    exact Into.first ⟨(0, u), by omega⟩ ⟨[], by simp⟩ (by simp [WL, leG_self, leG_any, ints_nil])
  · rintro ⟨⟨k, v⟩, hk⟩
    change k ≤ A.length at hk
    by_cases hkl : k < A.length
    · have d0 : ((k : Int) < (A.length : Int)) = True := eq_true (by omega)
      have eS := ints_at A k hkl
      have eN := filt_take1 A (fun n => Sp.hasB s n) k hkl
      have hfl := filt_len A (fun n => Sp.hasB s n) k
      have cH := sHasR s t (A.getD k 0) (by omega) ho
      generalize A.getD k 0 = x at *
      generalize (A.take k).filter (fun n => Sp.hasB s n) = B at *
      cases e : Sp.hasB s x with
      | true =>
        rw [e] at cH
        simp only [e, if_pos] at eN
        simp +contextual -implicitDefEqProofs (maxSteps := 2000000) (disch := omega) only [↓lenV, binV, optV, ↓loadV, ↓indexAddrV, ↓boxV, ↓buildSliceV, ↓sliceV, ↓appendV, ↓srcV, bound, cutTag, hiTag, fillE, GVal.cells, grp, GVal.ofConst, ↓resV, resG, List.map, List.headD, List.take, List.drop, ↓reduceIte, Nat.reduceEqDiff, Nat.reduceAdd, Nat.reduceSub, Nat.reduceLeDiff, reduceCtorEq, implies_true, ne_eq, ↓asrcV, Tag.cap, List.replicate, allSolid, GVal.solid, Nat.reduceBEq, Nat.reduceMul, Nat.reduceLT, List.length_map, List.length_range, splice, vcAi, ↓vcB, vcC, fbFz, e48, d0, eS]
        repeat (refine ⟨by omega, ?_⟩)
        refine cH.then ?_ (by rfl)
        simp +contextual -implicitDefEqProofs (maxSteps := 2000000) (disch := omega) only [↓lenV, binV, optV, ↓loadV, ↓indexAddrV, ↓boxV, ↓buildSliceV, ↓sliceV, ↓appendV, ↓srcV, bound, cutTag, hiTag, fillE, GVal.cells, grp, GVal.ofConst, ↓resV, resG, List.map, List.headD, List.take, List.drop, ↓reduceIte, Nat.reduceEqDiff, Nat.reduceAdd, Nat.reduceSub, Nat.reduceLeDiff, reduceCtorEq, implies_true, ne_eq, ↓asrcV, Tag.cap, List.replicate, allSolid, GVal.solid, Nat.reduceBEq, Nat.reduceMul, Nat.reduceLT, List.length_map, List.length_range, splice, vcAi, ↓vcB, vcC, fbFz, e48, d0, eS]
        repeat (refine ⟨by omega, ?_⟩)
        intro w
        exact Into.at ⟨(k + 1, w), by show k + 1 ≤ _; omega⟩ (by show _ < _; simp; omega) ⟨[], by simp⟩ (by simp [WL, leG_self, leG_any, leG_int, eN, ints_append, ints_one])
      | false =>
        rw [e] at cH
        simp only [e, if_neg, Bool.false_eq_true, not_false_eq_true, if_false, List.append_nil] at eN
        simp +contextual -implicitDefEqProofs (maxSteps := 2000000) (disch := omega) only [↓lenV, binV, optV, ↓loadV, ↓indexAddrV, ↓boxV, ↓buildSliceV, ↓sliceV, ↓appendV, ↓srcV, bound, cutTag, hiTag, fillE, GVal.cells, grp, GVal.ofConst, ↓resV, resG, List.map, List.headD, List.take, List.drop, ↓reduceIte, Nat.reduceEqDiff, Nat.reduceAdd, Nat.reduceSub, Nat.reduceLeDiff, reduceCtorEq, implies_true, ne_eq, ↓asrcV, Tag.cap, List.replicate, allSolid, GVal.solid, Nat.reduceBEq, Nat.reduceMul, Nat.reduceLT, List.length_map, List.length_range, splice, vcAi, ↓vcB, vcC, fbFz, e48, d0, eS]
        repeat (refine ⟨by omega, ?_⟩)
        refine cH.then ?_ (by rfl)
        simp +contextual -implicitDefEqProofs (maxSteps := 2000000) (disch := omega) only [↓lenV, binV, optV, ↓loadV, ↓indexAddrV, ↓boxV, ↓buildSliceV, ↓sliceV, ↓appendV, ↓srcV, bound, cutTag, hiTag, fillE, GVal.cells, grp, GVal.ofConst, ↓resV, resG, List.map, List.headD, List.take, List.drop, ↓reduceIte, Nat.reduceEqDiff, Nat.reduceAdd, Nat.reduceSub, Nat.reduceLeDiff, reduceCtorEq, implies_true, ne_eq, ↓asrcV, Tag.cap, List.replicate, allSolid, GVal.solid, Nat.reduceBEq, Nat.reduceMul, Nat.reduceLT, List.length_map, List.length_range, splice, vcAi, ↓vcB, vcC, fbFz, e48, d0, eS]
        exact Into.at ⟨(k + 1, v), by show k + 1 ≤ _; omega⟩ (by show _ < _; simp; omega) ⟨[], by simp⟩ (by simp [WL, leG_self, leG_any, leG_int, eN])
    · have d0 : ((k : Int) < (A.length : Int)) = False := eq_false (by omega)
      simp +contextual -implicitDefEqProofs (maxSteps := 2000000) (disch := omega) only [↓lenV, binV, optV, ↓loadV, ↓indexAddrV, ↓boxV, ↓buildSliceV, ↓sliceV, ↓appendV, ↓srcV, bound, cutTag, hiTag, fillE, GVal.cells, grp, GVal.ofConst, ↓resV, resG, List.map, List.headD, List.take, List.drop, ↓reduceIte, Nat.reduceEqDiff, Nat.reduceAdd, Nat.reduceSub, Nat.reduceLeDiff, reduceCtorEq, implies_true, ne_eq, ↓asrcV, Tag.cap, List.replicate, allSolid, GVal.solid, Nat.reduceBEq, Nat.reduceMul, Nat.reduceLT, List.length_map, List.length_range, splice, vcA, ↓vcB, vcC, fbFz, e48, d0]
      rw [List.take_of_length_le (by omega)]
      exact ⟨v, rfl, rfl⟩
theorem rThere {m o : List (List Int)} (h : TOK m o) (s : List Sp.S) (t : Tag) (hs : s.length ≤ 1000) (ho : Sp.Ok s) : GPure Tryz.prog 48 [.agg [.slice (tabG m) .none, .slice (tabG o) .none], .slice (spl s) t] (.slice (ints (thereL m o s)) .none) := by
  refine GCalls.toPure ((rThereC h s t hs ho).mono ?_)
  rintro g O' ⟨v, rfl, rfl⟩
  exact ⟨2, _, frz_intsS _ 0 _ _, by rw [Tag.frz, leA_slice]⟩
theorem rAll {m o : List (List Int)} (h : TOK m o) : GPure Tryz.prog 14 [.agg [.slice (tabG m) .none, .slice (tabG o) .none]] (.slice (spl (idsP m o (fun _ => True))) .none) := by
  have hl := h.len
  have cA := spec14 m o .none .none (by omega) (by omega)
  have hA := allI_len m.length o.length
  have e : Sp.nf ((allI m.length o.length).map fun i => (i, i)) = idsP m o (fun _ => True) := of_idsP fun n => by rw [allI_hasI]; simp
  have cO := sOfR (allI m.length o.length) .none (by omega) (list_range h fun n hn => (allI_hasI _ _ _).1 hn)
  rw [e] at cO
  refine h14.pure mixS (by simp) ?_
  simp only [gstart, s14, List.cons_append, List.nil_append, List.length_cons, List.length_nil, Nat.reduceAdd, Nat.reduceSub, List.replicate_succ, List.replicate_zero]
  simp +contextual -implicitDefEqProofs (maxSteps := 2000000) (disch := omega) only [optV, ↓loadV, ↓boxV, ↓sliceV, bound, cutTag, hiTag, GVal.cells, grp, GVal.ofConst, ↓resV, resG, List.map, List.headD, List.take, List.drop, ↓reduceIte, Nat.reduceEqDiff, Nat.reduceAdd, Nat.reduceSub, Nat.reduceLeDiff, reduceCtorEq, implies_true, ne_eq, Tag.cap, List.replicate, allSolid, GVal.solid, Nat.reduceBEq, Nat.reduceMul, Nat.reduceLT, List.length_map, List.length_range, splice, vcA, ↓vcB, vcC, fbFz, e14]
  refine cA.then ?_ (by rfl)
  simp +contextual -implicitDefEqProofs (maxSteps := 2000000) (disch := omega) only [optV, ↓loadV, ↓boxV, ↓sliceV, bound, cutTag, hiTag, GVal.cells, grp, GVal.ofConst, ↓resV, resG, List.map, List.headD, List.take, List.drop, ↓reduceIte, Nat.reduceEqDiff, Nat.reduceAdd, Nat.reduceSub, Nat.reduceLeDiff, reduceCtorEq, implies_true, ne_eq, Tag.cap, List.replicate, allSolid, GVal.solid, Nat.reduceBEq, Nat.reduceMul, Nat.reduceLT, List.length_map, List.length_range, splice, vcA, ↓vcB, vcC, fbFz, e14]
  refine cO.then ?_ (by rfl)
  simp +contextual -implicitDefEqProofs (maxSteps := 2000000) (disch := omega) only [optV, ↓loadV, ↓boxV, ↓sliceV, bound, cutTag, hiTag, GVal.cells, grp, GVal.ofConst, ↓resV, resG, List.map, List.headD, List.take, List.drop, ↓reduceIte, Nat.reduceEqDiff, Nat.reduceAdd, Nat.reduceSub, Nat.reduceLeDiff, reduceCtorEq, implies_true, ne_eq, Tag.cap, List.replicate, allSolid, GVal.solid, Nat.reduceBEq, Nat.reduceMul, Nat.reduceLT, List.length_map, List.length_range, splice, vcA, ↓vcB, vcC, fbFz, e14]
theorem rPars {m o : List (List Int)} (h : TOK m o) (s : List Sp.S) (t : Tag) (hs : s.length ≤ 1000) (ho : Sp.Ok s) : GPure Tryz.prog 16 [.agg [.slice (tabG m) .none, .slice (tabG o) .none], .slice (spl s) t] (.slice (spl (idsP m o (pP m o s))) .none) := by
  have hl := h.len
  have c1 := rThere h s t hs ho
  have h4 : ∀ x, (parI m o x).length ≤ 4 := fun x => okRow_len h.right x
  have e : Sp.nf ((parsL m o (thereL m o s)).map fun i => (i, i)) = idsP m o (pP m o s) := of_idsP fun n => parsL_mem h
  have hB := there_len m o s
  have hA := parsL_len h4 (thereL m o s)
  have hA2 := fun k => parsL_len h4 ((thereL m o s).take k)
  have cO := fun v => sOfR (parsL m o (thereL m o s)) (.tok 0 v) (by omega) (list_range h fun n hn => ((parsL_mem h).1 hn).1)
  rw [e] at cO
  generalize thereL m o s = l at *
  refine h16.pure mixS (by simp) ?_
  simp only [gstart, s16, List.cons_append, List.nil_append, List.length_cons, List.length_nil, Nat.reduceAdd, Nat.reduceSub, List.replicate_succ, List.replicate_zero]
  simp +contextual -implicitDefEqProofs (maxSteps := 2000000) (disch := omega) only [drawC, drawK, keepT, ↓lenV, binV, optV, ↓loadV, ↓indexAddrV, ↓boxV, ↓sliceV, ↓appendV, ↓srcV, bound, cutTag, hiTag, GVal.cells, grp, GVal.ofConst, ↓resV, resG, List.map, List.headD, List.take, List.drop, ↓reduceIte, Nat.reduceEqDiff, Nat.reduceAdd, Nat.reduceSub, Nat.reduceLeDiff, reduceCtorEq, implies_true, ne_eq, ↓asrcV, Tag.cap, List.replicate, allSolid, GVal.solid, Nat.reduceBEq, Nat.reduceMul, Nat.reduceLT, List.length_map, List.length_range, splice, vcA, ↓vcB, vcC, fbFz, e16]
  refine c1.then ?_ (by rfl)
  simp +contextual -implicitDefEqProofs (maxSteps := 2000000) (disch := omega) only [drawC, drawK, keepT, ↓lenV, binV, optV, ↓loadV, ↓indexAddrV, ↓boxV, ↓sliceV, ↓appendV, ↓srcV, bound, cutTag, hiTag, GVal.cells, grp, GVal.ofConst, ↓resV, resG, List.map, List.headD, List.take, List.drop, ↓reduceIte, Nat.reduceEqDiff, Nat.reduceAdd, Nat.reduceSub, Nat.reduceLeDiff, reduceCtorEq, implies_true, ne_eq, ↓asrcV, Tag.cap, List.replicate, allSolid, GVal.solid, Nat.reduceBEq, Nat.reduceMul, Nat.reduceLT, List.length_map, List.length_range, splice, vcA, ↓vcB, vcC, fbFz, e16]
  refine vcSLoop_by (ι := { p : Nat × Nat // p.1 ≤ l.length }) (fun p => ⟨[.any, .any, .ref [.slice (tabG m) .none, .slice (tabG o) .none], .any, .any, .slice (ints (parsL m o (l.take p.1.1))) (.tok 0 p.1.2), .slice (ints l) .none, .int .i64 (p.1.1 : Nat)] ++ List.replicate 25 .any, [.tok p.1.2 1]⟩) (fun p => l.length - p.1.1) ?_ ?_
  · refine Into.tok 5 1 [] rfl rfl ?_
    simp +contextual -implicitDefEqProofs (maxSteps := 2000000) (disch := omega) only [drawC, drawK, keepT, ↓lenV, binV, optV, ↓loadV, ↓indexAddrV, ↓boxV, ↓sliceV, ↓appendV, ↓srcV, bound, cutTag, hiTag, GVal.cells, grp, GVal.ofConst, ↓resV, resG, List.map, List.headD, List.take, List.drop, ↓reduceIte, Nat.reduceEqDiff, Nat.reduceAdd, Nat.reduceSub, Nat.reduceLeDiff, reduceCtorEq, implies_true, ne_eq, ↓asrcV, Tag.cap, List.replicate, allSolid, GVal.solid, Nat.reduceBEq, Nat.reduceMul, Nat.reduceLT, List.length_map, List.length_range, splice, vcA, ↓vcB, vcC, fbFz, e16]
    intro u
    exact Into.first ⟨(0, u), by omega⟩ ⟨[], by simp⟩ (by simp [WL, leG_self, leG_any, parsL, ints_nil])
  · rintro ⟨⟨k, v⟩, hk⟩
    change k ≤ l.length at hk
    by_cases hkl : k < l.length
    · have d0 : ((k : Int) < (l.length : Int)) = True := eq_true (by omega)
      have eS := ints_at l k hkl
      have eN := parsL_take (m := m) (o := o) l k hkl
      have hfl := hA2 k
      rw [List.length_take] at hfl
      have c16 := spec16 m o .none .none (l.getD k 0) (by omega) (by omega)
      have hx4 := h4 (l.getD k 0)
      generalize l.getD k 0 = x at *
      generalize parsL m o (l.take k) = B at *
      generalize parI m o x = P at *
      simp +contextual -implicitDefEqProofs (maxSteps := 2000000) (disch := omega) only [drawC, drawK, keepT, ↓lenV, binV, optV, ↓loadV, ↓indexAddrV, ↓boxV, ↓sliceV, ↓appendV, ↓srcV, bound, cutTag, hiTag, GVal.cells, grp, GVal.ofConst, ↓resV, resG, List.map, List.headD, List.take, List.drop, ↓reduceIte, Nat.reduceEqDiff, Nat.reduceAdd, Nat.reduceSub, Nat.reduceLeDiff, reduceCtorEq, implies_true, ne_eq, ↓asrcV, Tag.cap, List.replicate, allSolid, GVal.solid, Nat.reduceBEq, Nat.reduceMul, Nat.reduceLT, List.length_map, List.length_range, splice, vcAi, ↓vcB, vcC, fbFz, e16, d0, eS]
      repeat (refine ⟨by omega, ?_⟩)
      refine c16.then ?_ (by rfl)
      simp +contextual -implicitDefEqProofs (maxSteps := 2000000) (disch := omega) only [drawC, drawK, keepT, ↓lenV, binV, optV, ↓loadV, ↓indexAddrV, ↓boxV, ↓sliceV, ↓appendV, ↓srcV, bound, cutTag, hiTag, GVal.cells, grp, GVal.ofConst, ↓resV, resG, List.map, List.headD, List.take, List.drop, ↓reduceIte, Nat.reduceEqDiff, Nat.reduceAdd, Nat.reduceSub, Nat.reduceLeDiff, reduceCtorEq, implies_true, ne_eq, ↓asrcV, Tag.cap, List.replicate, allSolid, GVal.solid, Nat.reduceBEq, Nat.reduceMul, Nat.reduceLT, List.length_map, List.length_range, splice, vcAi, ↓vcB, vcC, fbFz, e16, d0, eS]
      repeat (refine ⟨by omega, ?_⟩)
      intro w
      exact Into.at ⟨(k + 1, w), by show k + 1 ≤ _; omega⟩ (by show _ < _; simp; omega) ⟨[], by simp⟩ (by simp [WL, leG_self, leG_any, leG_int, eN, ints_append])
    · have d0 : ((k : Int) < (l.length : Int)) = False := eq_false (by omega)
      simp +contextual -implicitDefEqProofs (maxSteps := 2000000) (disch := omega) only [drawC, drawK, keepT, ↓lenV, binV, optV, ↓loadV, ↓indexAddrV, ↓boxV, ↓sliceV, ↓appendV, ↓srcV, bound, cutTag, hiTag, GVal.cells, grp, GVal.ofConst, ↓resV, resG, List.map, List.headD, List.take, List.drop, ↓reduceIte, Nat.reduceEqDiff, Nat.reduceAdd, Nat.reduceSub, Nat.reduceLeDiff, reduceCtorEq, implies_true, ne_eq, ↓asrcV, Tag.cap, List.replicate, allSolid, GVal.solid, Nat.reduceBEq, Nat.reduceMul, Nat.reduceLT, List.length_map, List.length_range, splice, vcA, ↓vcB, vcC, fbFz, e16, d0]
      rw [List.take_of_length_le (by omega)]
      refine (cO v).then ?_ (by rfl)
      simp +contextual -implicitDefEqProofs (maxSteps := 2000000) (disch := omega) only [drawC, drawK, keepT, ↓lenV, binV, optV, ↓loadV, ↓indexAddrV, ↓boxV, ↓sliceV, ↓appendV, ↓srcV, bound, cutTag, hiTag, GVal.cells, grp, GVal.ofConst, ↓resV, resG, List.map, List.headD, List.take, List.drop, ↓reduceIte, Nat.reduceEqDiff, Nat.reduceAdd, Nat.reduceSub, Nat.reduceLeDiff, reduceCtorEq, implies_true, ne_eq, ↓asrcV, Tag.cap, List.replicate, allSolid, GVal.solid, Nat.reduceBEq, Nat.reduceMul, Nat.reduceLT, List.length_map, List.length_range, splice, vcA, ↓vcB, vcC, fbFz, e16]
theorem rUp {m o : List (List Int)} (h : TOK m o) (s : List Sp.S) (t : Tag) (hs : s.length ≤ 1000) (ho : Sp.Ok s) : GPure Tryz.prog 20 [.agg [.slice (tabG m) .none, .slice (tabG o) .none], .slice (spl s) t] (.slice (spl (idsP m o (aP m o s))) .none) := by
  have hl := h.len
  have c1 := rThere h s t hs ho
  have hB := there_len m o s
  have cU := rel48 m o .none .none .none (thereL m o s) (by omega) (by omega) (by omega) (fun x => okRow_len h.right x)
  have hm := fun l hu => upset_mem h (s := s) (l := l) hu
  generalize thereL m o s = ids at *
  refine h20.pure mixS (by simp) ?_
  simp only [gstart, s20, List.cons_append, List.nil_append, List.length_cons, List.length_nil, Nat.reduceAdd, Nat.reduceSub, List.replicate_succ, List.replicate_zero]
  simp +contextual -implicitDefEqProofs (maxSteps := 2000000) (disch := omega) only [drawC, drawK, keepT, optV, ↓loadV, ↓boxV, ↓sliceV, bound, cutTag, hiTag, GVal.cells, grp, GVal.ofConst, ↓resV, resG, List.map, List.headD, List.take, List.drop, ↓reduceIte, Nat.reduceEqDiff, Nat.reduceAdd, Nat.reduceSub, Nat.reduceLeDiff, reduceCtorEq, implies_true, ne_eq, Tag.cap, List.replicate, allSolid, GVal.solid, Nat.reduceBEq, Nat.reduceMul, Nat.reduceLT, List.length_map, List.length_range, splice, vcA, ↓vcB, vcC, fbFz, e20]
  refine c1.then ?_ (by rfl)
  simp +contextual -implicitDefEqProofs (maxSteps := 2000000) (disch := omega) only [drawC, drawK, keepT, optV, ↓loadV, ↓boxV, ↓sliceV, bound, cutTag, hiTag, GVal.cells, grp, GVal.ofConst, ↓resV, resG, List.map, List.headD, List.take, List.drop, ↓reduceIte, Nat.reduceEqDiff, Nat.reduceAdd, Nat.reduceSub, Nat.reduceLeDiff, reduceCtorEq, implies_true, ne_eq, Tag.cap, List.replicate, allSolid, GVal.solid, Nat.reduceBEq, Nat.reduceMul, Nat.reduceLT, List.length_map, List.length_range, splice, vcA, ↓vcB, vcC, fbFz, e20]
  refine ⟨⟨[], rfl⟩, ?_⟩
  refine cU.then ?_
  rintro g ⟨l, rfl, hu⟩
  have e : Sp.nf (l.map fun i => (i, i)) = idsP m o (aP m o s) := of_idsP (hm l hu)
  have hlen := UpInv.out_len hu
  have cO := sOfR l .none (by omega) (list_range h fun n hn => hu.has n hn)
  rw [e] at cO
  simp +contextual -implicitDefEqProofs (maxSteps := 2000000) (disch := omega) only [drawC, drawK, keepT, optV, ↓loadV, ↓boxV, ↓sliceV, bound, cutTag, hiTag, GVal.cells, grp, GVal.ofConst, ↓resV, resG, List.map, List.headD, List.take, List.drop, ↓reduceIte, Nat.reduceEqDiff, Nat.reduceAdd, Nat.reduceSub, Nat.reduceLeDiff, reduceCtorEq, implies_true, ne_eq, Tag.cap, List.replicate, allSolid, GVal.solid, Nat.reduceBEq, Nat.reduceMul, Nat.reduceLT, List.length_map, List.length_range, splice, vcA, ↓vcB, vcC, fbFz, e20]
  refine cO.then ?_ (by rfl)
  simp +contextual -implicitDefEqProofs (maxSteps := 2000000) (disch := omega) only [drawC, drawK, keepT, optV, ↓loadV, ↓boxV, ↓sliceV, bound, cutTag, hiTag, GVal.cells, grp, GVal.ofConst, ↓resV, resG, List.map, List.headD, List.take, List.drop, ↓reduceIte, Nat.reduceEqDiff, Nat.reduceAdd, Nat.reduceSub, Nat.reduceLeDiff, reduceCtorEq, implies_true, ne_eq, Tag.cap, List.replicate, allSolid, GVal.solid, Nat.reduceBEq, Nat.reduceMul, Nat.reduceLT, List.length_map, List.length_range, splice, vcA, ↓vcB, vcC, fbFz, e20]
theorem rHeads {m o : List (List Int)} (h : TOK m o) (s : List Sp.S) (t : Tag) (hs : s.length ≤ 1000) (ho : Sp.Ok s) : GPure Tryz.prog 24 [.agg [.slice (tabG m) .none, .slice (tabG o) .none], .slice (spl s) t] (.slice (spl (idsP m o fun n => Sp.has s n ∧ ¬ pP m o s n)) .none) := by
  have hl := h.len
  have c1 := rThere h s t hs ho
  have hB := there_len m o s
  have cP := rPars h s t hs ho
  have e : Sp.nf ((thereL m o s).map fun i => (i, i)) = idsP m o (Sp.has s) := of_idsP fun n => there_mem
  have cO := sOfR (thereL m o s) .none (by omega) (list_range h fun n hn => (there_mem.1 hn).1)
  rw [e] at cO
  have len := fun P => idsP_len m o P
  have okk := fun P => idsP_ok h P
  have cM := sMinusR (idsP m o (Sp.has s)) (idsP m o (pP m o s)) .none .none ⟨Nat.le_trans (len _) (by omega), Nat.le_trans (len _) (by omega)⟩ (okk _) (okk _)
  have e2 : Sp.minus (idsP m o (Sp.has s)) (idsP m o (pP m o s)) = idsP m o fun n => Sp.has s n ∧ ¬ pP m o s n := idsP_eq (Sp.minus_rt _ _) fun n => by
    rw [Sp.minus_has (okk _) (okk _), idsP_has, idsP_has]
    exact ⟨fun ⟨⟨a, b⟩, c⟩ => ⟨a, b, fun d => c ⟨a, d⟩⟩, fun ⟨a, b, c⟩ => ⟨⟨a, b⟩, fun d => c d.2⟩⟩
  rw [e2] at cM
  refine h24.pure mixS (by simp) ?_
  simp only [gstart, s24, List.cons_append, List.nil_append, List.length_cons, List.length_nil, Nat.reduceAdd, Nat.reduceSub, List.replicate_succ, List.replicate_zero]
  simp +contextual -implicitDefEqProofs (maxSteps := 2000000) (disch := omega) only [drawC, drawK, keepT, optV, ↓loadV, ↓boxV, ↓sliceV, bound, cutTag, hiTag, GVal.cells, grp, GVal.ofConst, ↓resV, resG, List.map, List.headD, List.take, List.drop, ↓reduceIte, Nat.reduceEqDiff, Nat.reduceAdd, Nat.reduceSub, Nat.reduceLeDiff, reduceCtorEq, implies_true, ne_eq, Tag.cap, List.replicate, allSolid, GVal.solid, Nat.reduceBEq, Nat.reduceMul, Nat.reduceLT, List.length_map, List.length_range, splice, vcA, ↓vcB, vcC, fbFz, e24]
  refine c1.then ?_ (by rfl)
  simp +contextual -implicitDefEqProofs (maxSteps := 2000000) (disch := omega) only [drawC, drawK, keepT, optV, ↓loadV, ↓boxV, ↓sliceV, bound, cutTag, hiTag, GVal.cells, grp, GVal.ofConst, ↓resV, resG, List.map, List.headD, List.take, List.drop, ↓reduceIte, Nat.reduceEqDiff, Nat.reduceAdd, Nat.reduceSub, Nat.reduceLeDiff, reduceCtorEq, implies_true, ne_eq, Tag.cap, List.replicate, allSolid, GVal.solid, Nat.reduceBEq, Nat.reduceMul, Nat.reduceLT, List.length_map, List.length_range, splice, vcA, ↓vcB, vcC, fbFz, e24]
  refine ⟨⟨[], rfl⟩, ?_⟩
  refine cO.then ?_ (by rfl)
  simp +contextual -implicitDefEqProofs (maxSteps := 2000000) (disch := omega) only [drawC, drawK, keepT, optV, ↓loadV, ↓boxV, ↓sliceV, bound, cutTag, hiTag, GVal.cells, grp, GVal.ofConst, ↓resV, resG, List.map, List.headD, List.take, List.drop, ↓reduceIte, Nat.reduceEqDiff, Nat.reduceAdd, Nat.reduceSub, Nat.reduceLeDiff, reduceCtorEq, implies_true, ne_eq, Tag.cap, List.replicate, allSolid, GVal.solid, Nat.reduceBEq, Nat.reduceMul, Nat.reduceLT, List.length_map, List.length_range, splice, vcA, ↓vcB, vcC, fbFz, e24]
  refine ⟨⟨[], rfl⟩, ?_⟩
  refine cP.then ?_ (by rfl)
  simp +contextual -implicitDefEqProofs (maxSteps := 2000000) (disch := omega) only [drawC, drawK, keepT, optV, ↓loadV, ↓boxV, ↓sliceV, bound, cutTag, hiTag, GVal.cells, grp, GVal.ofConst, ↓resV, resG, List.map, List.headD, List.take, List.drop, ↓reduceIte, Nat.reduceEqDiff, Nat.reduceAdd, Nat.reduceSub, Nat.reduceLeDiff, reduceCtorEq, implies_true, ne_eq, Tag.cap, List.replicate, allSolid, GVal.solid, Nat.reduceBEq, Nat.reduceMul, Nat.reduceLT, List.length_map, List.length_range, splice, vcA, ↓vcB, vcC, fbFz, e24]
  refine cM.then ?_ (by rfl)
  simp +contextual -implicitDefEqProofs (maxSteps := 2000000) (disch := omega) only [drawC, drawK, keepT, optV, ↓loadV, ↓boxV, ↓sliceV, bound, cutTag, hiTag, GVal.cells, grp, GVal.ofConst, ↓resV, resG, List.map, List.headD, List.take, List.drop, ↓reduceIte, Nat.reduceEqDiff, Nat.reduceAdd, Nat.reduceSub, Nat.reduceLeDiff, reduceCtorEq, implies_true, ne_eq, Tag.cap, List.replicate, allSolid, GVal.solid, Nat.reduceBEq, Nat.reduceMul, Nat.reduceLT, List.length_map, List.length_range, splice, vcA, ↓vcB, vcC, fbFz, e24]

theorem rKids {m o : List (List Int)} (h : TOK m o) (s : List Sp.S) (t : Tag) (hs : s.length ≤ 1000) (ho : Sp.Ok s) : GPure Tryz.prog 18 [.agg [.slice (tabG m) .none, .slice (tabG o) .none], .slice (spl s) t] (.slice (spl (idsP m o (cP m o s))) .none) := by
  have hl := h.len
  have c1 := rThere h s t hs ho
  have cA := spec14 m o .none .none (by omega) (by omega)
  have hA := allI_len m.length o.length
  have h4 : ∀ x, (parI m o x).length ≤ 4 := fun x => okRow_len h.right x
  have e : Sp.nf ((kidsL m o s (allI m.length o.length)).map fun i => (i, i)) = idsP m o (cP m o s) := of_idsP fun n => kidsL_mem h
  have hB := there_len m o s
  have hK : (kidsL m o s (allI m.length o.length)).length ≤ 1000 := Nat.le_trans (List.length_filter_le _ _) (by omega)
  have cO := fun v => sOfR (kidsL m o s (allI m.length o.length)) (.tok 0 v) (by omega) (list_range h fun n hn => ((kidsL_mem h).1 hn).1)
  rw [e] at cO
  unfold kidsL at cO
  generalize thereL m o s = N at *
  generalize allI m.length o.length = A at *
  refine h18.pure mixS (by simp) ?_
  simp only [gstart, s18, List.cons_append, List.nil_append, List.length_cons, List.length_nil, Nat.reduceAdd, Nat.reduceSub, List.replicate_succ, List.replicate_zero]
  simp +contextual -implicitDefEqProofs (maxSteps := 2000000) (disch := omega) only [drawC, drawK, keepT, ↓lenV, binV, optV, ↓loadV, ↓indexAddrV, ↓boxV, ↓buildSliceV, ↓sliceV, ↓appendV, ↓srcV, bound, cutTag, hiTag, fillE, GVal.cells, grp, GVal.ofConst, ↓resV, resG, List.map, List.headD, List.take, List.drop, ↓reduceIte, Nat.reduceEqDiff, Nat.reduceAdd, Nat.reduceSub, Nat.reduceLeDiff, reduceCtorEq, implies_true, ne_eq, ↓asrcV, Tag.cap, List.replicate, allSolid, GVal.solid, Nat.reduceBEq, Nat.reduceMul, Nat.reduceLT, List.length_map, List.length_range, splice, vcA, ↓vcB, vcC, fbFz, e18]
  refine c1.then ?_ (by rfl)
  simp +contextual -implicitDefEqProofs (maxSteps := 2000000) (disch := omega) only [drawC, drawK, keepT, ↓lenV, binV, optV, ↓loadV, ↓indexAddrV, ↓boxV, ↓buildSliceV, ↓sliceV, ↓appendV, ↓srcV, bound, cutTag, hiTag, fillE, GVal.cells, grp, GVal.ofConst, ↓resV, resG, List.map, List.headD, List.take, List.drop, ↓reduceIte, Nat.reduceEqDiff, Nat.reduceAdd, Nat.reduceSub, Nat.reduceLeDiff, reduceCtorEq, implies_true, ne_eq, ↓asrcV, Tag.cap, List.replicate, allSolid, GVal.solid, Nat.reduceBEq, Nat.reduceMul, Nat.reduceLT, List.length_map, List.length_range, splice, vcA, ↓vcB, vcC, fbFz, e18]
  refine cA.then ?_ (by rfl)
  simp +contextual -implicitDefEqProofs (maxSteps := 2000000) (disch := omega) only [drawC, drawK, keepT, ↓lenV, binV, optV, ↓loadV, ↓indexAddrV, ↓boxV, ↓buildSliceV, ↓sliceV, ↓appendV, ↓srcV, bound, cutTag, hiTag, fillE, GVal.cells, grp, GVal.ofConst, ↓resV, resG, List.map, List.headD, List.take, List.drop, ↓reduceIte, Nat.reduceEqDiff, Nat.reduceAdd, Nat.reduceSub, Nat.reduceLeDiff, reduceCtorEq, implies_true, ne_eq, ↓asrcV, Tag.cap, List.replicate, allSolid, GVal.solid, Nat.reduceBEq, Nat.reduceMul, Nat.reduceLT, List.length_map, List.length_range, splice, vcA, ↓vcB, vcC, fbFz, e18]
  refine vcSLoop_by (ι := { p : Nat × Nat // p.1 ≤ A.length }) (fun p => ⟨[.any, .any, .ref [.slice (tabG m) .none, .slice (tabG o) .none], .any, .any, .slice (ints N) .none, .slice (ints ((A.take p.1.1).filter fun c => anyIn N (parI m o c))) (.tok 0 p.1.2), .slice (ints A) .none, .int .i64 (p.1.1 : Nat)] ++ List.replicate 44 .any, [.tok p.1.2 1]⟩) (fun p => A.length - p.1.1) ?_ ?_
  · refine Into.tok 6 1 [] rfl rfl ?_
    simp +contextual -implicitDefEqProofs (maxSteps := 2000000) (disch := omega) only [drawC, drawK, keepT, ↓lenV, binV, optV, ↓loadV, ↓indexAddrV, ↓boxV, ↓buildSliceV, ↓sliceV, ↓appendV, ↓srcV, bound, cutTag, hiTag, fillE, GVal.cells, grp, GVal.ofConst, ↓resV, resG, List.map, List.headD, List.take, List.drop, ↓reduceIte, Nat.reduceEqDiff, Nat.reduceAdd, Nat.reduceSub, Nat.reduceLeDiff, reduceCtorEq, implies_true, ne_eq, ↓asrcV, Tag.cap, List.replicate, allSolid, GVal.solid, Nat.reduceBEq, Nat.reduceMul, Nat.reduceLT, List.length_map, List.length_range, splice, vcA, ↓vcB, vcC, fbFz, e18]
    intro u
    exact Into.first ⟨(0, u), by omega⟩ ⟨[], by simp⟩ (by simp [WL, leG_self, leG_any, ints_nil])
  · rintro ⟨⟨k, v⟩, hk⟩
    change k ≤ A.length at hk
    by_cases hkl : k < A.length
    · have d0 : ((k : Int) < (A.length : Int)) = True := eq_true (by omega)
      have eS := ints_at A k hkl
      have eN := filt_take1 A (fun c => anyIn N (parI m o c)) k hkl
      have hfl := filt_len A (fun c => anyIn N (parI m o c)) k
      have c16 := spec16 m o .none .none (A.getD k 0) (by omega) (by omega)
      have hx4 := h4 (A.getD k 0)
      generalize A.getD k 0 = x at *
      generalize (A.take k).filter (fun c => anyIn N (parI m o c)) = B at *
      generalize parI m o x = P at *
      simp +contextual -implicitDefEqProofs (maxSteps := 2000000) (disch := omega) only [drawC, drawK, keepT, ↓lenV, binV, optV, ↓loadV, ↓indexAddrV, ↓boxV, ↓buildSliceV, ↓sliceV, ↓appendV, ↓srcV, bound, cutTag, hiTag, fillE, GVal.cells, grp, GVal.ofConst, ↓resV, resG, List.map, List.headD, List.take, List.drop, ↓reduceIte, Nat.reduceEqDiff, Nat.reduceAdd, Nat.reduceSub, Nat.reduceLeDiff, reduceCtorEq, implies_true, ne_eq, ↓asrcV, Tag.cap, List.replicate, allSolid, GVal.solid, Nat.reduceBEq, Nat.reduceMul, Nat.reduceLT, List.length_map, List.length_range, splice, vcAi, ↓vcB, vcC, fbFz, e18, d0, eS]
      repeat (refine ⟨by omega, ?_⟩)
      refine c16.then ?_ (by rfl)
      simp +contextual -implicitDefEqProofs (maxSteps := 2000000) (disch := omega) only [drawC, drawK, keepT, ↓lenV, binV, optV, ↓loadV, ↓indexAddrV, ↓boxV, ↓buildSliceV, ↓sliceV, ↓appendV, ↓srcV, bound, cutTag, hiTag, fillE, GVal.cells, grp, GVal.ofConst, ↓resV, resG, List.map, List.headD, List.take, List.drop, ↓reduceIte, Nat.reduceEqDiff, Nat.reduceAdd, Nat.reduceSub, Nat.reduceLeDiff, reduceCtorEq, implies_true, ne_eq, ↓asrcV, Tag.cap, List.replicate, allSolid, GVal.solid, Nat.reduceBEq, Nat.reduceMul, Nat.reduceLT, List.length_map, List.length_range, splice, vcAi, ↓vcB, vcC, fbFz, e18, d0, eS]
      refine vcSLoop_by (ι := { j : Nat // j ≤ P.length ∧ anyIn N (P.take j) = false }) (fun j => ⟨[.any, .any, .ref [.slice (tabG m) .none, .slice (tabG o) .none], .any, .any, .slice (ints N) .none, .slice (ints B) (.tok 0 v), .slice (ints A) .none, .int .i64 (k : Nat), .slice (ints P) .none, .any, .int .i64 (j.1 : Nat)] ++ List.replicate 41 .any, [.tok v 1]⟩) (fun j => P.length - j.1) ?_ ?_
      · exact Into.first ⟨0, by omega, by simp [anyIn]⟩ ⟨[], by simp⟩ (by simp [WL, leG_self, leG_any])
      · rintro ⟨j, hj, hf⟩
        by_cases hjl : j < P.length
        · have dj : ((j : Int) < (P.length : Int)) = True := eq_true (by omega)
          have ePj := ints_at P j hjl
          have hat := anyIn_take N P j hjl
          have hmem : P.getD j 0 ∈ P := getD_mem hjl
          have c62 := spec62 N .none (P.getD j 0) (by omega)
          generalize P.getD j 0 = y at *
          rw [hf, Bool.false_or] at hat
          by_cases hy : y ∈ N
          · have hP : anyIn N P = true := (anyIn_iff _ _).2 ⟨y, hmem, hy⟩
            rw [decide_eq_true hy] at c62
            simp only [hP, if_true] at eN
            simp +contextual -implicitDefEqProofs (maxSteps := 2000000) (disch := omega) only [drawC, drawK, keepT, ↓lenV, binV, optV, ↓loadV, ↓indexAddrV, ↓boxV, ↓buildSliceV, ↓sliceV, ↓appendV, ↓srcV, bound, cutTag, hiTag, fillE, GVal.cells, grp, GVal.ofConst, ↓resV, resG, List.map, List.headD, List.take, List.drop, ↓reduceIte, Nat.reduceEqDiff, Nat.reduceAdd, Nat.reduceSub, Nat.reduceLeDiff, reduceCtorEq, implies_true, ne_eq, ↓asrcV, Tag.cap, List.replicate, allSolid, GVal.solid, Nat.reduceBEq, Nat.reduceMul, Nat.reduceLT, List.length_map, List.length_range, splice, vcAi, ↓vcB, vcC, fbFz, e18, d0, dj, eS, ePj]
            repeat (refine ⟨by omega, ?_⟩)
            refine c62.then ?_ (by rfl)
            simp +contextual -implicitDefEqProofs (maxSteps := 2000000) (disch := omega) only [drawC, drawK, keepT, ↓lenV, binV, optV, ↓loadV, ↓indexAddrV, ↓boxV, ↓buildSliceV, ↓sliceV, ↓appendV, ↓srcV, bound, cutTag, hiTag, fillE, GVal.cells, grp, GVal.ofConst, ↓resV, resG, List.map, List.headD, List.take, List.drop, ↓reduceIte, Nat.reduceEqDiff, Nat.reduceAdd, Nat.reduceSub, Nat.reduceLeDiff, reduceCtorEq, implies_true, ne_eq, ↓asrcV, Tag.cap, List.replicate, allSolid, GVal.solid, Nat.reduceBEq, Nat.reduceMul, Nat.reduceLT, List.length_map, List.length_range, splice, vcAi, ↓vcB, vcC, fbFz, e18, d0, dj, eS, ePj]
            repeat (refine ⟨by omega, ?_⟩)
            intro w
            exact Into.at ⟨(k + 1, w), by show k + 1 ≤ _; omega⟩ (by show _ < _; simp; omega) ⟨[], by simp⟩ (by simp [WL, leG_self, leG_any, leG_int, eN, ints_append, ints_one])
          · rw [decide_eq_false hy] at c62 hat
            simp +contextual -implicitDefEqProofs (maxSteps := 2000000) (disch := omega) only [drawC, drawK, keepT, ↓lenV, binV, optV, ↓loadV, ↓indexAddrV, ↓boxV, ↓buildSliceV, ↓sliceV, ↓appendV, ↓srcV, bound, cutTag, hiTag, fillE, GVal.cells, grp, GVal.ofConst, ↓resV, resG, List.map, List.headD, List.take, List.drop, ↓reduceIte, Nat.reduceEqDiff, Nat.reduceAdd, Nat.reduceSub, Nat.reduceLeDiff, reduceCtorEq, implies_true, ne_eq, ↓asrcV, Tag.cap, List.replicate, allSolid, GVal.solid, Nat.reduceBEq, Nat.reduceMul, Nat.reduceLT, List.length_map, List.length_range, splice, vcAi, ↓vcB, vcC, fbFz, e18, d0, dj, eS, ePj]
            repeat (refine ⟨by omega, ?_⟩)
            refine c62.then ?_ (by rfl)
            simp +contextual -implicitDefEqProofs (maxSteps := 2000000) (disch := omega) only [drawC, drawK, keepT, ↓lenV, binV, optV, ↓loadV, ↓indexAddrV, ↓boxV, ↓buildSliceV, ↓sliceV, ↓appendV, ↓srcV, bound, cutTag, hiTag, fillE, GVal.cells, grp, GVal.ofConst, ↓resV, resG, List.map, List.headD, List.take, List.drop, ↓reduceIte, Nat.reduceEqDiff, Nat.reduceAdd, Nat.reduceSub, Nat.reduceLeDiff, reduceCtorEq, implies_true, ne_eq, ↓asrcV, Tag.cap, List.replicate, allSolid, GVal.solid, Nat.reduceBEq, Nat.reduceMul, Nat.reduceLT, List.length_map, List.length_range, splice, vcAi, ↓vcB, vcC, fbFz, e18, d0, dj, eS, ePj]
            exact Into.at ⟨j + 1, by omega, hat⟩ (by show _ < _; simp; omega) ⟨[], by simp⟩ (by simp [WL, leG_self, leG_any, leG_int])
        · have dj : ((j : Int) < (P.length : Int)) = False := eq_false (by omega)
          rw [List.take_of_length_le (by omega)] at hf
          simp only [hf, Bool.false_eq_true, if_false, List.append_nil] at eN
          simp +contextual -implicitDefEqProofs (maxSteps := 2000000) (disch := omega) only [drawC, drawK, keepT, ↓lenV, binV, optV, ↓loadV, ↓indexAddrV, ↓boxV, ↓buildSliceV, ↓sliceV, ↓appendV, ↓srcV, bound, cutTag, hiTag, fillE, GVal.cells, grp, GVal.ofConst, ↓resV, resG, List.map, List.headD, List.take, List.drop, ↓reduceIte, Nat.reduceEqDiff, Nat.reduceAdd, Nat.reduceSub, Nat.reduceLeDiff, reduceCtorEq, implies_true, ne_eq, ↓asrcV, Tag.cap, List.replicate, allSolid, GVal.solid, Nat.reduceBEq, Nat.reduceMul, Nat.reduceLT, List.length_map, List.length_range, splice, vcAi, ↓vcB, vcC, fbFz, e18, d0, dj]
          exact Into.at ⟨(k + 1, v), by show k + 1 ≤ _; omega⟩ (by show _ < _; simp; omega) ⟨[], by simp⟩ (by simp [WL, leG_self, leG_any, leG_int, eN])
    · have d0 : ((k : Int) < (A.length : Int)) = False := eq_false (by omega)
      simp +contextual -implicitDefEqProofs (maxSteps := 2000000) (disch := omega) only [drawC, drawK, keepT, ↓lenV, binV, optV, ↓loadV, ↓indexAddrV, ↓boxV, ↓buildSliceV, ↓sliceV, ↓appendV, ↓srcV, bound, cutTag, hiTag, fillE, GVal.cells, grp, GVal.ofConst, ↓resV, resG, List.map, List.headD, List.take, List.drop, ↓reduceIte, Nat.reduceEqDiff, Nat.reduceAdd, Nat.reduceSub, Nat.reduceLeDiff, reduceCtorEq, implies_true, ne_eq, ↓asrcV, Tag.cap, List.replicate, allSolid, GVal.solid, Nat.reduceBEq, Nat.reduceMul, Nat.reduceLT, List.length_map, List.length_range, splice, vcA, ↓vcB, vcC, fbFz, e18, d0]
      rw [List.take_of_length_le (by omega)]
      refine (cO v).then ?_ (by rfl)
      simp +contextual -implicitDefEqProofs (maxSteps := 2000000) (disch := omega) only [drawC, drawK, keepT, ↓lenV, binV, optV, ↓loadV, ↓indexAddrV, ↓boxV, ↓buildSliceV, ↓sliceV, ↓appendV, ↓srcV, bound, cutTag, hiTag, fillE, GVal.cells, grp, GVal.ofConst, ↓resV, resG, List.map, List.headD, List.take, List.drop, ↓reduceIte, Nat.reduceEqDiff, Nat.reduceAdd, Nat.reduceSub, Nat.reduceLeDiff, reduceCtorEq, implies_true, ne_eq, ↓asrcV, Tag.cap, List.replicate, allSolid, GVal.solid, Nat.reduceBEq, Nat.reduceMul, Nat.reduceLT, List.length_map, List.length_range, splice, vcA, ↓vcB, vcC, fbFz, e18]
theorem rRoots {m o : List (List Int)} (h : TOK m o) (s : List Sp.S) (t : Tag) (hs : s.length ≤ 1000) (ho : Sp.Ok s) : GPure Tryz.prog 26 [.agg [.slice (tabG m) .none, .slice (tabG o) .none], .slice (spl s) t] (.slice (spl (idsP m o fun n => Sp.has s n ∧ ¬ cP m o s n)) .none) := by
  have hl := h.len
  have c1 := rThere h s t hs ho
  have h4 : ∀ x, (parI m o x).length ≤ 4 := fun x => okRow_len h.right x
  have e : Sp.nf ((rootsL m o s (thereL m o s)).map fun i => (i, i)) = idsP m o (fun n => Sp.has s n ∧ ¬ cP m o s n) := of_idsP fun n => rootsL_mem h
  have hB := there_len m o s
  have hK : (rootsL m o s (thereL m o s)).length ≤ 1000 := Nat.le_trans (List.length_filter_le _ _) (by omega)
  have cO := fun v => sOfR (rootsL m o s (thereL m o s)) (.tok 0 v) (by omega) (list_range h fun n hn => ((rootsL_mem h).1 hn).1)
  rw [e] at cO
  unfold rootsL at cO
  generalize thereL m o s = A at *
  refine h26.pure mixS (by simp) ?_
  simp only [gstart, s26, List.cons_append, List.nil_append, List.length_cons, List.length_nil, Nat.reduceAdd, Nat.reduceSub, List.replicate_succ, List.replicate_zero]
  simp +contextual -implicitDefEqProofs (maxSteps := 2000000) (disch := omega) only [drawC, drawK, keepT, ↓lenV, binV, ↓unV, optV, ↓loadV, ↓indexAddrV, ↓boxV, ↓buildSliceV, ↓sliceV, ↓appendV, ↓srcV, bound, cutTag, hiTag, fillE, GVal.cells, grp, GVal.ofConst, ↓resV, resG, List.map, List.headD, List.take, List.drop, ↓reduceIte, Nat.reduceEqDiff, Nat.reduceAdd, Nat.reduceSub, Nat.reduceLeDiff, reduceCtorEq, implies_true, ne_eq, ↓asrcV, Tag.cap, List.replicate, allSolid, GVal.solid, Nat.reduceBEq, Nat.reduceMul, Nat.reduceLT, List.length_map, List.length_range, splice, vcA, ↓vcB, vcC, fbFz, e26]
  refine c1.then ?_ (by rfl)
  simp +contextual -implicitDefEqProofs (maxSteps := 2000000) (disch := omega) only [drawC, drawK, keepT, ↓lenV, binV, ↓unV, optV, ↓loadV, ↓indexAddrV, ↓boxV, ↓buildSliceV, ↓sliceV, ↓appendV, ↓srcV, bound, cutTag, hiTag, fillE, GVal.cells, grp, GVal.ofConst, ↓resV, resG, List.map, List.headD, List.take, List.drop, ↓reduceIte, Nat.reduceEqDiff, Nat.reduceAdd, Nat.reduceSub, Nat.reduceLeDiff, reduceCtorEq, implies_true, ne_eq, ↓asrcV, Tag.cap, List.replicate, allSolid, GVal.solid, Nat.reduceBEq, Nat.reduceMul, Nat.reduceLT, List.length_map, List.length_range, splice, vcA, ↓vcB, vcC, fbFz, e26]
  refine vcSLoop_by (ι := { p : Nat × Nat // p.1 ≤ A.length }) (fun p => ⟨[.any, .any, .ref [.slice (tabG m) .none, .slice (tabG o) .none], .any, .any, .slice (ints ((A.take p.1.1).filter fun c => !anyIn A (parI m o c))) (.tok 0 p.1.2), .slice (ints A) .none, .int .i64 (p.1.1 : Nat)] ++ List.replicate 48 .any, [.tok p.1.2 1]⟩) (fun p => A.length - p.1.1) ?_ ?_
  · refine Into.tok 5 1 [] rfl rfl ?_
    simp +contextual -implicitDefEqProofs (maxSteps := 2000000) (disch := omega) only [drawC, drawK, keepT, ↓lenV, binV, ↓unV, optV, ↓loadV, ↓indexAddrV, ↓boxV, ↓buildSliceV, ↓sliceV, ↓appendV, ↓srcV, bound, cutTag, hiTag, fillE, GVal.cells, grp, GVal.ofConst, ↓resV, resG, List.map, List.headD, List.take, List.drop, ↓reduceIte, Nat.reduceEqDiff, Nat.reduceAdd, Nat.reduceSub, Nat.reduceLeDiff, reduceCtorEq, implies_true, ne_eq, ↓asrcV, Tag.cap, List.replicate, allSolid, GVal.solid, Nat.reduceBEq, Nat.reduceMul, Nat.reduceLT, List.length_map, List.length_range, splice, vcA, ↓vcB, vcC, fbFz, e26]
    intro u
    exact Into.first ⟨(0, u), by omega⟩ ⟨[], by simp⟩ (by simp [WL, leG_self, leG_any, ints_nil])
  · rintro ⟨⟨k, v⟩, hk⟩
    change k ≤ A.length at hk
    by_cases hkl : k < A.length
    · have d0 : ((k : Int) < (A.length : Int)) = True := eq_true (by omega)
      have eS := ints_at A k hkl
      have eN := filt_take1 A (fun c => !anyIn A (parI m o c)) k hkl
      have hfl := filt_len A (fun c => !anyIn A (parI m o c)) k
      have c16 := spec16 m o .none .none (A.getD k 0) (by omega) (by omega)
      have hx4 := h4 (A.getD k 0)
      generalize A.getD k 0 = x at *
      generalize (A.take k).filter (fun c => !anyIn A (parI m o c)) = B at *
      generalize parI m o x = P at *
      simp +contextual -implicitDefEqProofs (maxSteps := 2000000) (disch := omega) only [drawC, drawK, keepT, ↓lenV, binV, ↓unV, optV, ↓loadV, ↓indexAddrV, ↓boxV, ↓buildSliceV, ↓sliceV, ↓appendV, ↓srcV, bound, cutTag, hiTag, fillE, GVal.cells, grp, GVal.ofConst, ↓resV, resG, List.map, List.headD, List.take, List.drop, ↓reduceIte, Nat.reduceEqDiff, Nat.reduceAdd, Nat.reduceSub, Nat.reduceLeDiff, reduceCtorEq, implies_true, ne_eq, ↓asrcV, Tag.cap, List.replicate, allSolid, GVal.solid, Nat.reduceBEq, Nat.reduceMul, Nat.reduceLT, List.length_map, List.length_range, splice, vcAi, ↓vcB, vcC, fbFz, e26, d0, eS]
      repeat (refine ⟨by omega, ?_⟩)
      refine c16.then ?_ (by rfl)
      simp +contextual -implicitDefEqProofs (maxSteps := 2000000) (disch := omega) only [drawC, drawK, keepT, ↓lenV, binV, ↓unV, optV, ↓loadV, ↓indexAddrV, ↓boxV, ↓buildSliceV, ↓sliceV, ↓appendV, ↓srcV, bound, cutTag, hiTag, fillE, GVal.cells, grp, GVal.ofConst, ↓resV, resG, List.map, List.headD, List.take, List.drop, ↓reduceIte, Nat.reduceEqDiff, Nat.reduceAdd, Nat.reduceSub, Nat.reduceLeDiff, reduceCtorEq, implies_true, ne_eq, ↓asrcV, Tag.cap, List.replicate, allSolid, GVal.solid, Nat.reduceBEq, Nat.reduceMul, Nat.reduceLT, List.length_map, List.length_range, splice, vcAi, ↓vcB, vcC, fbFz, e26, d0, eS]
      refine vcSLoop_by (ι := { j : Nat // j ≤ P.length }) (fun j => ⟨[.any, .any, .ref [.slice (tabG m) .none, .slice (tabG o) .none], .any, .any, .slice (ints B) (.tok 0 v), .slice (ints A) .none, .int .i64 (k : Nat), .slice (ints P) .none, .any, .bool (!anyIn A (P.take j.1)), .int .i64 (j.1 : Nat)] ++ List.replicate 44 .any, [.tok v 1]⟩) (fun j => P.length - j.1) ?_ ?_
      · exact Into.first ⟨0, by omega⟩ ⟨[], by simp⟩ (by simp [WL, leG_self, leG_any, anyIn])
      · rintro ⟨j, hj⟩
        by_cases hjl : j < P.length
        · have dj : ((j : Int) < (P.length : Int)) = True := eq_true (by omega)
          have ePj := ints_at P j hjl
          have hat := anyIn_take A P j hjl
          have c62 := spec62 A .none (P.getD j 0) (by omega)
          generalize P.getD j 0 = y at *
          cases hb : anyIn A (P.take j) with
          | true =>
            rw [hb, Bool.true_or] at hat
            simp +contextual -implicitDefEqProofs (maxSteps := 2000000) (disch := omega) only [drawC, drawK, keepT, ↓lenV, binV, ↓unV, optV, ↓loadV, ↓indexAddrV, ↓boxV, ↓buildSliceV, ↓sliceV, ↓appendV, ↓srcV, bound, cutTag, hiTag, fillE, GVal.cells, grp, GVal.ofConst, ↓resV, resG, List.map, List.headD, List.take, List.drop, ↓reduceIte, Nat.reduceEqDiff, Nat.reduceAdd, Nat.reduceSub, Nat.reduceLeDiff, reduceCtorEq, implies_true, ne_eq, ↓asrcV, Tag.cap, List.replicate, allSolid, GVal.solid, Nat.reduceBEq, Nat.reduceMul, Nat.reduceLT, List.length_map, List.length_range, splice, vcAi, ↓vcB, vcC, fbFz, e26, d0, dj, eS, ePj, Bool.not_true]
            exact Into.at ⟨j + 1, by omega⟩ (by show _ < _; simp; omega) ⟨[], by simp⟩ (by simp [WL, leG_self, leG_any, leG_int, hat])
          | false =>
            rw [hb, Bool.false_or] at hat
            simp +contextual -implicitDefEqProofs (maxSteps := 2000000) (disch := omega) only [drawC, drawK, keepT, ↓lenV, binV, ↓unV, optV, ↓loadV, ↓indexAddrV, ↓boxV, ↓buildSliceV, ↓sliceV, ↓appendV, ↓srcV, bound, cutTag, hiTag, fillE, GVal.cells, grp, GVal.ofConst, ↓resV, resG, List.map, List.headD, List.take, List.drop, ↓reduceIte, Nat.reduceEqDiff, Nat.reduceAdd, Nat.reduceSub, Nat.reduceLeDiff, reduceCtorEq, implies_true, ne_eq, ↓asrcV, Tag.cap, List.replicate, allSolid, GVal.solid, Nat.reduceBEq, Nat.reduceMul, Nat.reduceLT, List.length_map, List.length_range, splice, vcAi, ↓vcB, vcC, fbFz, e26, d0, dj, eS, ePj, Bool.not_false]
            repeat (refine ⟨by omega, ?_⟩)
            refine c62.then ?_ (by rfl)
            simp +contextual -implicitDefEqProofs (maxSteps := 2000000) (disch := omega) only [drawC, drawK, keepT, ↓lenV, binV, ↓unV, optV, ↓loadV, ↓indexAddrV, ↓boxV, ↓buildSliceV, ↓sliceV, ↓appendV, ↓srcV, bound, cutTag, hiTag, fillE, GVal.cells, grp, GVal.ofConst, ↓resV, resG, List.map, List.headD, List.take, List.drop, ↓reduceIte, Nat.reduceEqDiff, Nat.reduceAdd, Nat.reduceSub, Nat.reduceLeDiff, reduceCtorEq, implies_true, ne_eq, ↓asrcV, Tag.cap, List.replicate, allSolid, GVal.solid, Nat.reduceBEq, Nat.reduceMul, Nat.reduceLT, List.length_map, List.length_range, splice, vcAi, ↓vcB, vcC, fbFz, e26, d0, dj, eS, ePj]
            exact Into.at ⟨j + 1, by omega⟩ (by show _ < _; simp; omega) ⟨[], by simp⟩ (by simp [WL, leG_self, leG_any, leG_int, hat])
        · have dj : ((j : Int) < (P.length : Int)) = False := eq_false (by omega)
          have hP : P.take j = P := List.take_of_length_le (by omega)
          rw [hP]
          cases hb : anyIn A P with
          | true =>
            simp only [hb, Bool.not_true, Bool.false_eq_true, if_false, List.append_nil] at eN
            simp +contextual -implicitDefEqProofs (maxSteps := 2000000) (disch := omega) only [drawC, drawK, keepT, ↓lenV, binV, ↓unV, optV, ↓loadV, ↓indexAddrV, ↓boxV, ↓buildSliceV, ↓sliceV, ↓appendV, ↓srcV, bound, cutTag, hiTag, fillE, GVal.cells, grp, GVal.ofConst, ↓resV, resG, List.map, List.headD, List.take, List.drop, ↓reduceIte, Nat.reduceEqDiff, Nat.reduceAdd, Nat.reduceSub, Nat.reduceLeDiff, reduceCtorEq, implies_true, ne_eq, ↓asrcV, Tag.cap, List.replicate, allSolid, GVal.solid, Nat.reduceBEq, Nat.reduceMul, Nat.reduceLT, List.length_map, List.length_range, splice, vcAi, ↓vcB, vcC, fbFz, e26, d0, dj, Bool.not_true]
            exact Into.at ⟨(k + 1, v), by show k + 1 ≤ _; omega⟩ (by show _ < _; simp; omega) ⟨[], by simp⟩ (by simp [WL, leG_self, leG_any, leG_int, eN])
          | false =>
            simp only [hb, Bool.not_false, if_true] at eN
            simp +contextual -implicitDefEqProofs (maxSteps := 2000000) (disch := omega) only [drawC, drawK, keepT, ↓lenV, binV, ↓unV, optV, ↓loadV, ↓indexAddrV, ↓boxV, ↓buildSliceV, ↓sliceV, ↓appendV, ↓srcV, bound, cutTag, hiTag, fillE, GVal.cells, grp, GVal.ofConst, ↓resV, resG, List.map, List.headD, List.take, List.drop, ↓reduceIte, Nat.reduceEqDiff, Nat.reduceAdd, Nat.reduceSub, Nat.reduceLeDiff, reduceCtorEq, implies_true, ne_eq, ↓asrcV, Tag.cap, List.replicate, allSolid, GVal.solid, Nat.reduceBEq, Nat.reduceMul, Nat.reduceLT, List.length_map, List.length_range, splice, vcAi, ↓vcB, vcC, fbFz, e26, d0, dj, eS, Bool.not_false]
            repeat (refine ⟨by omega, ?_⟩)
            intro w
            exact Into.at ⟨(k + 1, w), by show k + 1 ≤ _; omega⟩ (by show _ < _; simp; omega) ⟨[], by simp⟩ (by simp [WL, leG_self, leG_any, leG_int, eN, ints_append, ints_one])
    · have d0 : ((k : Int) < (A.length : Int)) = False := eq_false (by omega)
      simp +contextual -implicitDefEqProofs (maxSteps := 2000000) (disch := omega) only [drawC, drawK, keepT, ↓lenV, binV, ↓unV, optV, ↓loadV, ↓indexAddrV, ↓boxV, ↓buildSliceV, ↓sliceV, ↓appendV, ↓srcV, bound, cutTag, hiTag, fillE, GVal.cells, grp, GVal.ofConst, ↓resV, resG, List.map, List.headD, List.take, List.drop, ↓reduceIte, Nat.reduceEqDiff, Nat.reduceAdd, Nat.reduceSub, Nat.reduceLeDiff, reduceCtorEq, implies_true, ne_eq, ↓asrcV, Tag.cap, List.replicate, allSolid, GVal.solid, Nat.reduceBEq, Nat.reduceMul, Nat.reduceLT, List.length_map, List.length_range, splice, vcA, ↓vcB, vcC, fbFz, e26, d0]
      rw [List.take_of_length_le (by omega)]
      refine (cO v).then ?_ (by rfl)
      simp +contextual -implicitDefEqProofs (maxSteps := 2000000) (disch := omega) only [drawC, drawK, keepT, ↓lenV, binV, ↓unV, optV, ↓loadV, ↓indexAddrV, ↓boxV, ↓buildSliceV, ↓sliceV, ↓appendV, ↓srcV, bound, cutTag, hiTag, fillE, GVal.cells, grp, GVal.ofConst, ↓resV, resG, List.map, List.headD, List.take, List.drop, ↓reduceIte, Nat.reduceEqDiff, Nat.reduceAdd, Nat.reduceSub, Nat.reduceLeDiff, reduceCtorEq, implies_true, ne_eq, ↓asrcV, Tag.cap, List.replicate, allSolid, GVal.solid, Nat.reduceBEq, Nat.reduceMul, Nat.reduceLT, List.length_map, List.length_range, splice, vcA, ↓vcB, vcC, fbFz, e26]
theorem downStep_take (out P : List Int) (x : Int) (j : Nat) (hj : j < P.length) : downStep out x (P.take (j + 1)) = if P.getD j 0 ∈ downStep out x (P.take j) ∧ x ∉ downStep out x (P.take j) then downStep out x (P.take j) ++ [x] else downStep out x (P.take j) := by
  unfold downStep
  rw [anyIn_take _ _ _ hj]
  by_cases hx : x ∈ out
  · simp [hx]
  · cases hb : anyIn out (P.take j) with
    | true => simp [hx]
    | false => simp [hx]
theorem downStep_len (out P : List Int) (x : Int) : (downStep out x P).length ≤ out.length + 1 := by
  unfold downStep; split <;> simp
theorem rDown {m o : List (List Int)} (h : TOK m o) (s : List Sp.S) (t : Tag) (hs : s.length ≤ 1000) (ho : Sp.Ok s) : GPure Tryz.prog 22 [.agg [.slice (tabG m) .none, .slice (tabG o) .none], .slice (spl s) t] (.slice (spl (idsP m o (dP m o s))) .none) := by
  have hl := h.len
  have c1 := rThereC h s t hs ho
  have cA := spec14 m o .none .none (by omega) (by omega)
  have hA := allI_len m.length o.length
  have h4 : ∀ x, (parI m o x).length ≤ 4 := fun x => okRow_len h.right x
  have i0 := DownInv.start h s
  have iGo := fun k out (hI : DownInv m o s k out) hk => hI.go h hk
  have cO : ∀ out v, DownInv m o s (m.length + o.length) out → GPure Tryz.prog 40 [.slice (ints out) (.tok 0 v)] (.slice (spl (idsP m o (dP m o s))) .none) := fun out v hI => by
    have := sOfR out (.tok 0 v) (by have := hI.len; omega) (list_range h fun n hn => ((hI.fin h n).1 hn).1)
    rwa [of_idsP (hI.fin h)] at this
  generalize thereL m o s = N at *
  generalize allI m.length o.length = A at *
  refine h22.pure mixS (by simp) ?_
  simp only [gstart, s22, List.cons_append, List.nil_append, List.length_cons, List.length_nil, Nat.reduceAdd, Nat.reduceSub, List.replicate_succ, List.replicate_zero]
  simp +contextual -implicitDefEqProofs (maxSteps := 2000000) (disch := omega) only [drawC, drawK, keepT, ↓lenV, binV, ↓unV, optV, ↓loadV, ↓indexAddrV, ↓boxV, ↓buildSliceV, ↓sliceV, ↓appendV, ↓srcV, bound, cutTag, hiTag, fillE, GVal.cells, grp, GVal.ofConst, ↓resV, resG, List.map, List.headD, List.take, List.drop, ↓reduceIte, Nat.reduceEqDiff, Nat.reduceAdd, Nat.reduceSub, Nat.reduceLeDiff, reduceCtorEq, implies_true, ne_eq, ↓asrcV, Tag.cap, List.replicate, allSolid, GVal.solid, Nat.reduceBEq, Nat.reduceMul, Nat.reduceLT, List.length_map, List.length_range, splice, vcA, ↓vcB, vcC, fbFz, e22]
  refine c1.mono ?_
  rintro g O' ⟨v0, rfl, rfl⟩
  simp +contextual -implicitDefEqProofs (maxSteps := 2000000) (disch := omega) only [drawC, drawK, keepT, ↓lenV, binV, ↓unV, optV, ↓loadV, ↓indexAddrV, ↓boxV, ↓buildSliceV, ↓sliceV, ↓appendV, ↓srcV, bound, cutTag, hiTag, fillE, GVal.cells, grp, GVal.ofConst, ↓resV, resG, List.map, List.headD, List.take, List.drop, ↓reduceIte, Nat.reduceEqDiff, Nat.reduceAdd, Nat.reduceSub, Nat.reduceLeDiff, reduceCtorEq, implies_true, ne_eq, ↓asrcV, Tag.cap, List.replicate, allSolid, GVal.solid, Nat.reduceBEq, Nat.reduceMul, Nat.reduceLT, List.length_map, List.length_range, splice, vcA, ↓vcB, vcC, fbFz, e22]
  refine cA.then ?_ (by rfl)
  simp +contextual -implicitDefEqProofs (maxSteps := 2000000) (disch := omega) only [drawC, drawK, keepT, ↓lenV, binV, ↓unV, optV, ↓loadV, ↓indexAddrV, ↓boxV, ↓buildSliceV, ↓sliceV, ↓appendV, ↓srcV, bound, cutTag, hiTag, fillE, GVal.cells, grp, GVal.ofConst, ↓resV, resG, List.map, List.headD, List.take, List.drop, ↓reduceIte, Nat.reduceEqDiff, Nat.reduceAdd, Nat.reduceSub, Nat.reduceLeDiff, reduceCtorEq, implies_true, ne_eq, ↓asrcV, Tag.cap, List.replicate, allSolid, GVal.solid, Nat.reduceBEq, Nat.reduceMul, Nat.reduceLT, List.length_map, List.length_range, splice, vcA, ↓vcB, vcC, fbFz, e22]
  refine vcSLoop_by (ι := { p : Nat × List Int × Nat // p.1 ≤ A.length ∧ DownInv m o s p.1 p.2.1 }) (fun p => ⟨[.any, .any, .ref [.slice (tabG m) .none, .slice (tabG o) .none], .any, .any, .slice (ints p.1.2.1) (.tok 0 p.1.2.2), .slice (ints A) .none, .int .i64 (p.1.1 : Nat)] ++ List.replicate 53 .any, [.tok p.1.2.2 1]⟩) (fun p => A.length - p.1.1) ?_ ?_
  · exact Into.first ⟨(0, N, v0), by omega, i0⟩ ⟨[], by simp⟩ (by simp [WL, leG_self, leG_any, ints_nil])
  · rintro ⟨⟨k, out, v⟩, hk, hI⟩
    change k ≤ A.length at hk
    change DownInv m o s k out at hI
    by_cases hkl : k < A.length
    · have d0 : ((k : Int) < (A.length : Int)) = True := eq_true (by omega)
      have eS := ints_at A k hkl
      have hlo := hI.len
      have hN := iGo k out hI (by omega)
      have c16 := spec16 m o .none .none (A.getD k 0) (by omega) (by omega)
      have hx4 := h4 (A.getD k 0)
      generalize A.getD k 0 = x at *
      generalize parI m o x = P at *
      simp +contextual -implicitDefEqProofs (maxSteps := 2000000) (disch := omega) only [drawC, drawK, keepT, ↓lenV, binV, ↓unV, optV, ↓loadV, ↓indexAddrV, ↓boxV, ↓buildSliceV, ↓sliceV, ↓appendV, ↓srcV, bound, cutTag, hiTag, fillE, GVal.cells, grp, GVal.ofConst, ↓resV, resG, List.map, List.headD, List.take, List.drop, ↓reduceIte, Nat.reduceEqDiff, Nat.reduceAdd, Nat.reduceSub, Nat.reduceLeDiff, reduceCtorEq, implies_true, ne_eq, ↓asrcV, Tag.cap, List.replicate, allSolid, GVal.solid, Nat.reduceBEq, Nat.reduceMul, Nat.reduceLT, List.length_map, List.length_range, splice, vcAi, ↓vcB, vcC, fbFz, e22, d0, eS]
      repeat (refine ⟨by omega, ?_⟩)
      refine c16.then ?_ (by rfl)
      simp +contextual -implicitDefEqProofs (maxSteps := 2000000) (disch := omega) only [drawC, drawK, keepT, ↓lenV, binV, ↓unV, optV, ↓loadV, ↓indexAddrV, ↓boxV, ↓buildSliceV, ↓sliceV, ↓appendV, ↓srcV, bound, cutTag, hiTag, fillE, GVal.cells, grp, GVal.ofConst, ↓resV, resG, List.map, List.headD, List.take, List.drop, ↓reduceIte, Nat.reduceEqDiff, Nat.reduceAdd, Nat.reduceSub, Nat.reduceLeDiff, reduceCtorEq, implies_true, ne_eq, ↓asrcV, Tag.cap, List.replicate, allSolid, GVal.solid, Nat.reduceBEq, Nat.reduceMul, Nat.reduceLT, List.length_map, List.length_range, splice, vcAi, ↓vcB, vcC, fbFz, e22, d0, eS]
      refine vcSLoop_by (ι := { p : Nat × Nat // p.1 ≤ P.length }) (fun p => ⟨[.any, .any, .ref [.slice (tabG m) .none, .slice (tabG o) .none], .any, .any, .slice (ints (downStep out x (P.take p.1.1))) (.tok 0 p.1.2), .slice (ints A) .none, .int .i64 (k : Nat), .slice (ints P) .none, .any, .int .i64 (p.1.1 : Nat)] ++ List.replicate 50 .any, [.tok p.1.2 1]⟩) (fun p => P.length - p.1.1) ?_ ?_
      · exact Into.first ⟨(0, v), by show 0 ≤ _; omega⟩ ⟨[], by simp⟩ (by simp [WL, leG_self, leG_any, downStep, anyIn])
      · rintro ⟨⟨j, w⟩, hj⟩
        change j ≤ P.length at hj
        by_cases hjl : j < P.length
        · have dj : ((j : Int) < (P.length : Int)) = True := eq_true (by omega)
          have ePj := ints_at P j hjl
          have hat := downStep_take out P x j hjl
          have hlD := downStep_len out (P.take j) x
          generalize downStep out x (P.take j) = D at *
          have c62 := spec62 D (.tok 0 w) (P.getD j 0) (by omega)
          have c62x := spec62 D (.tok 0 w) x (by omega)
          generalize P.getD j 0 = y at *
          by_cases hy : y ∈ D
          · rw [decide_eq_true hy] at c62
            by_cases hx : x ∈ D
            · rw [decide_eq_true hx] at c62x
              rw [if_neg (fun q => q.2 hx)] at hat
              simp +contextual -implicitDefEqProofs (maxSteps := 2000000) (disch := omega) only [drawC, drawK, keepT, ↓lenV, binV, ↓unV, optV, ↓loadV, ↓indexAddrV, ↓boxV, ↓buildSliceV, ↓sliceV, ↓appendV, ↓srcV, bound, cutTag, hiTag, fillE, GVal.cells, grp, GVal.ofConst, ↓resV, resG, List.map, List.headD, List.take, List.drop, ↓reduceIte, Nat.reduceEqDiff, Nat.reduceAdd, Nat.reduceSub, Nat.reduceLeDiff, reduceCtorEq, implies_true, ne_eq, ↓asrcV, Tag.cap, List.replicate, allSolid, GVal.solid, Nat.reduceBEq, Nat.reduceMul, Nat.reduceLT, List.length_map, List.length_range, splice, vcAi, ↓vcB, vcC, fbFz, e22, d0, dj, eS, ePj]
              repeat (refine ⟨by omega, ?_⟩)
              refine c62.then ?_ (by rfl)
              simp +contextual -implicitDefEqProofs (maxSteps := 2000000) (disch := omega) only [drawC, drawK, keepT, ↓lenV, binV, ↓unV, optV, ↓loadV, ↓indexAddrV, ↓boxV, ↓buildSliceV, ↓sliceV, ↓appendV, ↓srcV, bound, cutTag, hiTag, fillE, GVal.cells, grp, GVal.ofConst, ↓resV, resG, List.map, List.headD, List.take, List.drop, ↓reduceIte, Nat.reduceEqDiff, Nat.reduceAdd, Nat.reduceSub, Nat.reduceLeDiff, reduceCtorEq, implies_true, ne_eq, ↓asrcV, Tag.cap, List.replicate, allSolid, GVal.solid, Nat.reduceBEq, Nat.reduceMul, Nat.reduceLT, List.length_map, List.length_range, splice, vcAi, ↓vcB, vcC, fbFz, e22, d0, dj, eS, ePj]
              repeat (refine ⟨by omega, ?_⟩)
              refine c62x.then ?_ (by rfl)
              simp +contextual -implicitDefEqProofs (maxSteps := 2000000) (disch := omega) only [drawC, drawK, keepT, ↓lenV, binV, ↓unV, optV, ↓loadV, ↓indexAddrV, ↓boxV, ↓buildSliceV, ↓sliceV, ↓appendV, ↓srcV, bound, cutTag, hiTag, fillE, GVal.cells, grp, GVal.ofConst, ↓resV, resG, List.map, List.headD, List.take, List.drop, ↓reduceIte, Nat.reduceEqDiff, Nat.reduceAdd, Nat.reduceSub, Nat.reduceLeDiff, reduceCtorEq, implies_true, ne_eq, ↓asrcV, Tag.cap, List.replicate, allSolid, GVal.solid, Nat.reduceBEq, Nat.reduceMul, Nat.reduceLT, List.length_map, List.length_range, splice, vcAi, ↓vcB, vcC, fbFz, e22, d0, dj, eS, ePj]
              exact Into.at ⟨(j + 1, w), by show j + 1 ≤ _; omega⟩ (by show _ < _; simp; omega) ⟨[], by simp⟩ (by simp [WL, leG_self, leG_any, leG_int, hat])
            · rw [decide_eq_false hx] at c62x
              rw [if_pos ⟨hy, hx⟩] at hat
              simp +contextual -implicitDefEqProofs (maxSteps := 2000000) (disch := omega) only [drawC, drawK, keepT, ↓lenV, binV, ↓unV, optV, ↓loadV, ↓indexAddrV, ↓boxV, ↓buildSliceV, ↓sliceV, ↓appendV, ↓srcV, bound, cutTag, hiTag, fillE, GVal.cells, grp, GVal.ofConst, ↓resV, resG, List.map, List.headD, List.take, List.drop, ↓reduceIte, Nat.reduceEqDiff, Nat.reduceAdd, Nat.reduceSub, Nat.reduceLeDiff, reduceCtorEq, implies_true, ne_eq, ↓asrcV, Tag.cap, List.replicate, allSolid, GVal.solid, Nat.reduceBEq, Nat.reduceMul, Nat.reduceLT, List.length_map, List.length_range, splice, vcAi, ↓vcB, vcC, fbFz, e22, d0, dj, eS, ePj]
              repeat (refine ⟨by omega, ?_⟩)
              refine c62.then ?_ (by rfl)
              simp +contextual -implicitDefEqProofs (maxSteps := 2000000) (disch := omega) only [drawC, drawK, keepT, ↓lenV, binV, ↓unV, optV, ↓loadV, ↓indexAddrV, ↓boxV, ↓buildSliceV, ↓sliceV, ↓appendV, ↓srcV, bound, cutTag, hiTag, fillE, GVal.cells, grp, GVal.ofConst, ↓resV, resG, List.map, List.headD, List.take, List.drop, ↓reduceIte, Nat.reduceEqDiff, Nat.reduceAdd, Nat.reduceSub, Nat.reduceLeDiff, reduceCtorEq, implies_true, ne_eq, ↓asrcV, Tag.cap, List.replicate, allSolid, GVal.solid, Nat.reduceBEq, Nat.reduceMul, Nat.reduceLT, List.length_map, List.length_range, splice, vcAi, ↓vcB, vcC, fbFz, e22, d0, dj, eS, ePj]
              repeat (refine ⟨by omega, ?_⟩)
              refine c62x.then ?_ (by rfl)
              simp +contextual -implicitDefEqProofs (maxSteps := 2000000) (disch := omega) only [drawC, drawK, keepT, ↓lenV, binV, ↓unV, optV, ↓loadV, ↓indexAddrV, ↓boxV, ↓buildSliceV, ↓sliceV, ↓appendV, ↓srcV, bound, cutTag, hiTag, fillE, GVal.cells, grp, GVal.ofConst, ↓resV, resG, List.map, List.headD, List.take, List.drop, ↓reduceIte, Nat.reduceEqDiff, Nat.reduceAdd, Nat.reduceSub, Nat.reduceLeDiff, reduceCtorEq, implies_true, ne_eq, ↓asrcV, Tag.cap, List.replicate, allSolid, GVal.solid, Nat.reduceBEq, Nat.reduceMul, Nat.reduceLT, List.length_map, List.length_range, splice, vcAi, ↓vcB, vcC, fbFz, e22, d0, dj, eS, ePj]
              repeat (refine ⟨by omega, ?_⟩)
              intro u
              exact Into.at ⟨(j + 1, u), by show j + 1 ≤ _; omega⟩ (by show _ < _; simp; omega) ⟨[], by simp⟩ (by simp [WL, leG_self, leG_any, leG_int, hat, ints_append, ints_one])
          · rw [decide_eq_false hy] at c62
            rw [if_neg (fun q => hy q.1)] at hat
            simp +contextual -implicitDefEqProofs (maxSteps := 2000000) (disch := omega) only [drawC, drawK, keepT, ↓lenV, binV, ↓unV, optV, ↓loadV, ↓indexAddrV, ↓boxV, ↓buildSliceV, ↓sliceV, ↓appendV, ↓srcV, bound, cutTag, hiTag, fillE, GVal.cells, grp, GVal.ofConst, ↓resV, resG, List.map, List.headD, List.take, List.drop, ↓reduceIte, Nat.reduceEqDiff, Nat.reduceAdd, Nat.reduceSub, Nat.reduceLeDiff, reduceCtorEq, implies_true, ne_eq, ↓asrcV, Tag.cap, List.replicate, allSolid, GVal.solid, Nat.reduceBEq, Nat.reduceMul, Nat.reduceLT, List.length_map, List.length_range, splice, vcAi, ↓vcB, vcC, fbFz, e22, d0, dj, eS, ePj]
            repeat (refine ⟨by omega, ?_⟩)
            refine c62.then ?_ (by rfl)
            simp +contextual -implicitDefEqProofs (maxSteps := 2000000) (disch := omega) only [drawC, drawK, keepT, ↓lenV, binV, ↓unV, optV, ↓loadV, ↓indexAddrV, ↓boxV, ↓buildSliceV, ↓sliceV, ↓appendV, ↓srcV, bound, cutTag, hiTag, fillE, GVal.cells, grp, GVal.ofConst, ↓resV, resG, List.map, List.headD, List.take, List.drop, ↓reduceIte, Nat.reduceEqDiff, Nat.reduceAdd, Nat.reduceSub, Nat.reduceLeDiff, reduceCtorEq, implies_true, ne_eq, ↓asrcV, Tag.cap, List.replicate, allSolid, GVal.solid, Nat.reduceBEq, Nat.reduceMul, Nat.reduceLT, List.length_map, List.length_range, splice, vcAi, ↓vcB, vcC, fbFz, e22, d0, dj, eS, ePj]
            exact Into.at ⟨(j + 1, w), by show j + 1 ≤ _; omega⟩ (by show _ < _; simp; omega) ⟨[], by simp⟩ (by simp [WL, leG_self, leG_any, leG_int, hat])
        · have dj : ((j : Int) < (P.length : Int)) = False := eq_false (by omega)
          have hP : P.take j = P := List.take_of_length_le (by omega)
          rw [hP]
          simp +contextual -implicitDefEqProofs (maxSteps := 2000000) (disch := omega) only [drawC, drawK, keepT, ↓lenV, binV, ↓unV, optV, ↓loadV, ↓indexAddrV, ↓boxV, ↓buildSliceV, ↓sliceV, ↓appendV, ↓srcV, bound, cutTag, hiTag, fillE, GVal.cells, grp, GVal.ofConst, ↓resV, resG, List.map, List.headD, List.take, List.drop, ↓reduceIte, Nat.reduceEqDiff, Nat.reduceAdd, Nat.reduceSub, Nat.reduceLeDiff, reduceCtorEq, implies_true, ne_eq, ↓asrcV, Tag.cap, List.replicate, allSolid, GVal.solid, Nat.reduceBEq, Nat.reduceMul, Nat.reduceLT, List.length_map, List.length_range, splice, vcAi, ↓vcB, vcC, fbFz, e22, d0, dj]
          exact Into.at ⟨(k + 1, downStep out x P, w), by show k + 1 ≤ _; omega, hN⟩ (by show _ < _; simp; omega) ⟨[], by simp⟩ (by simp [WL, leG_self, leG_any, leG_int])
    · have d0 : ((k : Int) < (A.length : Int)) = False := eq_false (by omega)
      have ek : k = m.length + o.length := by omega
      rw [ek] at hI
      simp +contextual -implicitDefEqProofs (maxSteps := 2000000) (disch := omega) only [drawC, drawK, keepT, ↓lenV, binV, ↓unV, optV, ↓loadV, ↓indexAddrV, ↓boxV, ↓buildSliceV, ↓sliceV, ↓appendV, ↓srcV, bound, cutTag, hiTag, fillE, GVal.cells, grp, GVal.ofConst, ↓resV, resG, List.map, List.headD, List.take, List.drop, ↓reduceIte, Nat.reduceEqDiff, Nat.reduceAdd, Nat.reduceSub, Nat.reduceLeDiff, reduceCtorEq, implies_true, ne_eq, ↓asrcV, Tag.cap, List.replicate, allSolid, GVal.solid, Nat.reduceBEq, Nat.reduceMul, Nat.reduceLT, List.length_map, List.length_range, splice, vcA, ↓vcB, vcC, fbFz, e22, d0]
      refine (cO out v hI).then ?_ (by rfl)
      simp +contextual -implicitDefEqProofs (maxSteps := 2000000) (disch := omega) only [drawC, drawK, keepT, ↓lenV, binV, ↓unV, optV, ↓loadV, ↓indexAddrV, ↓boxV, ↓buildSliceV, ↓sliceV, ↓appendV, ↓srcV, bound, cutTag, hiTag, fillE, GVal.cells, grp, GVal.ofConst, ↓resV, resG, List.map, List.headD, List.take, List.drop, ↓reduceIte, Nat.reduceEqDiff, Nat.reduceAdd, Nat.reduceSub, Nat.reduceLeDiff, reduceCtorEq, implies_true, ne_eq, ↓asrcV, Tag.cap, List.replicate, allSolid, GVal.solid, Nat.reduceBEq, Nat.reduceMul, Nat.reduceLT, List.length_map, List.length_range, splice, vcA, ↓vcB, vcC, fbFz, e22]
theorem rBetween {m o : List (List Int)} (h : TOK m o) (a b : List Sp.S) (ta tb : Tag) (la : a.length ≤ 1000) (lb : b.length ≤ 1000) (oa : Sp.Ok a) (ob : Sp.Ok b) : GPure Tryz.prog 28 [.agg [.slice (tabG m) .none, .slice (tabG o) .none], .slice (spl a) ta, .slice (spl b) tb] (.slice (spl (idsP m o fun n => dP m o a n ∧ aP m o b n)) .none) := by
  have hl := h.len
  have cD := rDown h a ta la oa
  have cU := rUp h b tb lb ob
  have len := fun P => idsP_len m o P
  have okk := fun P => idsP_ok h P
  have cB := sBothR (idsP m o (dP m o a)) (idsP m o (aP m o b)) .none .none ⟨Nat.le_trans (len _) (by omega), Nat.le_trans (len _) (by omega)⟩ (okk _) (okk _)
  have e2 : Sp.bothS (idsP m o (dP m o a)) (idsP m o (aP m o b)) = idsP m o fun n => dP m o a n ∧ aP m o b n := idsP_eq (Sp.bothS_rt _ _) fun n => by
    rw [Sp.bothS_has, idsP_has, idsP_has]
    exact ⟨fun ⟨⟨x, y⟩, _, z⟩ => ⟨x, y, z⟩, fun ⟨x, y, z⟩ => ⟨⟨x, y⟩, x, z⟩⟩
  rw [e2] at cB
  refine h28.pure mixS (by simp) ?_
  simp only [gstart, s28, List.cons_append, List.nil_append, List.length_cons, List.length_nil, Nat.reduceAdd, Nat.reduceSub, List.replicate_succ, List.replicate_zero]
  simp +contextual -implicitDefEqProofs (maxSteps := 2000000) (disch := omega) only [drawC, drawK, keepT, optV, ↓loadV, ↓boxV, ↓sliceV, bound, cutTag, hiTag, GVal.cells, grp, GVal.ofConst, ↓resV, resG, List.map, List.headD, List.take, List.drop, ↓reduceIte, Nat.reduceEqDiff, Nat.reduceAdd, Nat.reduceSub, Nat.reduceLeDiff, reduceCtorEq, implies_true, ne_eq, Tag.cap, List.replicate, allSolid, GVal.solid, Nat.reduceBEq, Nat.reduceMul, Nat.reduceLT, List.length_map, List.length_range, splice, vcA, ↓vcB, vcC, fbFz, e28]
  refine cD.then ?_ (by rfl)
  simp +contextual -implicitDefEqProofs (maxSteps := 2000000) (disch := omega) only [drawC, drawK, keepT, optV, ↓loadV, ↓boxV, ↓sliceV, bound, cutTag, hiTag, GVal.cells, grp, GVal.ofConst, ↓resV, resG, List.map, List.headD, List.take, List.drop, ↓reduceIte, Nat.reduceEqDiff, Nat.reduceAdd, Nat.reduceSub, Nat.reduceLeDiff, reduceCtorEq, implies_true, ne_eq, Tag.cap, List.replicate, allSolid, GVal.solid, Nat.reduceBEq, Nat.reduceMul, Nat.reduceLT, List.length_map, List.length_range, splice, vcA, ↓vcB, vcC, fbFz, e28]
  refine ⟨⟨[], rfl⟩, ?_⟩
  refine cU.then ?_ (by rfl)
  simp +contextual -implicitDefEqProofs (maxSteps := 2000000) (disch := omega) only [drawC, drawK, keepT, optV, ↓loadV, ↓boxV, ↓sliceV, bound, cutTag, hiTag, GVal.cells, grp, GVal.ofConst, ↓resV, resG, List.map, List.headD, List.take, List.drop, ↓reduceIte, Nat.reduceEqDiff, Nat.reduceAdd, Nat.reduceSub, Nat.reduceLeDiff, reduceCtorEq, implies_true, ne_eq, Tag.cap, List.replicate, allSolid, GVal.solid, Nat.reduceBEq, Nat.reduceMul, Nat.reduceLT, List.length_map, List.length_range, splice, vcA, ↓vcB, vcC, fbFz, e28]
  refine cB.then ?_ (by rfl)
  simp +contextual -implicitDefEqProofs (maxSteps := 2000000) (disch := omega) only [drawC, drawK, keepT, optV, ↓loadV, ↓boxV, ↓sliceV, bound, cutTag, hiTag, GVal.cells, grp, GVal.ofConst, ↓resV, resG, List.map, List.headD, List.take, List.drop, ↓reduceIte, Nat.reduceEqDiff, Nat.reduceAdd, Nat.reduceSub, Nat.reduceLeDiff, reduceCtorEq, implies_true, ne_eq, Tag.cap, List.replicate, allSolid, GVal.solid, Nat.reduceBEq, Nat.reduceMul, Nat.reduceLT, List.length_map, List.length_range, splice, vcA, ↓vcB, vcC, fbFz, e28]
end Gv.Tryz
/- A line of commits: its table, its ancestors. -/
set_option linter.unusedVariables false
set_option linter.unusedSimpArgs false
set_option maxRecDepth 20000
set_option maxHeartbeats 8000000
namespace Gv.Tryz
open Go Gv Go.Proofs
def rowN (i : Nat) : List Int := if i = 0 then [] else [(i : Int) - 1]
def lineM (n : Nat) : List (List Int) := (List.range n).map rowN
theorem lineM_len (n : Nat) : (lineM n).length = n := by simp [lineM]
theorem lineM_at (n i : Nat) (h : i < n) : (lineM n).getD i [] = rowN i := by simp [lineM, List.getD, h]
def rowG (i : Nat) : List GVal := if i = 0 then [.slice [] .nil] else [.slice [[.int .i64 ((i : Int) - 1)]] .full]
def lineG (n : Nat) : List (List GVal) := (List.range n).map rowG
theorem lineG_len (n : Nat) : (lineG n).length = n := by simp [lineG]
theorem lineG_succ (n : Nat) : lineG (n + 1) = lineG n ++ [rowG n] := by simp [lineG, List.range_succ]
theorem all_lineG (n : Nat) : (∀ x ∈ lineG n, x.length = 1) = True := eq_true fun x hx => by
  obtain ⟨i, _, rfl⟩ := List.mem_map.1 hx
  unfold rowG; split <;> rfl
theorem line_hasI (n : Nat) (x : Int) : inT (lineM n) [] x ↔ 0 ≤ x ∧ x < n := by
  unfold inT hasI
  rw [lineM_len, decide_eq_true_iff]
  have : split = 1099511627776 := rfl
  simp; omega
theorem line_par {n : Nat} (hn : n ≤ 1000) {x : Int} (h : 0 ≤ x) (h2 : x < n) : parI (lineM n) [] x = if x = 0 then [] else [x - 1] := by
  rw [parI_m _ _ _ h (by rw [lineM_len]; exact h2), Int.sub_zero, lineM_at _ _ (by omega), rowN]
  by_cases e : x = 0
  · subst e; rfl
  · rw [if_neg e, if_neg (by omega)]
    congr 1; omega
theorem line_tok (n : Nat) (hn : n ≤ 1000) : TOK (lineM n) [] := by
  refine ⟨by rw [lineM_len]; simp; exact hn, ?_⟩
  unfold rightI
  rw [Bool.and_eq_true]
  refine ⟨okG_of _ _ fun k hk => ?_, rfl⟩
  rw [lineM_len] at hk
  rw [lineM_at _ _ hk]
  unfold rowN
  by_cases e : k = 0
  · rw [if_pos e]; simp
  · rw [if_neg e]
    refine ⟨fun p hp => ?_, by simp, by simp⟩
    simp at hp; subst hp
    refine ⟨by omega, by omega, ?_⟩
    exact (line_hasI n _).2 (by omega)
theorem line_leads {n : Nat} (hn : n ≤ 1000) : ∀ (k : Nat) (b : Int), 0 ≤ b - k → b < n → Leads (lineM n) [] (b - k) b := by
  intro k
  induction k with
  | zero => intro b _ _; simp; exact Leads.refl _ _ b
  | succ k ih =>
    intro b h1 h2
    refine Leads.trans ?_ (ih b (by omega) h2)
    refine Leads.par ?_ ((line_hasI n _).2 (by omega))
    rw [line_par hn (by omega) (by omega), if_neg (by omega)]; simp; omega
theorem line_anc {n : Nat} (hn : n ≤ 1000) (a : Int) (h0 : 0 ≤ a) (h1 : a < n) : idsP (lineM n) [] (aP (lineM n) [] [(a, a)]) = [(0, a)] := by
  symm
  refine idsP_eq ⟨Int.le_refl _, h0, trivial⟩ fun x => ?_
  have hs : ∀ y, Sp.has [(a, a)] y ↔ y = a := fun y => by unfold Sp.has; simp; omega
  rw [line_hasI]
  constructor
  · rintro ⟨p, hp, q0, q1, q2⟩
    simp at hp; subst hp
    simp only at q1 q2
    refine ⟨⟨q0, by omega⟩, a, (line_hasI n _).2 ⟨h0, h1⟩, (hs a).2 rfl, ?_⟩
    have := line_leads hn (a - x).toNat a (by omega) h1
    rwa [show a - ((a - x).toNat : Int) = x by omega] at this
  · rintro ⟨⟨q0, q1⟩, b, hb, hs2, hl⟩
    have := (hs b).1 hs2
    subst this
    have := leads_le (line_tok n hn) hl
    exact ⟨_, List.mem_singleton.2 rfl, q0, by simp only; omega, by simp only; omega⟩
theorem okS_max {m o : List (List Int)} : ∀ (l : List Seg) (n : Nat), okS m o n l → ∀ s ∈ l, s.par = [s.lo - 1] → s.lo = split
  | [], n, h, s, hs, _ => by simp at hs
  | a :: r, n, h, s, hs, hp => by
    simp only [okS] at h
    obtain ⟨_, _, _, _, h7, h8⟩ := h
    rcases List.mem_cons.1 hs with rfl | hs
    · exact h7 hp
    · exact okS_max r _ h8 s hs hp
theorem line_one {n : Nat} (hn : n ≤ 1000) {L : List (List Seg)} (h : DagOK (lineM n) [] L) : (L.getD 0 []).length ≤ 1 := by
  have hz : ∀ s ∈ L.getD 0 [], s.lo = 0 := fun s hs => by
    have f := h.flat s hs
    have hr := (line_hasI n _).1 (f.inn s.lo (Int.le_refl _) f.le)
    by_cases e : s.lo = 0
    · exact e
    · have := okS_max _ 0 h.oks s hs (by rw [f.par, line_par hn hr.1 hr.2, if_neg e])
      have : split = 1099511627776 := rfl
      omega
  by_cases c : (L.getD 0 []).length ≤ 1
  · exact c
  · have a1 := hz _ (seg_mem (l := L.getD 0 []) (k := 0) (by omega))
    have a2 := hz _ (seg_mem (l := L.getD 0 []) (k := 1) (by omega))
    have := (h.segs 0 (by have := h.len1; omega)).sorted.at_ 0 1 (by omega) (by omega)
    have := (h.flat _ (seg_mem (l := L.getD 0 []) (k := 0) (by omega))).le
    omega
theorem line_levels {size : Int} {l : List Seg} {L : List (List Seg)} (hl : l.length ≤ 1) (h : LevOK size l L) : L.length = 1 := by
  obtain ⟨h1, h2, h3, h4, h5⟩ := h
  by_cases c : L.length = 1
  · exact c
  · obtain ⟨u1, u2⟩ := h4 0 (by omega)
    rw [h3] at u1 u2
    have e : L.getD (0 + 1) [] = [] := List.length_eq_zero_iff.1 (by omega)
    rw [e] at u1
    cases u1 with
    | nil => simp at u2
theorem GLess_map {α : Type} (f g : α → List GVal) : ∀ (l : List α), (∀ x, GLes (f x) (g x)) → GLess (l.map f) (l.map g)
  | [], _ => trivial
  | a :: r, h => ⟨h a, GLess_map f g r h⟩
theorem line_frz (O : List GObj) (n k u : Nat) : frzS (.agg [.slice (tabG (lineM k)) .none, .slice [] .none]) (.agg [.slice (lineG k) (.tok n u), .slice [] .nil]) O := by
  have e : frzLL (Gv.frz O 6) (lineG k) = some (lineG k) := frzLL_same fun x hx => by
    obtain ⟨i, _, rfl⟩ := List.mem_map.1 hx
    unfold rowG
    split <;> rfl
  have e2 : Gv.frz O 7 (.slice (lineG k) (.tok n u)) = some (.slice (lineG k) .none) := by rw [Gv.frz, e]; rfl
  have e3 : Gv.frz O 7 (.slice [] .nil) = some (.slice [] .nil) := rfl
  refine ⟨8, .agg [.slice (lineG k) .none, .slice [] .nil], by rw [Gv.frz, frzL, e2, frzL, e3]; rfl, ?_⟩
  refine GLe.agg ⟨GLe.slice ?_, GLe.of _ _ (by rw [leG_none]), trivial⟩
  unfold lineG tabG lineM
  rw [List.map_map]
  refine GLess_map _ _ _ fun i => ?_
  simp only [Function.comp]
  unfold rowG rowN
  split
  · exact ⟨GLe.of _ _ (by rw [leG_none]; rfl), trivial⟩
  · exact ⟨GLe.of _ _ (by rw [leG_none]; rfl), trivial⟩
theorem aLine (n : Nat) (hn : n ≤ 1000) : GPure Tryz.prog 37 [.int .i64 n] (.agg [.slice (tabG (lineM n)) .none, .slice [] .none]) := by
  refine h37.pureS mixS (by simp) ?_
  simp only [gstart, s37, List.cons_append, List.nil_append, List.length_cons, List.length_nil, Nat.reduceAdd, Nat.reduceSub, List.replicate_succ, List.replicate_zero]
  simp +contextual -implicitDefEqProofs (maxSteps := 2000000) (disch := omega) only [binV, optV, ↓loadV, ↓storeV, ↓fieldAddrV, ↓allocV, ↓buildSliceV, ↓sliceV, ↓appendV, ↓srcV, bound, cutTag, hiTag, fillE, GVal.cells, grp, GVal.ofConst, ↓resV, resG, List.map, List.headD, List.take, List.drop, ↓reduceIte, Nat.reduceEqDiff, Nat.reduceAdd, Nat.reduceSub, Nat.reduceLeDiff, reduceCtorEq, implies_true, ne_eq, ↓asrcV, aggV, Tag.cap, List.replicate, allSolid, GVal.solid, Nat.reduceBEq, Nat.reduceMul, Nat.reduceLT, List.length_map, List.length_range, splice, vcA, ↓vcB, vcC, fbFz, e37]
  intro s0 s1
  refine vcSLoop_by (ι := { p : Nat × Nat // p.1 ≤ n }) (fun p => ⟨[.int .i64 n, .any, .ptr 0 s0 0 0, .ptr 1 s1 0 0, .int .i64 (p.1.1 : Nat)] ++ List.replicate 21 .any, [.row s0 2 [[.slice [] .nil, .slice [] .nil]], .row s1 2 [[.slice (lineG p.1.1) (.tok 2 p.1.2), .slice [] .nil]], .tok p.1.2 1]⟩) (fun p => n - p.1.1) ?_ ?_
  · refine Into.cellTok 1 0 1 [] (tg := .nil) rfl rfl rfl rfl ?_
    simp +contextual -implicitDefEqProofs (maxSteps := 2000000) (disch := omega) only [binV, optV, ↓loadV, ↓storeV, ↓fieldAddrV, ↓allocV, ↓buildSliceV, ↓sliceV, ↓appendV, ↓srcV, bound, cutTag, hiTag, fillE, GVal.cells, grp, GVal.ofConst, ↓resV, resG, List.map, List.headD, List.take, List.drop, ↓reduceIte, Nat.reduceEqDiff, Nat.reduceAdd, Nat.reduceSub, Nat.reduceLeDiff, reduceCtorEq, implies_true, ne_eq, ↓asrcV, aggV, Tag.cap, List.replicate, allSolid, GVal.solid, Nat.reduceBEq, Nat.reduceMul, Nat.reduceLT, List.length_map, List.length_range, splice, vcA, ↓vcB, vcC, fbFz, e37]
    intro u
    exact Into.first ⟨(0, u), by omega⟩ ⟨[], by simp [lineG]⟩ (by simp [WL, leG_self, leG_any])
  · rintro ⟨⟨k, u⟩, hk⟩
    change k ≤ n at hk
    by_cases h : k < n
    · have d0 : ((k : Int) < (n : Int)) = True := eq_true (by omega)
      have eN := lineG_succ k
      have lk := lineG_len k
      by_cases e : k = 0
      · subst e
        have d2 : ((0 : Int) < (n : Int)) = True := eq_true (by omega)
        simp +contextual -implicitDefEqProofs (maxSteps := 2000000) (disch := omega) only [binV, optV, ↓loadV, ↓storeV, ↓fieldAddrV, ↓allocV, ↓buildSliceV, ↓sliceV, ↓appendV, ↓srcV, bound, cutTag, hiTag, fillE, GVal.cells, grp, GVal.ofConst, ↓resV, resG, List.map, List.headD, List.take, List.drop, ↓reduceIte, Nat.reduceEqDiff, Nat.reduceAdd, Nat.reduceSub, Nat.reduceLeDiff, reduceCtorEq, implies_true, ne_eq, ↓asrcV, aggV, Tag.cap, List.replicate, allSolid, GVal.solid, Nat.reduceBEq, Nat.reduceMul, Nat.reduceLT, List.length_map, List.length_range, splice, vcA, ↓vcB, vcC, fbFz, e37, d0, d2, lk, all_lineG]
        intro v
        exact Into.at ⟨(1, v), by show 1 ≤ n; omega⟩ (by show n - 1 < n - 0; omega) ⟨[], by simp [eN, rowG]⟩ (by simp [WL, leG_self, leG_any, leG_int])
      · have d1 : ((k : Int) == 0) = false := by simpa using e
        simp +contextual -implicitDefEqProofs (maxSteps := 2000000) (disch := omega) only [binV, optV, ↓loadV, ↓storeV, ↓fieldAddrV, ↓allocV, ↓buildSliceV, ↓sliceV, ↓appendV, ↓srcV, bound, cutTag, hiTag, fillE, GVal.cells, grp, GVal.ofConst, ↓resV, resG, List.map, List.headD, List.take, List.drop, ↓reduceIte, Nat.reduceEqDiff, Nat.reduceAdd, Nat.reduceSub, Nat.reduceLeDiff, reduceCtorEq, implies_true, ne_eq, ↓asrcV, aggV, Tag.cap, List.replicate, allSolid, GVal.solid, Nat.reduceBEq, Nat.reduceMul, Nat.reduceLT, List.length_map, List.length_range, splice, vcA, ↓vcB, vcC, fbFz, e37, d0, d1, lk, all_lineG]
        refine ⟨by omega, by omega, fun v => ?_⟩
        exact Into.at ⟨(k + 1, v), by show k + 1 ≤ n; omega⟩ (by show n - (k + 1) < n - k; omega) ⟨[], by simp [eN, rowG, e]⟩ (by simp [WL, leG_self, leG_any, leG_int])
    · have d0 : ((k : Int) < (n : Int)) = False := eq_false (by omega)
      have e : k = n := by omega
      subst e
      simp +contextual -implicitDefEqProofs (maxSteps := 2000000) (disch := omega) only [binV, optV, ↓loadV, ↓storeV, ↓fieldAddrV, ↓allocV, ↓buildSliceV, ↓sliceV, ↓appendV, ↓srcV, bound, cutTag, hiTag, fillE, GVal.cells, grp, GVal.ofConst, ↓resV, resG, List.map, List.headD, List.take, List.drop, ↓reduceIte, Nat.reduceEqDiff, Nat.reduceAdd, Nat.reduceSub, Nat.reduceLeDiff, reduceCtorEq, implies_true, ne_eq, ↓asrcV, aggV, Tag.cap, List.replicate, allSolid, GVal.solid, Nat.reduceBEq, Nat.reduceMul, Nat.reduceLT, List.length_map, List.length_range, splice, vcA, ↓vcB, vcC, fbFz, e37, d0]
      exact line_frz _ 2 k u
theorem line_dag {n : Nat} (h1 : 1 ≤ n) (hn : n ≤ 1000) {size : Int} {L : List (List Seg)} (h : DagOK (lineM n) [] L) (hL : LevOK size (buildI (lineM n) []) L) : L.length * (L.getD 0 []).length ≤ 1 := by
  have a := line_one hn h
  have e : L.getD 0 [] = buildI (lineM n) [] := hL.2.2.1
  have b := line_levels (by rw [← e]; exact a) hL
  rw [b, Nat.one_mul]; exact a
theorem line_has {n : Nat} (a : Int) (h0 : 0 ≤ a) (h1 : a < n) : idsP (lineM n) [] (Sp.has [(a, a)]) ≠ [] := fun e => by
  have : Sp.has (idsP (lineM n) [] (Sp.has [(a, a)])) a := (idsP_has _ _ _ _).2 ⟨(line_hasI n a).2 ⟨h0, h1⟩, (a, a), by simp, h0, Int.le_refl _, Int.le_refl _⟩
  rw [e] at this; simp [Sp.has] at this
theorem frzB (O : List GObj) : frzTo (.bool true) (.bool true) O := ⟨1, .bool true, rfl, by rw [leA_bool]⟩
theorem aKnown : GPure Tryz.prog 10 [] (.bool true) := by
  have hT := line_tok 9 (by omega)
  refine GCalls.toPure ?_
  refine h10.calls mixS (by simp) ?_
  simp only [gstart, s10, List.cons_append, List.nil_append, List.length_cons, List.length_nil, Nat.reduceAdd, Nat.reduceSub, List.replicate_succ, List.replicate_zero]
  simp +contextual -implicitDefEqProofs (maxSteps := 2000000) (disch := omega) only [↓lenV, binV, ↓loadV, ↓indexAddrV, ↓buildV, ↓buildSliceV, fillG, fillE, place, GVal.cells, grp, GVal.ofConst, ↓resV, resG, List.map, List.headD, List.take, List.drop, ↓reduceIte, Nat.reduceEqDiff, Nat.reduceAdd, Nat.reduceSub, Nat.reduceLeDiff, reduceCtorEq, implies_true, ne_eq, aggV, Tag.cap, List.replicate, allSolid, GVal.solid, Nat.reduceBEq, Nat.reduceMul, Nat.reduceLT, List.length_map, List.length_range, splice, vcA, ↓vcB, vcC, fbFz, e10]
  refine (aLine 9 (by omega)).then ?_ (by rfl)
  simp +contextual -implicitDefEqProofs (maxSteps := 2000000) (disch := omega) only [↓lenV, binV, ↓loadV, ↓indexAddrV, ↓buildV, ↓buildSliceV, fillG, fillE, place, GVal.cells, grp, GVal.ofConst, ↓resV, resG, List.map, List.headD, List.take, List.drop, ↓reduceIte, Nat.reduceEqDiff, Nat.reduceAdd, Nat.reduceSub, Nat.reduceLeDiff, reduceCtorEq, implies_true, ne_eq, aggV, Tag.cap, List.replicate, allSolid, GVal.solid, Nat.reduceBEq, Nat.reduceMul, Nat.reduceLT, List.length_map, List.length_range, splice, vcA, ↓vcB, vcC, fbFz, e10]
  refine (aNew hT .none .none 3 (by omega)).mono ?_
  rintro g O' ⟨st, L, rfl, rfl, hD, hL⟩
  have hc := line_dag (by omega) (by omega) hD hL
  have cA := aAncestors hD [(8, 8)] .full (by simp) (fun q hq => by simp at hq; subst hq; simp only; omega) st 0 (by omega)
  rw [line_anc (by omega) 8 (by omega) (by omega)] at cA
  have hne := line_has (n := 9) 8 (by omega) (by omega)
  have cc : cellsEq [Sk.int, Sk.int] [.int .i64 0, .int .i64 8] [.int .i64 0, .int .i64 8] = some true := rfl
  simp +contextual -implicitDefEqProofs (maxSteps := 2000000) (disch := omega) only [↓lenV, binV, ↓loadV, ↓indexAddrV, ↓buildV, ↓buildSliceV, fillG, fillE, place, GVal.cells, grp, GVal.ofConst, ↓resV, resG, List.map, List.headD, List.take, List.drop, ↓reduceIte, Nat.reduceEqDiff, Nat.reduceAdd, Nat.reduceSub, Nat.reduceLeDiff, reduceCtorEq, implies_true, ne_eq, aggV, Tag.cap, List.replicate, allSolid, GVal.solid, Nat.reduceBEq, Nat.reduceMul, Nat.reduceLT, List.length_map, List.length_range, splice, vcA, ↓vcB, vcC, fbFz, e10]
  refine cA.mono ?_
  rintro g O' ⟨_, rfl, k, rfl, rfl, h1, h2, h3⟩
  have h4 := h3 hne
  have ek : k = 1 := by omega
  subst ek
  simp +contextual -implicitDefEqProofs (maxSteps := 2000000) (disch := omega) only [↓lenV, binV, ↓loadV, ↓indexAddrV, ↓buildV, ↓buildSliceV, fillG, fillE, place, GVal.cells, grp, GVal.ofConst, ↓resV, resG, List.map, List.headD, List.take, List.drop, ↓reduceIte, Nat.reduceEqDiff, Nat.reduceAdd, Nat.reduceSub, Nat.reduceLeDiff, reduceCtorEq, implies_true, ne_eq, aggV, Tag.cap, List.replicate, allSolid, GVal.solid, Nat.reduceBEq, Nat.reduceMul, Nat.reduceLT, List.length_map, List.length_range, splice, vcA, ↓vcB, vcC, fbFz, e10, spl_length, spl_one, spG, cc, Int.toNat_zero]
  refine ⟨by omega, by omega, ?_⟩
  refine (aSteps L (allN L) 1 st).mono ?_
  rintro g O' ⟨rfl, rfl⟩
  simp +contextual -implicitDefEqProofs (maxSteps := 2000000) (disch := omega) only [↓lenV, binV, ↓loadV, ↓indexAddrV, ↓buildV, ↓buildSliceV, fillG, fillE, place, GVal.cells, grp, GVal.ofConst, ↓resV, resG, List.map, List.headD, List.take, List.drop, ↓reduceIte, Nat.reduceEqDiff, Nat.reduceAdd, Nat.reduceSub, Nat.reduceLeDiff, reduceCtorEq, implies_true, ne_eq, aggV, Tag.cap, List.replicate, allSolid, GVal.solid, Nat.reduceBEq, Nat.reduceMul, Nat.reduceLT, List.length_map, List.length_range, splice, vcA, ↓vcB, vcC, fbFz, e10]
  refine ⟨fun _ => ?_, fun hh => absurd hh (by omega)⟩
  refine (aSteps L (allN L) 1 st).mono ?_
  rintro g O' ⟨rfl, rfl⟩
  simp +contextual -implicitDefEqProofs (maxSteps := 2000000) (disch := omega) only [↓lenV, binV, ↓loadV, ↓indexAddrV, ↓buildV, ↓buildSliceV, fillG, fillE, place, GVal.cells, grp, GVal.ofConst, ↓resV, resG, List.map, List.headD, List.take, List.drop, ↓reduceIte, Nat.reduceEqDiff, Nat.reduceAdd, Nat.reduceSub, Nat.reduceLeDiff, reduceCtorEq, implies_true, ne_eq, aggV, Tag.cap, List.replicate, allSolid, GVal.solid, Nat.reduceBEq, Nat.reduceMul, Nat.reduceLT, List.length_map, List.length_range, splice, vcA, ↓vcB, vcC, fbFz, e10]
  first | exact frzB _ | exact ⟨fun _ => frzB _, fun hh => absurd hh (by omega)⟩
end Gv.Tryz
