/- The law FlatGrows gives true. -/
import Derived.Test.YtcjiabpfahmjnaaP8
import Derived.Test.YtcjiabpfahmjnaaP6
import Derived.Test.YtcjiabpfahmjnaaProg
import Derived.KernelRfl
import Derived.Test.YtcjiabpfahmjnaaP7
set_option linter.unusedVariables false
set_option linter.unusedSimpArgs false
set_option maxRecDepth 20000
namespace Gv.Try
open Go Gv Go.Proofs

set_option maxHeartbeats 4000000 in
theorem spec18 (a b : Seg) (ha : a.par.length ≤ 17592186044416) : GPure Try.prog 18 [.agg (segG a), .agg (segG b)] (.bool (decide (a = b))) := by
  obtain ⟨lo, hi, par, root, head⟩ := a
  obtain ⟨lo', hi', par', root', head'⟩ := b
  have c17 := spec17 par par' .none .none ha
  simp only [segG]
  refine h18.pure mixS (by simp) ?_
  simp only [gstart, s18, List.cons_append, List.nil_append, List.length_cons, List.length_nil, Nat.reduceAdd, Nat.reduceSub, List.replicate_succ, List.replicate_zero]
  simp +contextual -implicitDefEqProofs (maxSteps := 2000000) (disch := omega) only [binV, ↓loadV, ↓fieldAddrV, ↓boxV, GVal.cells, grp, GVal.ofConst, ↓resV, resG, List.map, List.headD, List.take, List.drop, ↓reduceIte, Nat.reduceEqDiff, Nat.reduceAdd, Nat.reduceSub, Nat.reduceLeDiff, reduceCtorEq, implies_true, ne_eq, aggV, Tag.cap, List.replicate, allSolid, GVal.solid, Nat.reduceBEq, Nat.reduceMul, Nat.reduceLT, List.length_map, List.length_range, splice, vcA, ↓vcB, vcC, fbA, e18]
  simp only [Seg.mk.injEq]
  cases root <;> cases root' <;> cases head <;> cases head' <;> simp only [gif, decide_true, and_true, and_false, false_and, true_and, decide_false, reduceCtorEq, Bool.false_eq_true] <;> refine ⟨fun h1 => ⟨fun h2 => ?_, fun h2 => ?_⟩, fun h1 => ?_⟩
  all_goals first
    | rfl
    | (refine c17.then ?_
       simp +contextual -implicitDefEqProofs (maxSteps := 2000000) (disch := omega) only [binV, ↓loadV, ↓fieldAddrV, ↓boxV, GVal.cells, grp, GVal.ofConst, ↓resV, resG, List.map, List.headD, List.take, List.drop, ↓reduceIte, Nat.reduceEqDiff, Nat.reduceAdd, Nat.reduceSub, Nat.reduceLeDiff, reduceCtorEq, implies_true, ne_eq, aggV, Tag.cap, List.replicate, allSolid, GVal.solid, Nat.reduceBEq, Nat.reduceMul, Nat.reduceLT, List.length_map, List.length_range, splice, vcA, ↓vcB, vcC, fbA, e18]
       rw [Bool.eq_iff_iff]; simp [h1, h2])
    | (simp [h1, h2]; done)
    | (simp [h1]; done)

theorem ints_take' (l : List Int) (k : Nat) : (ints l).take k = ints (l.take k) := ints_take l k

/-- the loop that compares what was with what has grown -/
theorem gOK_len {a b : List Seg} {other : Bool} (h : gOK a b other) : b.length = a.length ∨ b.length = a.length + 1 := by
  rcases h with ⟨A, s, rfl, rfl⟩ | ⟨s, rfl, h⟩ <;> simp
theorem gOK_at {a b : List Seg} {other : Bool} (h : gOK a b other) (i : Nat) (hi : i < a.length) : (a.getD i default = b.getD i default ∧ ¬ (i = a.length - 1 ∧ b.length = a.length)) ∨
    (b.length = a.length ∧ i = a.length - 1 ∧ b.getD i default = { a.getD i default with hi := (a.getD i default).hi + 1 }) := by
  rcases h with ⟨A, s, rfl, rfl⟩ | ⟨s, rfl, h⟩
  · by_cases e : i < A.length
    · left
      rw [getD_append_left' _ _ _ _ e, getD_append_left' _ _ _ _ e]
      exact ⟨rfl, fun h => by simp at h; omega⟩
    · right
      have : i = A.length := by simp at hi; omega
      subst this
      rw [getD_append_last, getD_append_last]
      exact ⟨by simp, by simp, rfl⟩
  · left
    rw [getD_append_left' _ _ _ _ hi]
    exact ⟨rfl, fun h => by simp at h⟩
theorem okS_all {m o : List (List Int)} (hr : rightI m o = true) : ∀ (L : List Seg) (n : Nat), okS m o n L → ∀ s ∈ L, 0 ≤ s.lo ∧ s.lo ≤ s.hi ∧ s.hi ≤ split + 1000 ∧ s.par.length ≤ 4
  | [], _, _, s, hs => by simp at hs
  | a :: r, n, h, s, hs => by
    rw [okS] at h
    obtain ⟨⟨h1, h2, h3⟩, _, h4, _, _, h5⟩ := h
    rcases List.mem_cons.1 hs with rfl | hs
    · refine ⟨h1, h2, h3, ?_⟩
      rw [← h4]; exact okRow_len hr _
    · exact okS_all hr r _ h5 s hs
theorem build_segs (m o : List (List Int)) (hm : m.length ≤ 1000) (ho : o.length ≤ 1000) (hr : rightI m o = true) (i : Nat) :
    0 ≤ ((buildI m o).getD i default).lo ∧ ((buildI m o).getD i default).lo ≤ ((buildI m o).getD i default).hi ∧ ((buildI m o).getD i default).hi ≤ split + 1000 ∧ ((buildI m o).getD i default).par.length ≤ 4 := by
  by_cases h : i < (buildI m o).length
  · have e : (buildI m o).getD i default = (buildI m o)[i] := by simp [List.getD, h]
    rw [e]
    exact okS_all hr _ 0 (build_okS m o hm ho hr) _ (List.getElem_mem h)
  · have e : (buildI m o).getD i default = default := by simp [List.getD, List.getElem?_eq_none (Nat.le_of_not_lt h)]
    rw [e]
    exact ⟨by decide, by decide, by decide, by decide⟩
theorem gOK_pos {a b : List Seg} {other : Bool} (h : gOK a b other) (hl : b.length = a.length) : 0 < a.length := by
  rcases h with ⟨A, s, rfl, rfl⟩ | ⟨s, rfl, h⟩
  · simp
  · simp at hl
theorem gOK_end {a b : List Seg} {other : Bool} (h : gOK a b other) (hl : b.length = a.length + 1) : (b.getD a.length default).lo = (b.getD a.length default).hi ∧ ((b.getD a.length default).lo < split ∨ other = true) := by
  rcases h with ⟨A, s, rfl, rfl⟩ | ⟨s, rfl, h⟩
  · simp at hl
  · rw [getD_append_last]; exact h

set_option maxHeartbeats 4000000 in
theorem spec4f (x y : List Int) (n : Int) (c15 : GPure Try.prog 15 [] (.bool true)) :
    GPure Try.prog 4 [.agg [.slice (ints x) .none, .slice (ints y) .none], .bool false, .int .i64 n] (.bool true) := by
  have hX : (x.take (min (x.length : Int) 24).toNat).length ≤ 24 := by rw [List.length_take]; omega
  have hmin : 0 ≤ min (x.length : Int) 24 ∧ min (x.length : Int) 24 ≤ x.length := by omega
  refine h4.pure mixS (by simp) ?_
  simp only [gstart, s4, List.cons_append, List.nil_append, List.length_cons, List.length_nil, Nat.reduceAdd, Nat.reduceSub, List.replicate_succ, List.replicate_zero]
  simp +contextual -implicitDefEqProofs (maxSteps := 2000000) (disch := omega) only [drawC, ↓lenV, binV, ↓unV, optV, ↓loadV, ↓storeV, ↓fieldAddrV, ↓indexAddrV, ↓allocV, ↓boxV, ↓buildSliceV, ↓sliceV, ↓appendV, ↓srcV, ↓minV, bound, cutTag, hiTag, fillE, GVal.cells, grp, GVal.ofConst, ↓resV, resG, List.map, List.headD, List.take, List.drop, ↓reduceIte, Nat.reduceEqDiff, Nat.reduceAdd, Nat.reduceSub, Nat.reduceLeDiff, reduceCtorEq, implies_true, ne_eq, ↓asrcV, aggV, Tag.cap, List.replicate, allSolid, GVal.solid, Nat.reduceBEq, Nat.reduceMul, Nat.reduceLT, List.length_map, List.length_range, splice, vcA, ↓vcB, vcC, fbA, e4, minG, ints_take, Int.toNat_zero]
  generalize x.take (min (x.length : Int) 24).toNat = X at *
  intro st0 st1
  refine ⟨by omega, hmin.1, hmin.2, by omega, by omega, fun st2 => ⟨by omega, by omega, fun st3 => ⟨by omega, hmin.1, hmin.2, ?_⟩⟩⟩
  refine (spec11 X [] .none .nil).then ?_
  have l1 := tabM_len X
  have l2 := tabO_len X []
  have l3 := tabM_len (X ++ [n])
  have l4 := tabO_len (X ++ [n]) []
  have r1 := raw_right X []
  have r2 := raw_right (X ++ [n]) []
  have hg := grows_m X n hX
  have s11 : GPure Try.prog 11 [.agg [.slice (ints X ++ [[.int .i64 n]]) (.tok 2 st3), .slice [] .nil]] (.agg [.slice (tabG (tabM (X ++ [n]))) .none, .slice (tabG (tabO (X ++ [n]) [])) .none]) := by
    have := spec11 (X ++ [n]) [] (.tok 2 st3) .nil
    rwa [ints_append] at this
  generalize tabM X = m at *
  generalize tabO X [] = o at *
  generalize tabM (X ++ [n]) = m' at *
  generalize tabO (X ++ [n]) [] = o' at *
  have len : ∀ a b : List (List Int), rightI a b = true → (∀ p ∈ a, p.length ≤ 17592186044416) ∧ (∀ p ∈ b, p.length ≤ 17592186044416) := fun a b h => by
    rw [rightI, Bool.and_eq_true] at h
    exact ⟨fun p hp => by have := okG_row h.1 p hp; omega, fun p hp => by have := okG_row h.2 p hp; omega⟩
  simp +contextual -implicitDefEqProofs (maxSteps := 2000000) (disch := omega) only [drawC, ↓lenV, binV, ↓unV, optV, ↓loadV, ↓storeV, ↓fieldAddrV, ↓indexAddrV, ↓allocV, ↓boxV, ↓buildSliceV, ↓sliceV, ↓appendV, ↓srcV, ↓minV, bound, cutTag, hiTag, fillE, GVal.cells, grp, GVal.ofConst, ↓resV, resG, List.map, List.headD, List.take, List.drop, ↓reduceIte, Nat.reduceEqDiff, Nat.reduceAdd, Nat.reduceSub, Nat.reduceLeDiff, reduceCtorEq, implies_true, ne_eq, ↓asrcV, aggV, Tag.cap, List.replicate, allSolid, GVal.solid, Nat.reduceBEq, Nat.reduceMul, Nat.reduceLT, List.length_map, List.length_range, splice, vcA, ↓vcB, vcC, fbA, e4]
  refine (spec13 (tabG m) (tabG o) .none .none).then ?_
  simp +contextual -implicitDefEqProofs (maxSteps := 2000000) (disch := omega) only [drawC, ↓lenV, binV, ↓unV, optV, ↓loadV, ↓storeV, ↓fieldAddrV, ↓indexAddrV, ↓allocV, ↓boxV, ↓buildSliceV, ↓sliceV, ↓appendV, ↓srcV, ↓minV, bound, cutTag, hiTag, fillE, GVal.cells, grp, GVal.ofConst, ↓resV, resG, List.map, List.headD, List.take, List.drop, ↓reduceIte, Nat.reduceEqDiff, Nat.reduceAdd, Nat.reduceSub, Nat.reduceLeDiff, reduceCtorEq, implies_true, ne_eq, ↓asrcV, aggV, Tag.cap, List.replicate, allSolid, GVal.solid, Nat.reduceBEq, Nat.reduceMul, Nat.reduceLT, List.length_map, List.length_range, splice, vcA, ↓vcB, vcC, fbA, e4]
  refine (spec12 m o .none .none (by omega) (by omega) (len _ _ r1).1 (len _ _ r1).2).then ?_
  simp +contextual -implicitDefEqProofs (maxSteps := 2000000) (disch := omega) only [drawC, ↓lenV, binV, ↓unV, optV, ↓loadV, ↓storeV, ↓fieldAddrV, ↓indexAddrV, ↓allocV, ↓boxV, ↓buildSliceV, ↓sliceV, ↓appendV, ↓srcV, ↓minV, bound, cutTag, hiTag, fillE, GVal.cells, grp, GVal.ofConst, ↓resV, resG, List.map, List.headD, List.take, List.drop, ↓reduceIte, Nat.reduceEqDiff, Nat.reduceAdd, Nat.reduceSub, Nat.reduceLeDiff, reduceCtorEq, implies_true, ne_eq, ↓asrcV, aggV, Tag.cap, List.replicate, allSolid, GVal.solid, Nat.reduceBEq, Nat.reduceMul, Nat.reduceLT, List.length_map, List.length_range, splice, vcA, ↓vcB, vcC, fbA, e4]
  refine s11.then ?_
  simp +contextual -implicitDefEqProofs (maxSteps := 2000000) (disch := omega) only [drawC, ↓lenV, binV, ↓unV, optV, ↓loadV, ↓storeV, ↓fieldAddrV, ↓indexAddrV, ↓allocV, ↓boxV, ↓buildSliceV, ↓sliceV, ↓appendV, ↓srcV, ↓minV, bound, cutTag, hiTag, fillE, GVal.cells, grp, GVal.ofConst, ↓resV, resG, List.map, List.headD, List.take, List.drop, ↓reduceIte, Nat.reduceEqDiff, Nat.reduceAdd, Nat.reduceSub, Nat.reduceLeDiff, reduceCtorEq, implies_true, ne_eq, ↓asrcV, aggV, Tag.cap, List.replicate, allSolid, GVal.solid, Nat.reduceBEq, Nat.reduceMul, Nat.reduceLT, List.length_map, List.length_range, splice, vcA, ↓vcB, vcC, fbA, e4]
  refine (spec13 (tabG m') (tabG o') .none .none).then ?_
  simp +contextual -implicitDefEqProofs (maxSteps := 2000000) (disch := omega) only [drawC, ↓lenV, binV, ↓unV, optV, ↓loadV, ↓storeV, ↓fieldAddrV, ↓indexAddrV, ↓allocV, ↓boxV, ↓buildSliceV, ↓sliceV, ↓appendV, ↓srcV, ↓minV, bound, cutTag, hiTag, fillE, GVal.cells, grp, GVal.ofConst, ↓resV, resG, List.map, List.headD, List.take, List.drop, ↓reduceIte, Nat.reduceEqDiff, Nat.reduceAdd, Nat.reduceSub, Nat.reduceLeDiff, reduceCtorEq, implies_true, ne_eq, ↓asrcV, aggV, Tag.cap, List.replicate, allSolid, GVal.solid, Nat.reduceBEq, Nat.reduceMul, Nat.reduceLT, List.length_map, List.length_range, splice, vcA, ↓vcB, vcC, fbA, e4]
  refine (spec12 m' o' .none .none (by omega) (by omega) (len _ _ r2).1 (len _ _ r2).2).then ?_
  simp +contextual -implicitDefEqProofs (maxSteps := 2000000) (disch := omega) only [drawC, ↓lenV, binV, ↓unV, optV, ↓loadV, ↓storeV, ↓fieldAddrV, ↓indexAddrV, ↓allocV, ↓boxV, ↓buildSliceV, ↓sliceV, ↓appendV, ↓srcV, ↓minV, bound, cutTag, hiTag, fillE, GVal.cells, grp, GVal.ofConst, ↓resV, resG, List.map, List.headD, List.take, List.drop, ↓reduceIte, Nat.reduceEqDiff, Nat.reduceAdd, Nat.reduceSub, Nat.reduceLeDiff, reduceCtorEq, implies_true, ne_eq, ↓asrcV, aggV, Tag.cap, List.replicate, allSolid, GVal.solid, Nat.reduceBEq, Nat.reduceMul, Nat.reduceLT, List.length_map, List.length_range, splice, vcA, ↓vcB, vcC, fbA, e4]
  refine c15.then ?_
  have b1 : (buildI m o).length ≤ 1000 := by
    have q1 := (lrun_len 0 m m.length).1
    have q2 := (lrun_len split o o.length).1
    rw [buildI, if_pos r1, List.length_append, linesI, linesI]; omega
  have hseg := build_segs m o (by omega) (by omega) r1
  generalize buildI m o = a at *
  generalize buildI m' o' = b at *
  simp +contextual -implicitDefEqProofs (maxSteps := 2000000) (disch := omega) only [drawC, ↓lenV, binV, ↓unV, optV, ↓loadV, ↓storeV, ↓fieldAddrV, ↓indexAddrV, ↓allocV, ↓boxV, ↓buildSliceV, ↓sliceV, ↓appendV, ↓srcV, ↓minV, bound, cutTag, hiTag, fillE, GVal.cells, grp, GVal.ofConst, ↓resV, resG, List.map, List.headD, List.take, List.drop, ↓reduceIte, Nat.reduceEqDiff, Nat.reduceAdd, Nat.reduceSub, Nat.reduceLeDiff, reduceCtorEq, implies_true, ne_eq, ↓asrcV, aggV, Tag.cap, List.replicate, allSolid, GVal.solid, Nat.reduceBEq, Nat.reduceMul, Nat.reduceLT, List.length_map, List.length_range, splice, vcA, ↓vcB, vcC, fbA, e4, segsG_length]
  have hl := gOK_len hg
  refine ⟨fun h => absurd h (by omega), fun h => ⟨fun h => absurd h (by omega), fun h => ?_⟩⟩
  refine vcSLoop_by (ι := { i : Nat // i ≤ a.length ∧ (b.length = a.length → i < a.length) }) (fun i => ⟨[.any, .bool false, .any, .any, .any, .any, .any, .any, .slice (segsG a) .none, .slice (segsG b) .none, .int .i64 (i.1 : Nat)] ++ List.replicate 186 .any, []⟩) (fun i => a.length - i.1) ?_ ?_
  · exact Into.first ⟨0, by omega, gOK_pos hg⟩ ⟨_, rfl⟩ (by simp [WL, leG_self, leG_any])
  · rintro ⟨i, hi, hi2⟩
    have hs : split = 1099511627776 := rfl
    have hC : b.length = a.length → 0 < a.length → b.getD (a.length - 1) default = { a.getD (a.length - 1) default with hi := (a.getD (a.length - 1) default).hi + 1 } := fun h1 h2 => by
      rcases gOK_at hg (a.length - 1) (by omega) with ⟨_, h⟩ | ⟨_, _, h⟩
      · exact absurd ⟨rfl, h1⟩ h
      · exact h
    have hD : ∀ i, i < a.length → ¬ (i = a.length - 1 ∧ b.length = a.length) → b.getD i default = a.getD i default := fun i h1 h2 => by
      rcases gOK_at hg i h1 with ⟨h, _⟩ | ⟨h3, h4, _⟩
      · exact h.symm
      · exact absurd ⟨h4, h3⟩ h2
    have hN : ∀ i, norm .i64 ((a.getD i default).hi + 1) = (a.getD i default).hi + 1 := fun i => by
      have := hseg i
      exact norm_i64 (by omega)
    have c18 : ∀ i, GPure Try.prog 18 [.agg (segG (a.getD i default)), .agg (segG (a.getD i default))] (.bool true) := fun i => by
      have := spec18 (a.getD i default) (a.getD i default) (by have := hseg i; omega)
      rwa [decide_eq_true rfl] at this
    have hE : ∀ n : Nat, ((n : Int) + 1 - 1).toNat = n := fun n => by omega
    simp +contextual -implicitDefEqProofs (maxSteps := 2000000) (disch := omega) only [drawC, ↓gif_true, ↓gif_false, ↓gif_dec, ↓gif_not, ↓gif_eq, ↓gif_ne, ↓op_move, ↓op_assign, ↓op_binOp, ↓op_unOp, ↓op_convert, ↓op_load, ↓op_store, ↓op_fieldAddr, ↓op_field, ↓op_indexAddr, ↓op_index, ↓op_extract, ↓op_alloc, ↓op_lookup, ↓op_mapUpdate, ↓op_insert, ↓op_makeMap, ↓op_box, ↓op_build, ↓op_buildSlice, ↓op_slice, ↓op_nilCheck, ↓op_makeInterface, ↓op_makeFunc, ↓op_pick, ↓op_len, ↓op_cap, ↓op_min, ↓op_max, ↓op_delete, ↓op_append, ↓op_funcI, ↓op_closureI, ↓ibin_add, ↓ibin_sub, ↓ibin_mul, ↓ibin_quo, ↓ibin_rem, ↓ibin_eql, ↓ibin_neq, ↓ibin_lss, ↓ibin_leq, ↓ibin_gtr, ↓ibin_geq, ↓lenV, binV, ↓unV, optV, ↓loadV, ↓storeV, ↓fieldAddrV, ↓indexAddrV, ↓ext_0, ↓ext_1, ↓ext_2, ↓ext_3, ↓gif_neb, ↓allocV, ↓boxV, ↓buildSliceV, ↓sliceV, ↓appendV, ↓srcV, ↓minV, bound, cutTag, hiTag, fillE, GVal.cells, grp, GVal.ofConst, ↓thenQ_n, ↓thenQ_r, ↓thenQ_e, ↓blockQ_n, ↓blockQ_r, ↓blockQ_e, ↓retQ_n, ↓retQ_r, ↓resV, resG, List.map, List.headD, List.take, List.drop, ↓reduceIte, Nat.reduceEqDiff, Nat.reduceAdd, Nat.reduceSub, Nat.reduceLeDiff, reduceCtorEq, implies_true, ne_eq, ↓asrcV, aggV, Tag.cap, List.replicate, allSolid, GVal.solid, Nat.reduceBEq, Nat.reduceMul, Nat.reduceLT, List.length_map, List.length_range, splice, vcA, vcC, fbA, e4, segsG_length, segsG_at, segG, toNat_pred, hC, hD, hN, beq_self_eq_true, hE]
    refine ⟨fun h1 => ⟨fun h2 => ⟨fun h3 => ?_, fun h3 => ⟨by omega, by omega, by omega, by omega, (c18 _).then ?_⟩⟩, fun h2 => ⟨by omega, by omega, by omega, (c18 _).then ?_⟩⟩, fun h1 => ⟨fun h2 => ?_, fun h2 => ?_⟩⟩
    · (repeat' refine ⟨?_, ?_⟩) <;> omega
    · simp +contextual -implicitDefEqProofs (maxSteps := 2000000) (disch := omega) only [drawC, ↓lenV, binV, ↓unV, optV, ↓loadV, ↓storeV, ↓fieldAddrV, ↓indexAddrV, ↓allocV, ↓boxV, ↓buildSliceV, ↓sliceV, ↓appendV, ↓srcV, ↓minV, bound, cutTag, hiTag, fillE, GVal.cells, grp, GVal.ofConst, ↓resV, resG, List.map, List.headD, List.take, List.drop, ↓reduceIte, Nat.reduceEqDiff, Nat.reduceAdd, Nat.reduceSub, Nat.reduceLeDiff, reduceCtorEq, implies_true, ne_eq, ↓asrcV, aggV, Tag.cap, List.replicate, allSolid, GVal.solid, Nat.reduceBEq, Nat.reduceMul, Nat.reduceLT, List.length_map, List.length_range, splice, vcA, ↓vcB, vcC, fbA, e4]
      exact Into.at ⟨i + 1, by omega, by omega⟩ (by show _ < _; simp; omega) ⟨_, rfl⟩ (by simp [WL, leG_self, leG_any, leG_int] <;> omega)
    · simp +contextual -implicitDefEqProofs (maxSteps := 2000000) (disch := omega) only [drawC, ↓lenV, binV, ↓unV, optV, ↓loadV, ↓storeV, ↓fieldAddrV, ↓indexAddrV, ↓allocV, ↓boxV, ↓buildSliceV, ↓sliceV, ↓appendV, ↓srcV, ↓minV, bound, cutTag, hiTag, fillE, GVal.cells, grp, GVal.ofConst, ↓resV, resG, List.map, List.headD, List.take, List.drop, ↓reduceIte, Nat.reduceEqDiff, Nat.reduceAdd, Nat.reduceSub, Nat.reduceLeDiff, reduceCtorEq, implies_true, ne_eq, ↓asrcV, aggV, Tag.cap, List.replicate, allSolid, GVal.solid, Nat.reduceBEq, Nat.reduceMul, Nat.reduceLT, List.length_map, List.length_range, splice, vcA, ↓vcB, vcC, fbA, e4]
      exact Into.at ⟨i + 1, by omega, by omega⟩ (by show _ < _; simp; omega) ⟨_, rfl⟩ (by simp [WL, leG_self, leG_any, leG_int])
    · have hend := gOK_end hg (by omega)
      refine ⟨by omega, by omega, by omega, by omega, fun h3 => ⟨by omega, by omega, fun h4 => ?_⟩, fun h3 => h3 hend.1⟩
      rcases hend.2 with h5 | h5
      · omega
      · cases h5
    · omega

set_option maxHeartbeats 4000000 in
theorem spec4t (x y : List Int) (n : Int) (c15 : GPure Try.prog 15 [] (.bool true)) :
    GPure Try.prog 4 [.agg [.slice (ints x) .none, .slice (ints y) .none], .bool true, .int .i64 n] (.bool true) := by
  have hX : (y.take (min (y.length : Int) 24).toNat).length ≤ 24 := by rw [List.length_take]; omega
  have hmin : 0 ≤ min (y.length : Int) 24 ∧ min (y.length : Int) 24 ≤ y.length := by omega
  refine h4.pure mixS (by simp) ?_
  simp only [gstart, s4, List.cons_append, List.nil_append, List.length_cons, List.length_nil, Nat.reduceAdd, Nat.reduceSub, List.replicate_succ, List.replicate_zero]
  simp +contextual -implicitDefEqProofs (maxSteps := 2000000) (disch := omega) only [drawC, ↓lenV, binV, ↓unV, optV, ↓loadV, ↓storeV, ↓fieldAddrV, ↓indexAddrV, ↓allocV, ↓boxV, ↓buildSliceV, ↓sliceV, ↓appendV, ↓srcV, ↓minV, bound, cutTag, hiTag, fillE, GVal.cells, grp, GVal.ofConst, ↓resV, resG, List.map, List.headD, List.take, List.drop, ↓reduceIte, Nat.reduceEqDiff, Nat.reduceAdd, Nat.reduceSub, Nat.reduceLeDiff, reduceCtorEq, implies_true, ne_eq, ↓asrcV, aggV, Tag.cap, List.replicate, allSolid, GVal.solid, Nat.reduceBEq, Nat.reduceMul, Nat.reduceLT, List.length_map, List.length_range, splice, vcA, ↓vcB, vcC, fbA, e4, minG, ints_take, Int.toNat_zero]
  generalize y.take (min (y.length : Int) 24).toNat = X at *
  intro st0 st1
  refine ⟨by omega, hmin.1, hmin.2, by omega, by omega, fun st2 => ⟨by omega, by omega, fun st3 => ⟨by omega, hmin.1, hmin.2, ?_⟩⟩⟩
  refine (spec11 x X .none .none).then ?_
  have l1 := tabM_len x
  have l2 := tabO_len x X
  have l3 := True.intro
  have l4 := tabO_len x (X ++ [n])
  have r1 := raw_right x X
  have r2 := raw_right x (X ++ [n])
  have hg := grows_o x X n hX
  have s11 : GPure Try.prog 11 [.agg [.slice (ints x) .none, .slice (ints X ++ [[.int .i64 n]]) (.tok 2 st3)]] (.agg [.slice (tabG (tabM x)) .none, .slice (tabG (tabO x (X ++ [n]))) .none]) := by
    have := spec11 x (X ++ [n]) .none (.tok 2 st3)
    rwa [ints_append] at this
  generalize tabO x X = o at *
  generalize tabO x (X ++ [n]) = o' at *
  generalize tabM x = m at *
  have len : ∀ a b : List (List Int), rightI a b = true → (∀ p ∈ a, p.length ≤ 17592186044416) ∧ (∀ p ∈ b, p.length ≤ 17592186044416) := fun a b h => by
    rw [rightI, Bool.and_eq_true] at h
    exact ⟨fun p hp => by have := okG_row h.1 p hp; omega, fun p hp => by have := okG_row h.2 p hp; omega⟩
  simp +contextual -implicitDefEqProofs (maxSteps := 2000000) (disch := omega) only [drawC, ↓lenV, binV, ↓unV, optV, ↓loadV, ↓storeV, ↓fieldAddrV, ↓indexAddrV, ↓allocV, ↓boxV, ↓buildSliceV, ↓sliceV, ↓appendV, ↓srcV, ↓minV, bound, cutTag, hiTag, fillE, GVal.cells, grp, GVal.ofConst, ↓resV, resG, List.map, List.headD, List.take, List.drop, ↓reduceIte, Nat.reduceEqDiff, Nat.reduceAdd, Nat.reduceSub, Nat.reduceLeDiff, reduceCtorEq, implies_true, ne_eq, ↓asrcV, aggV, Tag.cap, List.replicate, allSolid, GVal.solid, Nat.reduceBEq, Nat.reduceMul, Nat.reduceLT, List.length_map, List.length_range, splice, vcA, ↓vcB, vcC, fbA, e4]
  refine (spec13 (tabG m) (tabG o) .none .none).then ?_
  simp +contextual -implicitDefEqProofs (maxSteps := 2000000) (disch := omega) only [drawC, ↓lenV, binV, ↓unV, optV, ↓loadV, ↓storeV, ↓fieldAddrV, ↓indexAddrV, ↓allocV, ↓boxV, ↓buildSliceV, ↓sliceV, ↓appendV, ↓srcV, ↓minV, bound, cutTag, hiTag, fillE, GVal.cells, grp, GVal.ofConst, ↓resV, resG, List.map, List.headD, List.take, List.drop, ↓reduceIte, Nat.reduceEqDiff, Nat.reduceAdd, Nat.reduceSub, Nat.reduceLeDiff, reduceCtorEq, implies_true, ne_eq, ↓asrcV, aggV, Tag.cap, List.replicate, allSolid, GVal.solid, Nat.reduceBEq, Nat.reduceMul, Nat.reduceLT, List.length_map, List.length_range, splice, vcA, ↓vcB, vcC, fbA, e4]
  refine (spec12 m o .none .none (by omega) (by omega) (len _ _ r1).1 (len _ _ r1).2).then ?_
  simp +contextual -implicitDefEqProofs (maxSteps := 2000000) (disch := omega) only [drawC, ↓lenV, binV, ↓unV, optV, ↓loadV, ↓storeV, ↓fieldAddrV, ↓indexAddrV, ↓allocV, ↓boxV, ↓buildSliceV, ↓sliceV, ↓appendV, ↓srcV, ↓minV, bound, cutTag, hiTag, fillE, GVal.cells, grp, GVal.ofConst, ↓resV, resG, List.map, List.headD, List.take, List.drop, ↓reduceIte, Nat.reduceEqDiff, Nat.reduceAdd, Nat.reduceSub, Nat.reduceLeDiff, reduceCtorEq, implies_true, ne_eq, ↓asrcV, aggV, Tag.cap, List.replicate, allSolid, GVal.solid, Nat.reduceBEq, Nat.reduceMul, Nat.reduceLT, List.length_map, List.length_range, splice, vcA, ↓vcB, vcC, fbA, e4]
  refine s11.then ?_
  simp +contextual -implicitDefEqProofs (maxSteps := 2000000) (disch := omega) only [drawC, ↓lenV, binV, ↓unV, optV, ↓loadV, ↓storeV, ↓fieldAddrV, ↓indexAddrV, ↓allocV, ↓boxV, ↓buildSliceV, ↓sliceV, ↓appendV, ↓srcV, ↓minV, bound, cutTag, hiTag, fillE, GVal.cells, grp, GVal.ofConst, ↓resV, resG, List.map, List.headD, List.take, List.drop, ↓reduceIte, Nat.reduceEqDiff, Nat.reduceAdd, Nat.reduceSub, Nat.reduceLeDiff, reduceCtorEq, implies_true, ne_eq, ↓asrcV, aggV, Tag.cap, List.replicate, allSolid, GVal.solid, Nat.reduceBEq, Nat.reduceMul, Nat.reduceLT, List.length_map, List.length_range, splice, vcA, ↓vcB, vcC, fbA, e4]
  refine (spec13 (tabG m) (tabG o') .none .none).then ?_
  simp +contextual -implicitDefEqProofs (maxSteps := 2000000) (disch := omega) only [drawC, ↓lenV, binV, ↓unV, optV, ↓loadV, ↓storeV, ↓fieldAddrV, ↓indexAddrV, ↓allocV, ↓boxV, ↓buildSliceV, ↓sliceV, ↓appendV, ↓srcV, ↓minV, bound, cutTag, hiTag, fillE, GVal.cells, grp, GVal.ofConst, ↓resV, resG, List.map, List.headD, List.take, List.drop, ↓reduceIte, Nat.reduceEqDiff, Nat.reduceAdd, Nat.reduceSub, Nat.reduceLeDiff, reduceCtorEq, implies_true, ne_eq, ↓asrcV, aggV, Tag.cap, List.replicate, allSolid, GVal.solid, Nat.reduceBEq, Nat.reduceMul, Nat.reduceLT, List.length_map, List.length_range, splice, vcA, ↓vcB, vcC, fbA, e4]
  refine (spec12 m o' .none .none (by omega) (by omega) (len _ _ r2).1 (len _ _ r2).2).then ?_
  simp +contextual -implicitDefEqProofs (maxSteps := 2000000) (disch := omega) only [drawC, ↓lenV, binV, ↓unV, optV, ↓loadV, ↓storeV, ↓fieldAddrV, ↓indexAddrV, ↓allocV, ↓boxV, ↓buildSliceV, ↓sliceV, ↓appendV, ↓srcV, ↓minV, bound, cutTag, hiTag, fillE, GVal.cells, grp, GVal.ofConst, ↓resV, resG, List.map, List.headD, List.take, List.drop, ↓reduceIte, Nat.reduceEqDiff, Nat.reduceAdd, Nat.reduceSub, Nat.reduceLeDiff, reduceCtorEq, implies_true, ne_eq, ↓asrcV, aggV, Tag.cap, List.replicate, allSolid, GVal.solid, Nat.reduceBEq, Nat.reduceMul, Nat.reduceLT, List.length_map, List.length_range, splice, vcA, ↓vcB, vcC, fbA, e4]
  refine c15.then ?_
  have b1 : (buildI m o).length ≤ 1000 := by
    have q1 := (lrun_len 0 m m.length).1
    have q2 := (lrun_len split o o.length).1
    rw [buildI, if_pos r1, List.length_append, linesI, linesI]; omega
  have hseg := build_segs m o (by omega) (by omega) r1
  generalize buildI m o = a at *
  generalize buildI m o' = b at *
  simp +contextual -implicitDefEqProofs (maxSteps := 2000000) (disch := omega) only [drawC, ↓lenV, binV, ↓unV, optV, ↓loadV, ↓storeV, ↓fieldAddrV, ↓indexAddrV, ↓allocV, ↓boxV, ↓buildSliceV, ↓sliceV, ↓appendV, ↓srcV, ↓minV, bound, cutTag, hiTag, fillE, GVal.cells, grp, GVal.ofConst, ↓resV, resG, List.map, List.headD, List.take, List.drop, ↓reduceIte, Nat.reduceEqDiff, Nat.reduceAdd, Nat.reduceSub, Nat.reduceLeDiff, reduceCtorEq, implies_true, ne_eq, ↓asrcV, aggV, Tag.cap, List.replicate, allSolid, GVal.solid, Nat.reduceBEq, Nat.reduceMul, Nat.reduceLT, List.length_map, List.length_range, splice, vcA, ↓vcB, vcC, fbA, e4, segsG_length]
  have hl := gOK_len hg
  refine ⟨fun h => absurd h (by omega), fun h => ⟨fun h => absurd h (by omega), fun h => ?_⟩⟩
  refine vcSLoop_by (ι := { i : Nat // i ≤ a.length ∧ (b.length = a.length → i < a.length) }) (fun i => ⟨[.any, .bool true, .any, .any, .any, .any, .any, .any, .slice (segsG a) .none, .slice (segsG b) .none, .int .i64 (i.1 : Nat)] ++ List.replicate 186 .any, []⟩) (fun i => a.length - i.1) ?_ ?_
  · exact Into.first ⟨0, by omega, gOK_pos hg⟩ ⟨_, rfl⟩ (by simp [WL, leG_self, leG_any])
  · rintro ⟨i, hi, hi2⟩
    have hs : split = 1099511627776 := rfl
    have hC : b.length = a.length → 0 < a.length → b.getD (a.length - 1) default = { a.getD (a.length - 1) default with hi := (a.getD (a.length - 1) default).hi + 1 } := fun h1 h2 => by
      rcases gOK_at hg (a.length - 1) (by omega) with ⟨_, h⟩ | ⟨_, _, h⟩
      · exact absurd ⟨rfl, h1⟩ h
      · exact h
    have hD : ∀ i, i < a.length → ¬ (i = a.length - 1 ∧ b.length = a.length) → b.getD i default = a.getD i default := fun i h1 h2 => by
      rcases gOK_at hg i h1 with ⟨h, _⟩ | ⟨h3, h4, _⟩
      · exact h.symm
      · exact absurd ⟨h4, h3⟩ h2
    have hN : ∀ i, norm .i64 ((a.getD i default).hi + 1) = (a.getD i default).hi + 1 := fun i => by
      have := hseg i
      exact norm_i64 (by omega)
    have c18 : ∀ i, GPure Try.prog 18 [.agg (segG (a.getD i default)), .agg (segG (a.getD i default))] (.bool true) := fun i => by
      have := spec18 (a.getD i default) (a.getD i default) (by have := hseg i; omega)
      rwa [decide_eq_true rfl] at this
    have hE : ∀ n : Nat, ((n : Int) + 1 - 1).toNat = n := fun n => by omega
    simp +contextual -implicitDefEqProofs (maxSteps := 2000000) (disch := omega) only [drawC, ↓gif_true, ↓gif_false, ↓gif_dec, ↓gif_not, ↓gif_eq, ↓gif_ne, ↓op_move, ↓op_assign, ↓op_binOp, ↓op_unOp, ↓op_convert, ↓op_load, ↓op_store, ↓op_fieldAddr, ↓op_field, ↓op_indexAddr, ↓op_index, ↓op_extract, ↓op_alloc, ↓op_lookup, ↓op_mapUpdate, ↓op_insert, ↓op_makeMap, ↓op_box, ↓op_build, ↓op_buildSlice, ↓op_slice, ↓op_nilCheck, ↓op_makeInterface, ↓op_makeFunc, ↓op_pick, ↓op_len, ↓op_cap, ↓op_min, ↓op_max, ↓op_delete, ↓op_append, ↓op_funcI, ↓op_closureI, ↓ibin_add, ↓ibin_sub, ↓ibin_mul, ↓ibin_quo, ↓ibin_rem, ↓ibin_eql, ↓ibin_neq, ↓ibin_lss, ↓ibin_leq, ↓ibin_gtr, ↓ibin_geq, ↓lenV, binV, ↓unV, optV, ↓loadV, ↓storeV, ↓fieldAddrV, ↓indexAddrV, ↓ext_0, ↓ext_1, ↓ext_2, ↓ext_3, ↓gif_neb, ↓allocV, ↓boxV, ↓buildSliceV, ↓sliceV, ↓appendV, ↓srcV, ↓minV, bound, cutTag, hiTag, fillE, GVal.cells, grp, GVal.ofConst, ↓thenQ_n, ↓thenQ_r, ↓thenQ_e, ↓blockQ_n, ↓blockQ_r, ↓blockQ_e, ↓retQ_n, ↓retQ_r, ↓resV, resG, List.map, List.headD, List.take, List.drop, ↓reduceIte, Nat.reduceEqDiff, Nat.reduceAdd, Nat.reduceSub, Nat.reduceLeDiff, reduceCtorEq, implies_true, ne_eq, ↓asrcV, aggV, Tag.cap, List.replicate, allSolid, GVal.solid, Nat.reduceBEq, Nat.reduceMul, Nat.reduceLT, List.length_map, List.length_range, splice, vcA, vcC, fbA, e4, segsG_length, segsG_at, segG, toNat_pred, hC, hD, hN, beq_self_eq_true, hE]
    refine ⟨fun h1 => ⟨fun h2 => ⟨fun h3 => ?_, fun h3 => ⟨by omega, by omega, by omega, by omega, (c18 _).then ?_⟩⟩, fun h2 => ⟨by omega, by omega, by omega, (c18 _).then ?_⟩⟩, fun h1 => ⟨fun h2 => ?_, fun h2 => ?_⟩⟩
    · (repeat' refine ⟨?_, ?_⟩) <;> omega
    · simp +contextual -implicitDefEqProofs (maxSteps := 2000000) (disch := omega) only [drawC, ↓lenV, binV, ↓unV, optV, ↓loadV, ↓storeV, ↓fieldAddrV, ↓indexAddrV, ↓allocV, ↓boxV, ↓buildSliceV, ↓sliceV, ↓appendV, ↓srcV, ↓minV, bound, cutTag, hiTag, fillE, GVal.cells, grp, GVal.ofConst, ↓resV, resG, List.map, List.headD, List.take, List.drop, ↓reduceIte, Nat.reduceEqDiff, Nat.reduceAdd, Nat.reduceSub, Nat.reduceLeDiff, reduceCtorEq, implies_true, ne_eq, ↓asrcV, aggV, Tag.cap, List.replicate, allSolid, GVal.solid, Nat.reduceBEq, Nat.reduceMul, Nat.reduceLT, List.length_map, List.length_range, splice, vcA, ↓vcB, vcC, fbA, e4]
      exact Into.at ⟨i + 1, by omega, by omega⟩ (by show _ < _; simp; omega) ⟨_, rfl⟩ (by simp [WL, leG_self, leG_any, leG_int] <;> omega)
    · simp +contextual -implicitDefEqProofs (maxSteps := 2000000) (disch := omega) only [drawC, ↓lenV, binV, ↓unV, optV, ↓loadV, ↓storeV, ↓fieldAddrV, ↓indexAddrV, ↓allocV, ↓boxV, ↓buildSliceV, ↓sliceV, ↓appendV, ↓srcV, ↓minV, bound, cutTag, hiTag, fillE, GVal.cells, grp, GVal.ofConst, ↓resV, resG, List.map, List.headD, List.take, List.drop, ↓reduceIte, Nat.reduceEqDiff, Nat.reduceAdd, Nat.reduceSub, Nat.reduceLeDiff, reduceCtorEq, implies_true, ne_eq, ↓asrcV, aggV, Tag.cap, List.replicate, allSolid, GVal.solid, Nat.reduceBEq, Nat.reduceMul, Nat.reduceLT, List.length_map, List.length_range, splice, vcA, ↓vcB, vcC, fbA, e4]
      exact Into.at ⟨i + 1, by omega, by omega⟩ (by show _ < _; simp; omega) ⟨_, rfl⟩ (by simp [WL, leG_self, leG_any, leG_int])
    · have hend := gOK_end hg (by omega)
      exact ⟨by omega, by omega, by omega, by omega, fun h3 => ⟨by omega, by omega⟩, fun h3 => h3 hend.1⟩
    · omega

end Gv.Try
set_option maxRecDepth 100000
set_option linter.defProp false
namespace Gv.Try
open Go Gv Go.Proofs
def s10_0 : SCode := (.reg [(.mk (some 3) (.box 24 (.tmp 0)) none), (.mk (some 6) (.assign (.const (.bool false))) none)])
def s10_1 : SCode := (.reg [(.mk (some 19) (.load 24 (.tmp 3)) none), (.mk (some 20) (.call (.mk (.value (.func 11)) #[(.tmp 19)] #[24])) none), (.mk (some 7) (.alloc 27) none), (.mk none (.store 27 (.tmp 7) (.tmp 20)) none)])
def s10_2 : SCode := (.reg [(.mk (some 21) (.move (.tmp 2)) none), (.mk (some 22) (.call (.mk (.value (.func 25)) #[(.tmp 21), (.const (.int (.i64) 9))] #[3, 3])) none)])
def s10_3 : SCode := (.reg [(.mk (some 24) (.binOp (.eql) 3 (.tmp 22) (.const (.int (.i64) 0)) 3) none), (.mk (some 23) (.assign (.tmp 24)) none)])
def s10_4 : SCode := (.reg [(.mk (some 25) (.load 27 (.tmp 7)) none), (.mk (some 26) (.move (.tmp 2)) none), (.mk (some 27) (.binOp (.quo) 3 (.tmp 26) (.const (.int (.i64) 9)) 3) none), (.mk (some 28) (.call (.mk (.value (.func 36)) #[(.tmp 25), (.tmp 27)] #[27, 3])) none), (.mk none (.store 27 (.tmp 7) (.tmp 28)) none)])
def s10_5 : SCode := (.seq s10_3 (.cond (.tmp 23) s10_4 (.skip)))
def s10_6 : SCode := (.reg [(.mk (some 29) (.load 27 (.tmp 7)) none), (.mk (some 30) (.call (.mk (.value (.func 13)) #[(.tmp 29)] #[27])) none), (.mk (some 8) (.alloc 32) none), (.mk none (.store 32 (.tmp 8) (.tmp 30)) none)])
def s10_7 : SCode := (.drw [((.mk (some 31) (.load 32 (.tmp 8)) none), 0), ((.mk (some 33) (.load 27 (.tmp 7)) none), 0), ((.mk (some 32) (.call (.mk (.value (.func 34)) #[(.tmp 31)] #[32])) none), 2), ((.mk (some 34) (.call (.mk (.value (.func 37)) #[(.tmp 33)] #[27])) none), 1), ((.mk (some 35) (.binOp (.neq) 4 (.tmp 32) (.tmp 34) 4) none), 0)])
def s10_8 : SCode := (.reg [(.mk (some 6) (.assign (.const (.bool false))) none)])
def s10_9 : SCode := (.cond (.tmp 35) (.seq s10_8 (.ret)) (.skip))
def s10_10 : SCode := (.reg [(.mk (some 36) (.load 32 (.tmp 8)) none), (.mk (some 37) (.call (.mk (.value (.func 12)) #[(.tmp 36)] #[32])) none), (.mk (some 9) (.assign (.tmp 37)) none)])
def s10_11 : SCode := (.reg [(.mk (some 38) (.load 27 (.tmp 7)) none), (.mk (some 39) (.call (.mk (.value (.func 37)) #[(.tmp 38)] #[27])) none), (.mk (some 40) (.unOp (.not) 4 (.tmp 39)) none)])
def s10_12 : SCode := (.reg [(.mk (some 41) (.call (.mk (.value (.func 15)) #[] #[])) none), (.mk (some 42) (.move (.tmp 41)) none), (.mk (some 43) (.move (.tmp 9)) (some (42, true))), (.mk (some 44) (.call (.mk (.builtin (.len)) #[(.tmp 43)] #[29])) (some (42, true))), (.mk (some 45) (.binOp (.eql) 3 (.tmp 44) (.const (.int (.i64) 0)) 3) (some (42, true))), (.mk (some 46) (.pick (.tmp 42) (.tmp 45) (.const (.bool false))) none), (.mk (some 6) (.assign (.tmp 46)) none)])
def s10_13 : SCode := (.cond (.tmp 40) (.seq s10_12 (.ret)) (.skip))
def s10_14 : SCode := (.reg [(.mk (some 47) (.load 27 (.tmp 7)) none), (.mk (some 48) (.call (.mk (.value (.func 24)) #[(.tmp 47)] #[27])) none), (.mk (some 10) (.assign (.tmp 48)) none)])
def s10_15 : SCode := (.reg [(.mk (some 49) (.move (.tmp 1)) none), (.mk (some 50) (.call (.mk (.value (.func 25)) #[(.tmp 49), (.const (.int (.i64) 60))] #[3, 3])) none), (.mk (some 51) (.binOp (.sub) 3 (.tmp 50) (.const (.int (.i64) 3)) 3) none), (.mk (some 1) (.assign (.tmp 51)) none)])
def s10_16 : SCode := (.reg [(.mk (some 52) (.move (.tmp 1)) none), (.mk (some 53) (.binOp (.rem) 3 (.tmp 52) (.const (.int (.i64) 2)) 3) none), (.mk (some 54) (.binOp (.eql) 3 (.tmp 53) (.const (.int (.i64) 1)) 3) none)])
def s10_17 : SCode := (.reg [(.mk (some 55) (.move (.tmp 1)) none), (.mk (some 56) (.binOp (.add) 3 (.tmp 55) (.const (.int (.i64) 1099511627776)) 3) none), (.mk (some 1) (.assign (.tmp 56)) none)])
def s10_18 : SCode := (.seq s10_16 (.cond (.tmp 54) s10_17 (.skip)))
def s10_19 : SCode := (.reg [(.mk (some 58) (.move (.tmp 9)) none), (.mk (some 59) (.move (.tmp 1)) none), (.mk (some 60) (.call (.mk (.value (.func 33)) #[(.tmp 58), (.tmp 59)] #[29, 3])) none), (.mk (some 57) (.move (.tmp 60)) none), (.mk (some 61) (.extract (.tmp 57) 0) none), (.mk (some 62) (.extract (.tmp 57) 1) none), (.mk (some 11) (.assign (.tmp 61)) none), (.mk (some 12) (.assign (.tmp 62)) none)])
def s10_20 : SCode := (.reg [(.mk (some 64) (.move (.tmp 10)) none), (.mk (some 65) (.move (.tmp 1)) none), (.mk (some 66) (.call (.mk (.value (.func 38)) #[(.tmp 64), (.tmp 65)] #[29, 3])) none), (.mk (some 63) (.move (.tmp 66)) none), (.mk (some 67) (.extract (.tmp 63) 0) none), (.mk (some 68) (.extract (.tmp 63) 1) none), (.mk (some 13) (.assign (.tmp 67)) none), (.mk (some 14) (.assign (.tmp 68)) none)])
def s10_21 : SCode := (.reg [(.mk (some 70) (.load 27 (.tmp 7)) none), (.mk (some 71) (.move (.tmp 1)) none), (.mk (some 72) (.call (.mk (.value (.func 16)) #[(.tmp 70), (.tmp 71)] #[27, 3])) none), (.mk (some 69) (.move (.tmp 72)) none), (.mk (some 73) (.extract (.tmp 69) 0) none), (.mk (some 74) (.extract (.tmp 69) 1) none), (.mk (some 15) (.assign (.tmp 73)) none), (.mk (some 16) (.assign (.tmp 74)) none)])
def s10_22 : SCode := (.reg [(.mk (some 76) (.move (.tmp 9)) none), (.mk (some 77) (.call (.mk (.value (.func 27)) #[(.tmp 76)] #[29])) none), (.mk (some 75) (.move (.tmp 77)) none), (.mk (some 78) (.extract (.tmp 75) 0) none), (.mk (some 79) (.extract (.tmp 75) 1) none), (.mk (some 17) (.alloc 32) none), (.mk none (.store 32 (.tmp 17) (.tmp 78)) none), (.mk (some 18) (.assign (.tmp 79)) none)])
def s10_23 : SCode := (.reg [(.mk (some 80) (.call (.mk (.value (.func 15)) #[] #[])) none), (.mk (some 81) (.move (.tmp 80)) none), (.mk (some 82) (.move (.tmp 9)) (some (81, true))), (.mk (some 83) (.move (.tmp 10)) (some (81, true))), (.mk (some 84) (.call (.mk (.value (.func 39)) #[(.tmp 82), (.tmp 83)] #[29, 29])) (some (81, true))), (.mk (some 85) (.pick (.tmp 81) (.tmp 84) (.const (.bool false))) none), (.mk (some 86) (.move (.tmp 85)) none), (.mk (some 87) (.move (.tmp 11)) (some (86, true))), (.mk (some 88) (.move (.tmp 13)) (some (86, true))), (.mk (some 89) (.binOp (.eql) 3 (.tmp 87) (.tmp 88) 3) (some (86, true))), (.mk (some 90) (.pick (.tmp 86) (.tmp 89) (.const (.bool false))) none), (.mk (some 91) (.move (.tmp 90)) none), (.mk (some 92) (.move (.tmp 12)) (some (91, true))), (.mk (some 93) (.move (.tmp 14)) (some (91, true))), (.mk (some 94) (.binOp (.eql) 4 (.tmp 92) (.tmp 93) 4) (some (91, true))), (.mk (some 95) (.pick (.tmp 91) (.tmp 94) (.const (.bool false))) none), (.mk (some 96) (.move (.tmp 95)) none), (.mk (some 97) (.move (.tmp 9)) (some (96, true))), (.mk (some 98) (.move (.tmp 1)) (some (96, true))), (.mk (some 99) (.call (.mk (.value (.func 35)) #[(.tmp 97), (.tmp 98)] #[29, 3])) (some (96, true))), (.mk (some 100) (.move (.tmp 15)) (some (96, true))), (.mk (some 101) (.call (.mk (.value (.func 17)) #[(.tmp 99), (.tmp 100)] #[22, 22])) (some (96, true))), (.mk (some 102) (.pick (.tmp 96) (.tmp 101) (.const (.bool false))) none), (.mk (some 103) (.move (.tmp 102)) none), (.mk (some 104) (.move (.tmp 18)) (some (103, true))), (.mk (some 105) (.pick (.tmp 103) (.tmp 104) (.const (.bool false))) none), (.mk (some 106) (.move (.tmp 105)) none), (.mk (some 107) (.load 32 (.tmp 17)) (some (106, true))), (.mk (some 108) (.load 27 (.tmp 7)) (some (106, true))), (.mk (some 109) (.call (.mk (.value (.func 29)) #[(.tmp 107), (.tmp 108)] #[32, 27])) (some (106, true))), (.mk (some 110) (.pick (.tmp 106) (.tmp 109) (.const (.bool false))) none), (.mk (some 6) (.assign (.tmp 110)) none)])
def s10_24 : SCode := (.seq s10_21 (.seq s10_22 (.seq s10_23 (.ret))))
def s10_25 : SCode := (.seq s10_18 (.seq s10_19 (.seq s10_20 s10_24)))
def s10_26 : SCode := (.seq (.seq s10_11 s10_13) (.seq s10_14 (.seq s10_15 s10_25)))
def s10_27 : SCode := (.seq (.seq s10_7 s10_9) (.seq s10_10 s10_26))
def s10_28 : SCode := (.seq (.seq s10_2 (.block 0 s10_5)) (.seq s10_6 s10_27))
def s10 : SCode := (.seq s10_0 (.seq s10_1 s10_28))
theorem h10 : FnS Try.prog 10 ⟨[3], [(6, [(0, 0), (2, 0), (1, 2), (3, 1), (4, 0)])]⟩ 111 [(.tmp 6)] s10 := .mk' Try.func10 (by kernel_rfl) (by kernel_rfl) (by kernel_rfl) (by kernel_rfl) (by kernel_rfl) (by kernel_rfl)
def e10 := And.intro s10_0.eq_1 <| And.intro s10_1.eq_1 <| And.intro s10_2.eq_1 <| And.intro s10_3.eq_1 <| And.intro s10_4.eq_1 <| And.intro s10_5.eq_1 <| And.intro s10_6.eq_1 <| And.intro s10_7.eq_1 <| And.intro s10_8.eq_1 <| And.intro s10_9.eq_1 <| And.intro s10_10.eq_1 <| And.intro s10_11.eq_1 <| And.intro s10_12.eq_1 <| And.intro s10_13.eq_1 <| And.intro s10_14.eq_1 <| And.intro s10_15.eq_1 <| And.intro s10_16.eq_1 <| And.intro s10_17.eq_1 <| And.intro s10_18.eq_1 <| And.intro s10_19.eq_1 <| And.intro s10_20.eq_1 <| And.intro s10_21.eq_1 <| And.intro s10_22.eq_1 <| And.intro s10_23.eq_1 <| And.intro s10_24.eq_1 <| And.intro s10_25.eq_1 <| And.intro s10_26.eq_1 <| And.intro s10_27.eq_1 <| s10_28.eq_1
def s27_0 : SCode := (.reg [(.mk (some 2) (.alloc 32) none), (.mk (some 3) (.assign (.const (.bool false))) none)])
def s27_1 : SCode := (.reg [(.mk (some 4) (.alloc 32) none)])
def s27_2 : SCode := (.reg [(.mk (some 9) (.move (.tmp 0)) none), (.mk (some 10) (.call (.mk (.builtin (.len)) #[(.tmp 9)] #[29])) none), (.mk (some 11) (.move (.const (.int (.i64) 0))) none)])
def s27_3 : SCode := (.reg [(.mk (some 12) (.binOp (.lss) 3 (.tmp 11) (.tmp 10) 3) none)])
def s27_4 : SCode := (.reg [(.mk (some 13) (.indexAddr 29 (.tmp 9) (.tmp 11)) none), (.mk (some 14) (.load 37 (.tmp 13)) none), (.mk (some 6) (.alloc 37) none), (.mk none (.store 37 (.tmp 6) (.tmp 14)) none)])
def s27_5 : SCode := (.reg [(.mk (some 7) (.assign (.const (.bool false))) none)])
def s27_6 : SCode := (.reg [(.mk (some 15) (.fieldAddr 32 (.tmp 4) 0) none), (.mk (some 16) (.load 25 (.tmp 15)) none), (.mk (some 17) (.call (.mk (.builtin (.len)) #[(.tmp 16)] #[25])) none), (.mk (some 18) (.binOp (.sub) 3 (.const (.int (.i64) 1000)) (.tmp 17) 3) none), (.mk (some 19) (.fieldAddr 32 (.tmp 4) 1) none), (.mk (some 20) (.load 25 (.tmp 19)) none), (.mk (some 21) (.call (.mk (.builtin (.len)) #[(.tmp 20)] #[25])) none), (.mk (some 22) (.binOp (.sub) 3 (.tmp 18) (.tmp 21) 3) none), (.mk (some 8) (.assign (.tmp 22)) none)])
def s27_7 : SCode := (.reg [(.mk (some 23) (.fieldAddr 37 (.tmp 6) 0) none), (.mk (some 24) (.load 3 (.tmp 23)) none), (.mk (some 25) (.binOp (.lss) 3 (.tmp 24) (.const (.int (.i64) 1099511627776)) 3) none)])
def s27_8 : SCode := (.reg [(.mk (some 27) (.fieldAddr 32 (.tmp 4) 0) none), (.mk (some 28) (.load 25 (.tmp 27)) none), (.mk (some 29) (.load 37 (.tmp 6)) none), (.mk (some 30) (.fieldAddr 32 (.tmp 4) 0) none), (.mk (some 31) (.load 25 (.tmp 30)) none), (.mk (some 32) (.call (.mk (.builtin (.len)) #[(.tmp 31)] #[25])) none), (.mk (some 33) (.move (.tmp 8)) none), (.mk (some 34) (.call (.mk (.value (.func 49)) #[(.tmp 28), (.tmp 29), (.tmp 32), (.tmp 33)] #[25, 37, 3, 3])) none), (.mk (some 26) (.move (.tmp 34)) none), (.mk (some 35) (.extract (.tmp 26) 0) none), (.mk (some 36) (.extract (.tmp 26) 1) none), (.mk (some 37) (.fieldAddr 32 (.tmp 4) 0) none), (.mk none (.store 25 (.tmp 37) (.tmp 35)) none), (.mk (some 7) (.assign (.tmp 36)) none)])
def s27_9 : SCode := (.reg [(.mk (some 39) (.fieldAddr 32 (.tmp 4) 1) none), (.mk (some 40) (.load 25 (.tmp 39)) none), (.mk (some 41) (.load 37 (.tmp 6)) none), (.mk (some 42) (.fieldAddr 32 (.tmp 4) 1) none), (.mk (some 43) (.load 25 (.tmp 42)) none), (.mk (some 44) (.call (.mk (.builtin (.len)) #[(.tmp 43)] #[25])) none), (.mk (some 45) (.binOp (.add) 3 (.const (.int (.i64) 1099511627776)) (.tmp 44) 3) none), (.mk (some 46) (.move (.tmp 8)) none), (.mk (some 47) (.call (.mk (.value (.func 49)) #[(.tmp 40), (.tmp 41), (.tmp 45), (.tmp 46)] #[25, 37, 3, 3])) none), (.mk (some 38) (.move (.tmp 47)) none), (.mk (some 48) (.extract (.tmp 38) 0) none), (.mk (some 49) (.extract (.tmp 38) 1) none), (.mk (some 50) (.fieldAddr 32 (.tmp 4) 1) none), (.mk none (.store 25 (.tmp 50) (.tmp 48)) none), (.mk (some 7) (.assign (.tmp 49)) none)])
def s27_10 : SCode := (.seq s27_7 (.cond (.tmp 25) s27_8 s27_9))
def s27_11 : SCode := (.reg [(.mk (some 51) (.move (.tmp 7)) none), (.mk (some 52) (.unOp (.not) 4 (.tmp 51)) none)])
def s27_12 : SCode := (.reg [(.mk (some 53) (.build 32 #[]) none), (.mk none (.store 32 (.tmp 2) (.tmp 53)) none), (.mk (some 3) (.assign (.const (.bool false))) none)])
def s27_13 : SCode := (.cond (.tmp 52) (.seq s27_12 (.ret)) (.skip))
def s27_14 : SCode := (.seq s27_6 (.seq s27_10 (.seq s27_11 s27_13)))
def s27_15 : SCode := (.block 1 (.seq s27_4 (.seq s27_5 s27_14)))
def s27_16 : SCode := (.reg [(.mk (some 54) (.binOp (.add) 3 (.tmp 11) (.const (.int (.i64) 1)) 3) none), (.mk (some 11) (.move (.tmp 54)) none)])
def s27_17 : SCode := (.seq (.cond (.tmp 12) (.skip) (.exit 0)) (.seq s27_15 s27_16))
def s27_18 : SCode := (.seq s27_2 (.block 0 (.loop (.seq s27_3 s27_17))))
def s27_19 : SCode := (.reg [(.mk (some 55) (.load 32 (.tmp 4)) none), (.mk (some 56) (.call (.mk (.value (.func 34)) #[(.tmp 55)] #[32])) none), (.mk (some 57) (.unOp (.not) 4 (.tmp 56)) none), (.mk (some 58) (.move (.tmp 57)) none), (.mk (some 59) (.load 32 (.tmp 4)) (some (58, false))), (.mk (some 60) (.call (.mk (.value (.func 12)) #[(.tmp 59)] #[32])) (some (58, false))), (.mk (some 61) (.move (.tmp 0)) (some (58, false))), (.mk (some 62) (.call (.mk (.value (.func 50)) #[(.tmp 60), (.tmp 61), (.func 51)] #[29, 29, 42])) (some (58, false))), (.mk (some 63) (.unOp (.not) 4 (.tmp 62)) (some (58, false))), (.mk (some 64) (.pick (.tmp 58) (.const (.bool true)) (.tmp 63)) none)])
def s27_20 : SCode := (.reg [(.mk (some 65) (.build 32 #[]) none), (.mk none (.store 32 (.tmp 2) (.tmp 65)) none), (.mk (some 3) (.assign (.const (.bool false))) none)])
def s27_21 : SCode := (.cond (.tmp 64) (.seq s27_20 (.ret)) (.skip))
def s27_22 : SCode := (.reg [(.mk (some 66) (.load 32 (.tmp 4)) none), (.mk none (.store 32 (.tmp 2) (.tmp 66)) none), (.mk (some 3) (.assign (.const (.bool true))) none)])
def s27_23 : SCode := (.seq (.seq s27_19 s27_21) (.seq s27_22 (.ret)))
def s27 : SCode := (.seq s27_0 (.seq s27_1 (.seq s27_18 s27_23)))
theorem h27 : FnS Try.prog 27 ⟨[], []⟩ 67 [(.cell 2 32), (.tmp 3)] s27 := .mk' Try.func27 (by kernel_rfl) (by kernel_rfl) (by kernel_rfl) (by kernel_rfl) (by kernel_rfl) (by kernel_rfl)
def e27 := And.intro s27_0.eq_1 <| And.intro s27_1.eq_1 <| And.intro s27_2.eq_1 <| And.intro s27_3.eq_1 <| And.intro s27_4.eq_1 <| And.intro s27_5.eq_1 <| And.intro s27_6.eq_1 <| And.intro s27_7.eq_1 <| And.intro s27_8.eq_1 <| And.intro s27_9.eq_1 <| And.intro s27_10.eq_1 <| And.intro s27_11.eq_1 <| And.intro s27_12.eq_1 <| And.intro s27_13.eq_1 <| And.intro s27_14.eq_1 <| And.intro s27_15.eq_1 <| And.intro s27_16.eq_1 <| And.intro s27_17.eq_1 <| And.intro s27_18.eq_1 <| And.intro s27_19.eq_1 <| And.intro s27_20.eq_1 <| And.intro s27_21.eq_1 <| And.intro s27_22.eq_1 <| s27_23.eq_1
def s29_0 : SCode := (.reg [(.mk (some 2) (.box 32 (.tmp 0)) none), (.mk (some 3) (.box 27 (.tmp 1)) none), (.mk (some 4) (.assign (.const (.bool false))) none)])
def s29_1 : SCode := (.reg [(.mk (some 5) (.fieldAddr 32 (.tmp 2) 0) none), (.mk (some 6) (.load 25 (.tmp 5)) none), (.mk (some 7) (.fieldAddr 27 (.tmp 3) 0) none), (.mk (some 8) (.load 25 (.tmp 7)) none), (.mk (some 9) (.call (.mk (.value (.func 52)) #[(.tmp 6), (.tmp 8)] #[25, 25])) none), (.mk (some 10) (.move (.tmp 9)) none), (.mk (some 11) (.fieldAddr 32 (.tmp 2) 1) (some (10, true))), (.mk (some 12) (.load 25 (.tmp 11)) (some (10, true))), (.mk (some 13) (.fieldAddr 27 (.tmp 3) 1) (some (10, true))), (.mk (some 14) (.load 25 (.tmp 13)) (some (10, true))), (.mk (some 15) (.call (.mk (.value (.func 52)) #[(.tmp 12), (.tmp 14)] #[25, 25])) (some (10, true))), (.mk (some 16) (.pick (.tmp 10) (.tmp 15) (.const (.bool false))) none), (.mk (some 4) (.assign (.tmp 16)) none)])
def s29 : SCode := (.seq s29_0 (.seq s29_1 (.ret)))
theorem h29 : FnS Try.prog 29 ⟨[2, 3], []⟩ 17 [(.tmp 4)] s29 := .mk' Try.func29 (by kernel_rfl) (by kernel_rfl) (by kernel_rfl) (by kernel_rfl) (by kernel_rfl) (by kernel_rfl)
def e29 := And.intro s29_0.eq_1 <| s29_1.eq_1
def s33_0 : SCode := (.reg [(.mk (some 2) (.box 29 (.tmp 0)) none), (.mk (some 3) (.box 3 (.tmp 1)) none), (.mk (some 4) (.assign (.const (.int (.i64) 0))) none), (.mk (some 5) (.assign (.const (.bool false))) none)])
def s33_1 : SCode := (.reg [(.mk (some 7) (.load 29 (.tmp 2)) none), (.mk (some 8) (.call (.mk (.builtin (.len)) #[(.tmp 7)] #[29])) none), (.mk (some 9) (.makeFunc (.func 56) #[] #[(.tmp 2), (.tmp 3)]) none), (.mk (some 10) (.call (.mk (.value (.func 55)) #[(.tmp 8), (.tmp 9)] #[3, 88])) none), (.mk (some 6) (.assign (.tmp 10)) none)])
def s33_2 : SCode := (.drw [((.mk (some 11) (.move (.tmp 6)) none), 0), ((.mk (some 12) (.load 29 (.tmp 2)) none), 0), ((.mk (some 13) (.call (.mk (.builtin (.len)) #[(.tmp 12)] #[29])) none), 0), ((.mk (some 14) (.binOp (.eql) 3 (.tmp 11) (.tmp 13) 3) none), 0), ((.mk (some 15) (.move (.tmp 14)) none), 0), ((.mk (some 16) (.load 29 (.tmp 2)) (some (15, false))), 0), ((.mk (some 17) (.move (.tmp 6)) (some (15, false))), 0), ((.mk (some 18) (.indexAddr 29 (.tmp 16) (.tmp 17)) (some (15, false))), 0), ((.mk (some 19) (.fieldAddr 37 (.tmp 18) 0) (some (15, false))), 0), ((.mk (some 20) (.load 3 (.tmp 19)) (some (15, false))), 0), ((.mk (some 21) (.load 3 (.tmp 3)) (some (15, false))), 0), ((.mk (some 22) (.binOp (.gtr) 3 (.tmp 20) (.tmp 21) 3) (some (15, false))), 0), ((.mk (some 23) (.pick (.tmp 15) (.const (.bool true)) (.tmp 22)) none), 0)])
def s33_3 : SCode := (.reg [(.mk (some 4) (.assign (.const (.int (.i64) 0))) none), (.mk (some 5) (.assign (.const (.bool false))) none)])
def s33_4 : SCode := (.cond (.tmp 23) (.seq s33_3 (.ret)) (.skip))
def s33_5 : SCode := (.reg [(.mk (some 24) (.move (.tmp 6)) none), (.mk (some 4) (.assign (.tmp 24)) none), (.mk (some 5) (.assign (.const (.bool true))) none)])
def s33_6 : SCode := (.seq (.seq s33_2 s33_4) (.seq s33_5 (.ret)))
def s33 : SCode := (.seq s33_0 (.seq s33_1 s33_6))
theorem h33 : FnS Try.prog 33 ⟨[], [(2, [(0, 0), (1, 0), (2, 0), (3, 0), (4, 0), (5, 0), (6, 0), (7, 0), (8, 0), (9, 0), (10, 0), (11, 0), (12, 0)])]⟩ 25 [(.tmp 4), (.tmp 5)] s33 := .mk' Try.func33 (by kernel_rfl) (by kernel_rfl) (by kernel_rfl) (by kernel_rfl) (by kernel_rfl) (by kernel_rfl)
def e33 := And.intro s33_0.eq_1 <| And.intro s33_1.eq_1 <| And.intro s33_2.eq_1 <| And.intro s33_3.eq_1 <| And.intro s33_4.eq_1 <| And.intro s33_5.eq_1 <| s33_6.eq_1
def s35_0 : SCode := (.reg [(.mk (some 4) (.assign (.const (.slice none 0 0))) none)])
def s35_1 : SCode := (.reg [(.mk (some 8) (.move (.tmp 0)) none), (.mk (some 9) (.move (.tmp 1)) none), (.mk (some 10) (.call (.mk (.value (.func 33)) #[(.tmp 8), (.tmp 9)] #[29, 3])) none), (.mk (some 7) (.move (.tmp 10)) none), (.mk (some 11) (.extract (.tmp 7) 0) none), (.mk (some 12) (.extract (.tmp 7) 1) none), (.mk (some 5) (.assign (.tmp 11)) none), (.mk (some 6) (.assign (.tmp 12)) none)])
def s35_2 : SCode := (.reg [(.mk (some 14) (.move (.tmp 6)) none), (.mk (some 15) (.unOp (.not) 4 (.tmp 14)) none), (.mk (some 13) (.assign (.tmp 15)) none)])
def s35_3 : SCode := (.reg [(.mk (some 4) (.assign (.const (.slice none 0 0))) none)])
def s35_4 : SCode := (.reg [(.mk (some 17) (.move (.tmp 1)) none), (.mk (some 18) (.move (.tmp 0)) none), (.mk (some 19) (.move (.tmp 5)) none), (.mk (some 20) (.indexAddr 29 (.tmp 18) (.tmp 19)) none), (.mk (some 21) (.fieldAddr 37 (.tmp 20) 0) none), (.mk (some 22) (.load 3 (.tmp 21)) none), (.mk (some 23) (.binOp (.gtr) 3 (.tmp 17) (.tmp 22) 3) none), (.mk (some 16) (.assign (.tmp 23)) none)])
def s35_5 : SCode := (.reg [(.mk (some 24) (.move (.tmp 1)) none), (.mk (some 25) (.binOp (.sub) 3 (.tmp 24) (.const (.int (.i64) 1)) 3) none), (.mk (some 26) (.buildSlice 22 1 #[(0, (.tmp 25))]) none), (.mk (some 4) (.assign (.tmp 26)) none)])
def s35_6 : SCode := (.cond (.tmp 16) (.seq s35_5 (.ret)) (.skip))
def s35_7 : SCode := (.cond (.tmp 13) (.seq s35_3 (.ret)) (.seq s35_4 s35_6))
def s35_8 : SCode := (.reg [(.mk (some 27) (.move (.tmp 0)) none), (.mk (some 28) (.move (.tmp 5)) none), (.mk (some 29) (.indexAddr 29 (.tmp 27) (.tmp 28)) none), (.mk (some 30) (.fieldAddr 37 (.tmp 29) 2) none), (.mk (some 31) (.load 22 (.tmp 30)) none), (.mk (some 32) (.call (.mk (.value (.func 58)) #[(.tmp 31)] #[22])) none), (.mk (some 4) (.assign (.tmp 32)) none)])
def s35_9 : SCode := (.seq (.block 0 (.seq s35_2 s35_7)) (.seq s35_8 (.ret)))
def s35 : SCode := (.seq s35_0 (.seq s35_1 s35_9))
theorem h35 : FnS Try.prog 35 ⟨[], []⟩ 33 [(.tmp 4)] s35 := .mk' Try.func35 (by kernel_rfl) (by kernel_rfl) (by kernel_rfl) (by kernel_rfl) (by kernel_rfl) (by kernel_rfl)
def e35 := And.intro s35_0.eq_1 <| And.intro s35_1.eq_1 <| And.intro s35_2.eq_1 <| And.intro s35_3.eq_1 <| And.intro s35_4.eq_1 <| And.intro s35_5.eq_1 <| And.intro s35_6.eq_1 <| And.intro s35_7.eq_1 <| And.intro s35_8.eq_1 <| s35_9.eq_1
def s37_0 : SCode := (.reg [(.mk (some 1) (.box 27 (.tmp 0)) none), (.mk (some 2) (.assign (.const (.bool false))) none)])
def s37_1 : SCode := (.reg [(.mk (some 11) (.load 27 (.tmp 1)) none), (.mk (some 12) (.call (.mk (.value (.func 14)) #[(.tmp 11)] #[27])) none), (.mk (some 3) (.assign (.tmp 12)) none)])
def s37_2 : SCode := (.reg [(.mk (some 4) (.assign (.const (.int (.i64) 0))) none)])
def s37_3 : SCode := (.reg [(.mk (some 13) (.move (.tmp 4)) none), (.mk (some 14) (.move (.tmp 3)) none), (.mk (some 15) (.call (.mk (.builtin (.len)) #[(.tmp 14)] #[22])) none), (.mk (some 16) (.binOp (.lss) 3 (.tmp 13) (.tmp 15) 3) none)])
def s37_4 : SCode := (.seq s37_3 (.cond (.tmp 16) (.skip) (.exit 0)))
def s37_5 : SCode := (.drw [((.mk (some 20) (.load 27 (.tmp 1)) none), 0), ((.mk (some 21) (.move (.tmp 3)) none), 0), ((.mk (some 22) (.move (.tmp 4)) none), 0), ((.mk (some 23) (.indexAddr 22 (.tmp 21) (.tmp 22)) none), 0), ((.mk (some 24) (.load 3 (.tmp 23)) none), 0), ((.mk (some 25) (.call (.mk (.value (.func 16)) #[(.tmp 20), (.tmp 24)] #[27, 3])) none), 1), ((.mk (some 19) (.move (.tmp 25)) none), 0), ((.mk (some 26) (.extract (.tmp 19) 0) none), 0), ((.mk (some 27) (.extract (.tmp 19) 1) none), 0), ((.mk (some 5) (.assign (.tmp 26)) none), 0), ((.mk (some 6) (.assign (.tmp 27)) none), 0)])
def s37_6 : SCode := (.reg [(.mk (some 28) (.move (.tmp 5)) none), (.mk (some 29) (.call (.mk (.builtin (.len)) #[(.tmp 28)] #[22])) none), (.mk (some 30) (.binOp (.gtr) 3 (.tmp 29) (.const (.int (.i64) 4)) 3) none)])
def s37_7 : SCode := (.reg [(.mk (some 2) (.assign (.const (.bool false))) none)])
def s37_8 : SCode := (.cond (.tmp 30) (.seq s37_7 (.ret)) (.skip))
def s37_9 : SCode := (.reg [(.mk (some 7) (.assign (.const (.int (.i64) 0))) none)])
def s37_10 : SCode := (.reg [(.mk (some 31) (.move (.tmp 7)) none), (.mk (some 32) (.move (.tmp 5)) none), (.mk (some 33) (.call (.mk (.builtin (.len)) #[(.tmp 32)] #[22])) none), (.mk (some 34) (.binOp (.lss) 3 (.tmp 31) (.tmp 33) 3) none)])
def s37_11 : SCode := (.seq s37_10 (.cond (.tmp 34) (.skip) (.exit 2)))
def s37_12 : SCode := (.drw [((.mk (some 38) (.load 27 (.tmp 1)) none), 0), ((.mk (some 39) (.move (.tmp 5)) none), 0), ((.mk (some 40) (.move (.tmp 7)) none), 0), ((.mk (some 41) (.indexAddr 22 (.tmp 39) (.tmp 40)) none), 0), ((.mk (some 42) (.load 3 (.tmp 41)) none), 0), ((.mk (some 43) (.call (.mk (.value (.func 16)) #[(.tmp 38), (.tmp 42)] #[27, 3])) none), 1), ((.mk (some 37) (.move (.tmp 43)) none), 0), ((.mk (some 44) (.extract (.tmp 37) 0) none), 0), ((.mk (some 45) (.extract (.tmp 37) 1) none), 0), ((.mk (some 8) (.assign (.tmp 44)) none), 0), ((.mk (some 9) (.assign (.tmp 45)) none), 0)])
def s37_13 : SCode := (.drw [((.mk (some 46) (.move (.tmp 9)) none), 0), ((.mk (some 47) (.unOp (.not) 4 (.tmp 46)) none), 0), ((.mk (some 48) (.move (.tmp 47)) none), 0), ((.mk (some 49) (.move (.tmp 5)) (some (48, false))), 0), ((.mk (some 50) (.move (.tmp 7)) (some (48, false))), 0), ((.mk (some 51) (.indexAddr 22 (.tmp 49) (.tmp 50)) (some (48, false))), 0), ((.mk (some 52) (.load 3 (.tmp 51)) (some (48, false))), 0), ((.mk (some 53) (.move (.tmp 3)) (some (48, false))), 0), ((.mk (some 54) (.move (.tmp 4)) (some (48, false))), 0), ((.mk (some 55) (.indexAddr 22 (.tmp 53) (.tmp 54)) (some (48, false))), 0), ((.mk (some 56) (.load 3 (.tmp 55)) (some (48, false))), 0), ((.mk (some 57) (.binOp (.geq) 3 (.tmp 52) (.tmp 56) 3) (some (48, false))), 0), ((.mk (some 58) (.pick (.tmp 48) (.const (.bool true)) (.tmp 57)) none), 0)])
def s37_14 : SCode := (.reg [(.mk (some 2) (.assign (.const (.bool false))) none)])
def s37_15 : SCode := (.cond (.tmp 58) (.seq s37_14 (.ret)) (.skip))
def s37_16 : SCode := (.reg [(.mk (some 10) (.assign (.const (.int (.i64) 0))) none)])
def s37_17 : SCode := (.reg [(.mk (some 59) (.move (.tmp 10)) none), (.mk (some 60) (.move (.tmp 7)) none), (.mk (some 61) (.binOp (.lss) 3 (.tmp 59) (.tmp 60) 3) none)])
def s37_18 : SCode := (.seq s37_17 (.cond (.tmp 61) (.skip) (.exit 4)))
def s37_19 : SCode := (.drw [((.mk (some 64) (.move (.tmp 5)) none), 0), ((.mk (some 65) (.move (.tmp 10)) none), 0), ((.mk (some 66) (.indexAddr 22 (.tmp 64) (.tmp 65)) none), 0), ((.mk (some 67) (.load 3 (.tmp 66)) none), 0), ((.mk (some 68) (.move (.tmp 5)) none), 0), ((.mk (some 69) (.move (.tmp 7)) none), 0), ((.mk (some 70) (.indexAddr 22 (.tmp 68) (.tmp 69)) none), 0), ((.mk (some 71) (.load 3 (.tmp 70)) none), 0), ((.mk (some 72) (.binOp (.eql) 3 (.tmp 67) (.tmp 71) 3) none), 0)])
def s37_20 : SCode := (.reg [(.mk (some 2) (.assign (.const (.bool false))) none)])
def s37_21 : SCode := (.cond (.tmp 72) (.seq s37_20 (.ret)) (.skip))
def s37_22 : SCode := (.reg [(.mk (some 62) (.move (.tmp 10)) none), (.mk (some 63) (.binOp (.add) 3 (.tmp 62) (.const (.int (.i64) 1)) 3) none), (.mk (some 10) (.assign (.tmp 63)) none)])
def s37_23 : SCode := (.seq (.block 5 (.seq s37_19 s37_21)) s37_22)
def s37_24 : SCode := (.seq s37_16 (.block 4 (.loop (.seq s37_18 s37_23))))
def s37_25 : SCode := (.seq (.seq s37_12 (.seq s37_13 s37_15)) s37_24)
def s37_26 : SCode := (.reg [(.mk (some 35) (.move (.tmp 7)) none), (.mk (some 36) (.binOp (.add) 3 (.tmp 35) (.const (.int (.i64) 1)) 3) none), (.mk (some 7) (.assign (.tmp 36)) none)])
def s37_27 : SCode := (.seq s37_11 (.seq (.block 3 s37_25) s37_26))
def s37_28 : SCode := (.seq (.seq s37_6 s37_8) (.seq s37_9 (.block 2 (.loop s37_27))))
def s37_29 : SCode := (.reg [(.mk (some 17) (.move (.tmp 4)) none), (.mk (some 18) (.binOp (.add) 3 (.tmp 17) (.const (.int (.i64) 1)) 3) none), (.mk (some 4) (.assign (.tmp 18)) none)])
def s37_30 : SCode := (.seq (.block 1 (.seq s37_5 s37_28)) s37_29)
def s37_31 : SCode := (.seq s37_2 (.block 0 (.loop (.seq s37_4 s37_30))))
def s37_32 : SCode := (.reg [(.mk (some 2) (.assign (.const (.bool true))) none)])
def s37_33 : SCode := (.seq s37_1 (.seq s37_31 (.seq s37_32 (.ret))))
def s37 : SCode := (.seq s37_0 s37_33)
theorem h37 : FnS Try.prog 37 ⟨[1], [(5, [(0, 0), (1, 0), (2, 0), (3, 0), (4, 0), (5, 1), (6, 0), (7, 0), (8, 0), (9, 0), (10, 0)]), (11, [(0, 0), (1, 0), (2, 0), (3, 0), (4, 0), (5, 1), (6, 0), (7, 0), (8, 0), (9, 0), (10, 0)]), (12, [(0, 0), (1, 0), (2, 0), (3, 0), (4, 0), (5, 0), (6, 0), (7, 0), (8, 0), (9, 0), (10, 0), (11, 0), (12, 0)]), (17, [(0, 0), (1, 0), (2, 0), (3, 0), (4, 0), (5, 0), (6, 0), (7, 0), (8, 0)])]⟩ 73 [(.tmp 2)] s37 := .mk' Try.func37 (by kernel_rfl) (by kernel_rfl) (by kernel_rfl) (by kernel_rfl) (by kernel_rfl) (by kernel_rfl)
def e37 := And.intro s37_0.eq_1 <| And.intro s37_1.eq_1 <| And.intro s37_2.eq_1 <| And.intro s37_3.eq_1 <| And.intro s37_4.eq_1 <| And.intro s37_5.eq_1 <| And.intro s37_6.eq_1 <| And.intro s37_7.eq_1 <| And.intro s37_8.eq_1 <| And.intro s37_9.eq_1 <| And.intro s37_10.eq_1 <| And.intro s37_11.eq_1 <| And.intro s37_12.eq_1 <| And.intro s37_13.eq_1 <| And.intro s37_14.eq_1 <| And.intro s37_15.eq_1 <| And.intro s37_16.eq_1 <| And.intro s37_17.eq_1 <| And.intro s37_18.eq_1 <| And.intro s37_19.eq_1 <| And.intro s37_20.eq_1 <| And.intro s37_21.eq_1 <| And.intro s37_22.eq_1 <| And.intro s37_23.eq_1 <| And.intro s37_24.eq_1 <| And.intro s37_25.eq_1 <| And.intro s37_26.eq_1 <| And.intro s37_27.eq_1 <| And.intro s37_28.eq_1 <| And.intro s37_29.eq_1 <| And.intro s37_30.eq_1 <| And.intro s37_31.eq_1 <| And.intro s37_32.eq_1 <| s37_33.eq_1
def s38_0 : SCode := (.reg [(.mk (some 4) (.assign (.const (.int (.i64) 0))) none), (.mk (some 5) (.assign (.const (.bool false))) none)])
def s38_1 : SCode := (.reg [(.mk (some 6) (.assign (.const (.int (.i64) 0))) none)])
def s38_2 : SCode := (.reg [(.mk (some 7) (.move (.tmp 6)) none), (.mk (some 8) (.move (.tmp 0)) none), (.mk (some 9) (.call (.mk (.builtin (.len)) #[(.tmp 8)] #[29])) none), (.mk (some 10) (.binOp (.lss) 3 (.tmp 7) (.tmp 9) 3) none)])
def s38_3 : SCode := (.seq s38_2 (.cond (.tmp 10) (.skip) (.exit 0)))
def s38_4 : SCode := (.reg [(.mk (some 13) (.move (.tmp 1)) none), (.mk (some 14) (.move (.tmp 0)) none), (.mk (some 15) (.move (.tmp 6)) none), (.mk (some 16) (.indexAddr 29 (.tmp 14) (.tmp 15)) none), (.mk (some 17) (.fieldAddr 37 (.tmp 16) 0) none), (.mk (some 18) (.load 3 (.tmp 17)) none), (.mk (some 19) (.binOp (.geq) 3 (.tmp 13) (.tmp 18) 3) none), (.mk (some 20) (.move (.tmp 19)) none), (.mk (some 21) (.move (.tmp 1)) (some (20, true))), (.mk (some 22) (.move (.tmp 0)) (some (20, true))), (.mk (some 23) (.move (.tmp 6)) (some (20, true))), (.mk (some 24) (.indexAddr 29 (.tmp 22) (.tmp 23)) (some (20, true))), (.mk (some 25) (.fieldAddr 37 (.tmp 24) 1) (some (20, true))), (.mk (some 26) (.load 3 (.tmp 25)) (some (20, true))), (.mk (some 27) (.binOp (.leq) 3 (.tmp 21) (.tmp 26) 3) (some (20, true))), (.mk (some 28) (.pick (.tmp 20) (.tmp 27) (.const (.bool false))) none)])
def s38_5 : SCode := (.reg [(.mk (some 29) (.move (.tmp 6)) none), (.mk (some 4) (.assign (.tmp 29)) none), (.mk (some 5) (.assign (.const (.bool true))) none)])
def s38_6 : SCode := (.cond (.tmp 28) (.seq s38_5 (.ret)) (.skip))
def s38_7 : SCode := (.reg [(.mk (some 11) (.move (.tmp 6)) none), (.mk (some 12) (.binOp (.add) 3 (.tmp 11) (.const (.int (.i64) 1)) 3) none), (.mk (some 6) (.assign (.tmp 12)) none)])
def s38_8 : SCode := (.seq (.block 1 (.seq s38_4 s38_6)) s38_7)
def s38_9 : SCode := (.seq s38_1 (.block 0 (.loop (.seq s38_3 s38_8))))
def s38_10 : SCode := (.reg [(.mk (some 4) (.assign (.const (.int (.i64) 0))) none), (.mk (some 5) (.assign (.const (.bool false))) none)])
def s38 : SCode := (.seq s38_0 (.seq s38_9 (.seq s38_10 (.ret))))
theorem h38 : FnS Try.prog 38 ⟨[], []⟩ 30 [(.tmp 4), (.tmp 5)] s38 := .mk' Try.func38 (by kernel_rfl) (by kernel_rfl) (by kernel_rfl) (by kernel_rfl) (by kernel_rfl) (by kernel_rfl)
def e38 := And.intro s38_0.eq_1 <| And.intro s38_1.eq_1 <| And.intro s38_2.eq_1 <| And.intro s38_3.eq_1 <| And.intro s38_4.eq_1 <| And.intro s38_5.eq_1 <| And.intro s38_6.eq_1 <| And.intro s38_7.eq_1 <| And.intro s38_8.eq_1 <| And.intro s38_9.eq_1 <| s38_10.eq_1
def s39_0 : SCode := (.reg [(.mk (some 4) (.assign (.const (.bool false))) none)])
def s39_1 : SCode := (.reg [(.mk (some 6) (.move (.tmp 0)) none), (.mk (some 7) (.call (.mk (.builtin (.len)) #[(.tmp 6)] #[29])) none), (.mk (some 8) (.move (.tmp 1)) none), (.mk (some 9) (.call (.mk (.builtin (.len)) #[(.tmp 8)] #[29])) none), (.mk (some 10) (.binOp (.neq) 3 (.tmp 7) (.tmp 9) 3) none)])
def s39_2 : SCode := (.reg [(.mk (some 4) (.assign (.const (.bool false))) none)])
def s39_3 : SCode := (.cond (.tmp 10) (.seq s39_2 (.ret)) (.skip))
def s39_4 : SCode := (.reg [(.mk (some 5) (.assign (.const (.int (.i64) 0))) none)])
def s39_5 : SCode := (.reg [(.mk (some 11) (.move (.tmp 5)) none), (.mk (some 12) (.move (.tmp 0)) none), (.mk (some 13) (.call (.mk (.builtin (.len)) #[(.tmp 12)] #[29])) none), (.mk (some 14) (.binOp (.lss) 3 (.tmp 11) (.tmp 13) 3) none)])
def s39_6 : SCode := (.seq s39_5 (.cond (.tmp 14) (.skip) (.exit 0)))
def s39_7 : SCode := (.drw [((.mk (some 17) (.move (.tmp 0)) none), 0), ((.mk (some 18) (.move (.tmp 5)) none), 0), ((.mk (some 19) (.indexAddr 29 (.tmp 17) (.tmp 18)) none), 0), ((.mk (some 20) (.load 37 (.tmp 19)) none), 0), ((.mk (some 21) (.move (.tmp 1)) none), 0), ((.mk (some 22) (.move (.tmp 5)) none), 0), ((.mk (some 23) (.indexAddr 29 (.tmp 21) (.tmp 22)) none), 0), ((.mk (some 24) (.load 37 (.tmp 23)) none), 0), ((.mk (some 25) (.call (.mk (.value (.func 18)) #[(.tmp 20), (.tmp 24)] #[37, 37])) none), 1), ((.mk (some 26) (.unOp (.not) 4 (.tmp 25)) none), 0)])
def s39_8 : SCode := (.reg [(.mk (some 4) (.assign (.const (.bool false))) none)])
def s39_9 : SCode := (.cond (.tmp 26) (.seq s39_8 (.ret)) (.skip))
def s39_10 : SCode := (.reg [(.mk (some 15) (.move (.tmp 5)) none), (.mk (some 16) (.binOp (.add) 3 (.tmp 15) (.const (.int (.i64) 1)) 3) none), (.mk (some 5) (.assign (.tmp 16)) none)])
def s39_11 : SCode := (.seq (.block 1 (.seq s39_7 s39_9)) s39_10)
def s39_12 : SCode := (.seq s39_4 (.block 0 (.loop (.seq s39_6 s39_11))))
def s39_13 : SCode := (.reg [(.mk (some 4) (.assign (.const (.bool true))) none)])
def s39_14 : SCode := (.seq (.seq s39_1 s39_3) (.seq s39_12 (.seq s39_13 (.ret))))
def s39 : SCode := (.seq s39_0 s39_14)
theorem h39 : FnS Try.prog 39 ⟨[], [(6, [(0, 0), (1, 0), (2, 0), (3, 0), (4, 0), (5, 0), (6, 0), (7, 0), (8, 1), (9, 0)])]⟩ 27 [(.tmp 4)] s39 := .mk' Try.func39 (by kernel_rfl) (by kernel_rfl) (by kernel_rfl) (by kernel_rfl) (by kernel_rfl) (by kernel_rfl)
def e39 := And.intro s39_0.eq_1 <| And.intro s39_1.eq_1 <| And.intro s39_2.eq_1 <| And.intro s39_3.eq_1 <| And.intro s39_4.eq_1 <| And.intro s39_5.eq_1 <| And.intro s39_6.eq_1 <| And.intro s39_7.eq_1 <| And.intro s39_8.eq_1 <| And.intro s39_9.eq_1 <| And.intro s39_10.eq_1 <| And.intro s39_11.eq_1 <| And.intro s39_12.eq_1 <| And.intro s39_13.eq_1 <| s39_14.eq_1
def s49_0 : SCode := (.reg [(.mk (some 5) (.box 37 (.tmp 1)) none), (.mk (some 8) (.assign (.const (.slice none 0 0))) none), (.mk (some 9) (.assign (.const (.bool false))) none)])
def s49_1 : SCode := (.reg [(.mk (some 11) (.fieldAddr 37 (.tmp 5) 0) none), (.mk (some 12) (.load 3 (.tmp 11)) none), (.mk (some 13) (.move (.tmp 2)) none), (.mk (some 14) (.binOp (.neq) 3 (.tmp 12) (.tmp 13) 3) none), (.mk (some 15) (.move (.tmp 14)) none), (.mk (some 16) (.fieldAddr 37 (.tmp 5) 1) (some (15, false))), (.mk (some 17) (.load 3 (.tmp 16)) (some (15, false))), (.mk (some 18) (.fieldAddr 37 (.tmp 5) 0) (some (15, false))), (.mk (some 19) (.load 3 (.tmp 18)) (some (15, false))), (.mk (some 20) (.binOp (.lss) 3 (.tmp 17) (.tmp 19) 3) (some (15, false))), (.mk (some 21) (.pick (.tmp 15) (.const (.bool true)) (.tmp 20)) none), (.mk (some 22) (.move (.tmp 21)) none), (.mk (some 23) (.fieldAddr 37 (.tmp 5) 1) (some (22, false))), (.mk (some 24) (.load 3 (.tmp 23)) (some (22, false))), (.mk (some 25) (.fieldAddr 37 (.tmp 5) 0) (some (22, false))), (.mk (some 26) (.load 3 (.tmp 25)) (some (22, false))), (.mk (some 27) (.binOp (.sub) 3 (.tmp 24) (.tmp 26) 3) (some (22, false))), (.mk (some 28) (.move (.tmp 3)) (some (22, false))), (.mk (some 29) (.binOp (.geq) 3 (.tmp 27) (.tmp 28) 3) (some (22, false))), (.mk (some 30) (.pick (.tmp 22) (.const (.bool true)) (.tmp 29)) none)])
def s49_2 : SCode := (.reg [(.mk (some 8) (.assign (.const (.slice none 0 0))) none), (.mk (some 9) (.assign (.const (.bool false))) none)])
def s49_3 : SCode := (.cond (.tmp 30) (.seq s49_2 (.ret)) (.skip))
def s49_4 : SCode := (.reg [(.mk (some 31) (.move (.tmp 0)) none), (.mk (some 32) (.fieldAddr 37 (.tmp 5) 2) none), (.mk (some 33) (.load 22 (.tmp 32)) none), (.mk (some 34) (.call (.mk (.value (.func 58)) #[(.tmp 33)] #[22])) none), (.mk (some 35) (.buildSlice 25 1 #[(0, (.tmp 34))]) none), (.mk (some 36) (.call (.mk (.builtin (.append)) #[(.tmp 31), (.tmp 35)] #[25, 25])) none), (.mk (some 0) (.assign (.tmp 36)) none)])
def s49_5 : SCode := (.reg [(.mk (some 37) (.fieldAddr 37 (.tmp 5) 0) none), (.mk (some 38) (.load 3 (.tmp 37)) none), (.mk (some 39) (.binOp (.add) 3 (.tmp 38) (.const (.int (.i64) 1)) 3) none), (.mk (some 10) (.assign (.tmp 39)) none)])
def s49_6 : SCode := (.reg [(.mk (some 40) (.move (.tmp 10)) none), (.mk (some 41) (.fieldAddr 37 (.tmp 5) 1) none), (.mk (some 42) (.load 3 (.tmp 41)) none), (.mk (some 43) (.binOp (.leq) 3 (.tmp 40) (.tmp 42) 3) none)])
def s49_7 : SCode := (.seq s49_6 (.cond (.tmp 43) (.skip) (.exit 0)))
def s49_8 : SCode := (.reg [(.mk (some 46) (.move (.tmp 0)) none), (.mk (some 47) (.move (.tmp 10)) none), (.mk (some 48) (.binOp (.sub) 3 (.tmp 47) (.const (.int (.i64) 1)) 3) none), (.mk (some 49) (.buildSlice 22 1 #[(0, (.tmp 48))]) none), (.mk (some 50) (.buildSlice 25 1 #[(0, (.tmp 49))]) none), (.mk (some 51) (.call (.mk (.builtin (.append)) #[(.tmp 46), (.tmp 50)] #[25, 25])) none), (.mk (some 0) (.assign (.tmp 51)) none)])
def s49_9 : SCode := (.reg [(.mk (some 44) (.move (.tmp 10)) none), (.mk (some 45) (.binOp (.add) 3 (.tmp 44) (.const (.int (.i64) 1)) 3) none), (.mk (some 10) (.assign (.tmp 45)) none)])
def s49_10 : SCode := (.seq s49_7 (.seq (.block 1 s49_8) s49_9))
def s49_11 : SCode := (.reg [(.mk (some 52) (.move (.tmp 0)) none), (.mk (some 8) (.assign (.tmp 52)) none), (.mk (some 9) (.assign (.const (.bool true))) none)])
def s49_12 : SCode := (.seq (.seq s49_5 (.block 0 (.loop s49_10))) (.seq s49_11 (.ret)))
def s49_13 : SCode := (.seq (.seq s49_1 s49_3) (.seq s49_4 s49_12))
def s49 : SCode := (.seq s49_0 s49_13)
theorem h49 : FnS Try.prog 49 ⟨[5], []⟩ 53 [(.tmp 8), (.tmp 9)] s49 := .mk' Try.func49 (by kernel_rfl) (by kernel_rfl) (by kernel_rfl) (by kernel_rfl) (by kernel_rfl) (by kernel_rfl)
def e49 := And.intro s49_0.eq_1 <| And.intro s49_1.eq_1 <| And.intro s49_2.eq_1 <| And.intro s49_3.eq_1 <| And.intro s49_4.eq_1 <| And.intro s49_5.eq_1 <| And.intro s49_6.eq_1 <| And.intro s49_7.eq_1 <| And.intro s49_8.eq_1 <| And.intro s49_9.eq_1 <| And.intro s49_10.eq_1 <| And.intro s49_11.eq_1 <| And.intro s49_12.eq_1 <| s49_13.eq_1
def s50_0 : SCode := (.reg [(.mk (some 6) (.assign (.const (.bool false))) none)])
def s50_1 : SCode := (.reg [(.mk (some 10) (.move (.tmp 0)) none), (.mk (some 11) (.call (.mk (.builtin (.len)) #[(.tmp 10)] #[29])) none), (.mk (some 12) (.move (.tmp 1)) none), (.mk (some 13) (.call (.mk (.builtin (.len)) #[(.tmp 12)] #[29])) none), (.mk (some 14) (.binOp (.neq) 3 (.tmp 11) (.tmp 13) 3) none)])
def s50_2 : SCode := (.reg [(.mk (some 6) (.assign (.const (.bool false))) none)])
def s50_3 : SCode := (.cond (.tmp 14) (.seq s50_2 (.ret)) (.skip))
def s50_4 : SCode := (.reg [(.mk (some 15) (.move (.tmp 0)) none), (.mk (some 16) (.call (.mk (.builtin (.len)) #[(.tmp 15)] #[29])) none), (.mk (some 17) (.move (.const (.int (.i64) 0))) none)])
def s50_5 : SCode := (.reg [(.mk (some 18) (.binOp (.lss) 3 (.tmp 17) (.tmp 16) 3) none)])
def s50_6 : SCode := (.reg [(.mk (some 19) (.move (.tmp 17)) none), (.mk (some 20) (.indexAddr 29 (.tmp 15) (.tmp 17)) none), (.mk (some 21) (.load 37 (.tmp 20)) none), (.mk (some 8) (.alloc 37) none), (.mk (some 7) (.assign (.tmp 19)) none), (.mk none (.store 37 (.tmp 8) (.tmp 21)) none)])
def s50_7 : SCode := (.reg [(.mk (some 22) (.move (.tmp 1)) none), (.mk (some 23) (.move (.tmp 7)) none), (.mk (some 24) (.indexAddr 29 (.tmp 22) (.tmp 23)) none), (.mk (some 25) (.load 37 (.tmp 24)) none), (.mk (some 9) (.alloc 37) none), (.mk none (.store 37 (.tmp 9) (.tmp 25)) none)])
def s50_8 : SCode := (.reg [(.mk (some 26) (.move (.tmp 2)) none), (.mk (some 27) (.load 37 (.tmp 8)) none), (.mk (some 28) (.load 37 (.tmp 9)) none), (.mk (some 29) (.call (.mk (.value (.tmp 26)) #[(.tmp 27), (.tmp 28)] #[37, 37])) none), (.mk (some 30) (.unOp (.not) 4 (.tmp 29)) none)])
def s50_9 : SCode := (.reg [(.mk (some 6) (.assign (.const (.bool false))) none)])
def s50_10 : SCode := (.cond (.tmp 30) (.seq s50_9 (.ret)) (.skip))
def s50_11 : SCode := (.seq s50_6 (.seq s50_7 (.seq s50_8 s50_10)))
def s50_12 : SCode := (.reg [(.mk (some 31) (.binOp (.add) 3 (.tmp 17) (.const (.int (.i64) 1)) 3) none), (.mk (some 17) (.move (.tmp 31)) none)])
def s50_13 : SCode := (.seq (.cond (.tmp 18) (.skip) (.exit 0)) (.seq (.block 1 s50_11) s50_12))
def s50_14 : SCode := (.seq s50_4 (.block 0 (.loop (.seq s50_5 s50_13))))
def s50_15 : SCode := (.reg [(.mk (some 6) (.assign (.const (.bool true))) none)])
def s50_16 : SCode := (.seq (.seq s50_1 s50_3) (.seq s50_14 (.seq s50_15 (.ret))))
def s50 : SCode := (.seq s50_0 s50_16)
theorem h50 : FnS Try.prog 50 ⟨[], []⟩ 32 [(.tmp 6)] s50 := .mk' Try.func50 (by kernel_rfl) (by kernel_rfl) (by kernel_rfl) (by kernel_rfl) (by kernel_rfl) (by kernel_rfl)
def e50 := And.intro s50_0.eq_1 <| And.intro s50_1.eq_1 <| And.intro s50_2.eq_1 <| And.intro s50_3.eq_1 <| And.intro s50_4.eq_1 <| And.intro s50_5.eq_1 <| And.intro s50_6.eq_1 <| And.intro s50_7.eq_1 <| And.intro s50_8.eq_1 <| And.intro s50_9.eq_1 <| And.intro s50_10.eq_1 <| And.intro s50_11.eq_1 <| And.intro s50_12.eq_1 <| And.intro s50_13.eq_1 <| And.intro s50_14.eq_1 <| And.intro s50_15.eq_1 <| s50_16.eq_1
def s51_0 : SCode := (.reg [(.mk (some 2) (.box 37 (.tmp 0)) none), (.mk (some 3) (.box 37 (.tmp 1)) none), (.mk (some 4) (.assign (.const (.bool false))) none)])
def s51_1 : SCode := (.reg [(.mk (some 5) (.fieldAddr 37 (.tmp 2) 0) none), (.mk (some 6) (.load 3 (.tmp 5)) none), (.mk (some 7) (.fieldAddr 37 (.tmp 3) 0) none), (.mk (some 8) (.load 3 (.tmp 7)) none), (.mk (some 9) (.binOp (.eql) 3 (.tmp 6) (.tmp 8) 3) none), (.mk (some 10) (.move (.tmp 9)) none), (.mk (some 11) (.fieldAddr 37 (.tmp 2) 1) (some (10, true))), (.mk (some 12) (.load 3 (.tmp 11)) (some (10, true))), (.mk (some 13) (.fieldAddr 37 (.tmp 3) 1) (some (10, true))), (.mk (some 14) (.load 3 (.tmp 13)) (some (10, true))), (.mk (some 15) (.binOp (.eql) 3 (.tmp 12) (.tmp 14) 3) (some (10, true))), (.mk (some 16) (.pick (.tmp 10) (.tmp 15) (.const (.bool false))) none), (.mk (some 17) (.move (.tmp 16)) none), (.mk (some 18) (.fieldAddr 37 (.tmp 2) 2) (some (17, true))), (.mk (some 19) (.load 22 (.tmp 18)) (some (17, true))), (.mk (some 20) (.fieldAddr 37 (.tmp 3) 2) (some (17, true))), (.mk (some 21) (.load 22 (.tmp 20)) (some (17, true))), (.mk (some 22) (.call (.mk (.value (.func 63)) #[(.tmp 19), (.tmp 21)] #[22, 22])) (some (17, true))), (.mk (some 23) (.pick (.tmp 17) (.tmp 22) (.const (.bool false))) none), (.mk (some 24) (.move (.tmp 23)) none), (.mk (some 25) (.fieldAddr 37 (.tmp 2) 3) (some (24, true))), (.mk (some 26) (.load 4 (.tmp 25)) (some (24, true))), (.mk (some 27) (.fieldAddr 37 (.tmp 3) 3) (some (24, true))), (.mk (some 28) (.load 4 (.tmp 27)) (some (24, true))), (.mk (some 29) (.binOp (.eql) 4 (.tmp 26) (.tmp 28) 4) (some (24, true))), (.mk (some 30) (.pick (.tmp 24) (.tmp 29) (.const (.bool false))) none), (.mk (some 31) (.move (.tmp 30)) none), (.mk (some 32) (.fieldAddr 37 (.tmp 2) 4) (some (31, true))), (.mk (some 33) (.load 4 (.tmp 32)) (some (31, true))), (.mk (some 34) (.fieldAddr 37 (.tmp 3) 4) (some (31, true))), (.mk (some 35) (.load 4 (.tmp 34)) (some (31, true))), (.mk (some 36) (.binOp (.eql) 4 (.tmp 33) (.tmp 35) 4) (some (31, true))), (.mk (some 37) (.pick (.tmp 31) (.tmp 36) (.const (.bool false))) none), (.mk (some 4) (.assign (.tmp 37)) none)])
def s51 : SCode := (.seq s51_0 (.seq s51_1 (.ret)))
theorem h51 : FnS Try.prog 51 ⟨[2, 3], []⟩ 38 [(.tmp 4)] s51 := .mk' Try.func51 (by kernel_rfl) (by kernel_rfl) (by kernel_rfl) (by kernel_rfl) (by kernel_rfl) (by kernel_rfl)
def e51 := And.intro s51_0.eq_1 <| s51_1.eq_1
def s52_0 : SCode := (.reg [(.mk (some 4) (.assign (.const (.bool false))) none)])
def s52_1 : SCode := (.reg [(.mk (some 7) (.move (.tmp 0)) none), (.mk (some 8) (.call (.mk (.builtin (.len)) #[(.tmp 7)] #[25])) none), (.mk (some 9) (.move (.tmp 1)) none), (.mk (some 10) (.call (.mk (.builtin (.len)) #[(.tmp 9)] #[25])) none), (.mk (some 11) (.binOp (.neq) 3 (.tmp 8) (.tmp 10) 3) none)])
def s52_2 : SCode := (.reg [(.mk (some 4) (.assign (.const (.bool false))) none)])
def s52_3 : SCode := (.cond (.tmp 11) (.seq s52_2 (.ret)) (.skip))
def s52_4 : SCode := (.reg [(.mk (some 5) (.assign (.const (.int (.i64) 0))) none)])
def s52_5 : SCode := (.reg [(.mk (some 12) (.move (.tmp 5)) none), (.mk (some 13) (.move (.tmp 0)) none), (.mk (some 14) (.call (.mk (.builtin (.len)) #[(.tmp 13)] #[25])) none), (.mk (some 15) (.binOp (.lss) 3 (.tmp 12) (.tmp 14) 3) none)])
def s52_6 : SCode := (.seq s52_5 (.cond (.tmp 15) (.skip) (.exit 0)))
def s52_7 : SCode := (.drw [((.mk (some 18) (.move (.tmp 0)) none), 0), ((.mk (some 19) (.move (.tmp 5)) none), 0), ((.mk (some 20) (.indexAddr 25 (.tmp 18) (.tmp 19)) none), 0), ((.mk (some 21) (.load 22 (.tmp 20)) none), 0), ((.mk (some 22) (.call (.mk (.builtin (.len)) #[(.tmp 21)] #[22])) none), 0), ((.mk (some 23) (.move (.tmp 1)) none), 0), ((.mk (some 24) (.move (.tmp 5)) none), 0), ((.mk (some 25) (.indexAddr 25 (.tmp 23) (.tmp 24)) none), 0), ((.mk (some 26) (.load 22 (.tmp 25)) none), 0), ((.mk (some 27) (.call (.mk (.builtin (.len)) #[(.tmp 26)] #[22])) none), 0), ((.mk (some 28) (.binOp (.neq) 3 (.tmp 22) (.tmp 27) 3) none), 0)])
def s52_8 : SCode := (.reg [(.mk (some 4) (.assign (.const (.bool false))) none)])
def s52_9 : SCode := (.cond (.tmp 28) (.seq s52_8 (.ret)) (.skip))
def s52_10 : SCode := (.reg [(.mk (some 6) (.assign (.const (.int (.i64) 0))) none)])
def s52_11 : SCode := (.reg [(.mk (some 29) (.move (.tmp 6)) none), (.mk (some 30) (.move (.tmp 0)) none), (.mk (some 31) (.move (.tmp 5)) none), (.mk (some 32) (.indexAddr 25 (.tmp 30) (.tmp 31)) none), (.mk (some 33) (.load 22 (.tmp 32)) none), (.mk (some 34) (.call (.mk (.builtin (.len)) #[(.tmp 33)] #[22])) none), (.mk (some 35) (.binOp (.lss) 3 (.tmp 29) (.tmp 34) 3) none)])
def s52_12 : SCode := (.seq s52_11 (.cond (.tmp 35) (.skip) (.exit 2)))
def s52_13 : SCode := (.drw [((.mk (some 38) (.move (.tmp 0)) none), 0), ((.mk (some 39) (.move (.tmp 5)) none), 0), ((.mk (some 40) (.indexAddr 25 (.tmp 38) (.tmp 39)) none), 0), ((.mk (some 41) (.load 22 (.tmp 40)) none), 0), ((.mk (some 42) (.move (.tmp 6)) none), 0), ((.mk (some 43) (.indexAddr 22 (.tmp 41) (.tmp 42)) none), 0), ((.mk (some 44) (.load 3 (.tmp 43)) none), 0), ((.mk (some 45) (.move (.tmp 1)) none), 0), ((.mk (some 46) (.move (.tmp 5)) none), 0), ((.mk (some 47) (.indexAddr 25 (.tmp 45) (.tmp 46)) none), 0), ((.mk (some 48) (.load 22 (.tmp 47)) none), 0), ((.mk (some 49) (.move (.tmp 6)) none), 0), ((.mk (some 50) (.indexAddr 22 (.tmp 48) (.tmp 49)) none), 0), ((.mk (some 51) (.load 3 (.tmp 50)) none), 0), ((.mk (some 52) (.binOp (.neq) 3 (.tmp 44) (.tmp 51) 3) none), 0)])
def s52_14 : SCode := (.reg [(.mk (some 4) (.assign (.const (.bool false))) none)])
def s52_15 : SCode := (.cond (.tmp 52) (.seq s52_14 (.ret)) (.skip))
def s52_16 : SCode := (.reg [(.mk (some 36) (.move (.tmp 6)) none), (.mk (some 37) (.binOp (.add) 3 (.tmp 36) (.const (.int (.i64) 1)) 3) none), (.mk (some 6) (.assign (.tmp 37)) none)])
def s52_17 : SCode := (.seq (.block 3 (.seq s52_13 s52_15)) s52_16)
def s52_18 : SCode := (.seq s52_10 (.block 2 (.loop (.seq s52_12 s52_17))))
def s52_19 : SCode := (.block 1 (.seq (.seq s52_7 s52_9) s52_18))
def s52_20 : SCode := (.reg [(.mk (some 16) (.move (.tmp 5)) none), (.mk (some 17) (.binOp (.add) 3 (.tmp 16) (.const (.int (.i64) 1)) 3) none), (.mk (some 5) (.assign (.tmp 17)) none)])
def s52_21 : SCode := (.loop (.seq s52_6 (.seq s52_19 s52_20)))
def s52_22 : SCode := (.reg [(.mk (some 4) (.assign (.const (.bool true))) none)])
def s52_23 : SCode := (.seq (.seq s52_4 (.block 0 s52_21)) (.seq s52_22 (.ret)))
def s52 : SCode := (.seq s52_0 (.seq (.seq s52_1 s52_3) s52_23))
theorem h52 : FnS Try.prog 52 ⟨[], [(6, [(0, 0), (1, 0), (2, 0), (3, 0), (4, 0), (5, 0), (6, 0), (7, 0), (8, 0), (9, 0), (10, 0)]), (11, [(0, 0), (1, 0), (2, 0), (3, 0), (4, 0), (5, 0), (6, 0), (7, 0), (8, 0), (9, 0), (10, 0), (11, 0), (12, 0), (13, 0), (14, 0)])]⟩ 53 [(.tmp 4)] s52 := .mk' Try.func52 (by kernel_rfl) (by kernel_rfl) (by kernel_rfl) (by kernel_rfl) (by kernel_rfl) (by kernel_rfl)
def e52 := And.intro s52_0.eq_1 <| And.intro s52_1.eq_1 <| And.intro s52_2.eq_1 <| And.intro s52_3.eq_1 <| And.intro s52_4.eq_1 <| And.intro s52_5.eq_1 <| And.intro s52_6.eq_1 <| And.intro s52_7.eq_1 <| And.intro s52_8.eq_1 <| And.intro s52_9.eq_1 <| And.intro s52_10.eq_1 <| And.intro s52_11.eq_1 <| And.intro s52_12.eq_1 <| And.intro s52_13.eq_1 <| And.intro s52_14.eq_1 <| And.intro s52_15.eq_1 <| And.intro s52_16.eq_1 <| And.intro s52_17.eq_1 <| And.intro s52_18.eq_1 <| And.intro s52_19.eq_1 <| And.intro s52_20.eq_1 <| And.intro s52_21.eq_1 <| And.intro s52_22.eq_1 <| s52_23.eq_1
def s55_0 : SCode := (.reg [(.mk (some 4) (.assign (.const (.int (.i64) 0))) none)])
def s55_1 : SCode := (.reg [(.mk (some 8) (.move (.tmp 0)) none), (.mk (some 5) (.assign (.const (.int (.i64) 0))) none), (.mk (some 6) (.assign (.tmp 8)) none)])
def s55_2 : SCode := (.reg [(.mk (some 9) (.move (.tmp 5)) none), (.mk (some 10) (.move (.tmp 6)) none), (.mk (some 11) (.binOp (.lss) 3 (.tmp 9) (.tmp 10) 3) none)])
def s55_3 : SCode := (.seq s55_2 (.cond (.tmp 11) (.skip) (.exit 0)))
def s55_4 : SCode := (.reg [(.mk (some 12) (.move (.tmp 5)) none), (.mk (some 13) (.move (.tmp 6)) none), (.mk (some 14) (.binOp (.add) 3 (.tmp 12) (.tmp 13) 3) none), (.mk (some 15) (.convert 3 94 (.tmp 14)) none), (.mk (some 16) (.binOp (.shr) 94 (.tmp 15) (.const (.int (.u64) 1)) 94) none), (.mk (some 17) (.convert 94 3 (.tmp 16)) none), (.mk (some 7) (.assign (.tmp 17)) none)])
def s55_5 : SCode := (.reg [(.mk (some 18) (.move (.tmp 1)) none), (.mk (some 19) (.move (.tmp 7)) none), (.mk (some 20) (.call (.mk (.value (.tmp 18)) #[(.tmp 19)] #[3])) none), (.mk (some 21) (.unOp (.not) 4 (.tmp 20)) none)])
def s55_6 : SCode := (.reg [(.mk (some 22) (.move (.tmp 7)) none), (.mk (some 23) (.binOp (.add) 3 (.tmp 22) (.const (.int (.i64) 1)) 3) none), (.mk (some 5) (.assign (.tmp 23)) none)])
def s55_7 : SCode := (.reg [(.mk (some 24) (.move (.tmp 7)) none), (.mk (some 6) (.assign (.tmp 24)) none)])
def s55_8 : SCode := (.seq s55_5 (.cond (.tmp 21) s55_6 s55_7))
def s55_9 : SCode := (.seq s55_3 (.block 1 (.seq s55_4 s55_8)))
def s55_10 : SCode := (.reg [(.mk (some 25) (.move (.tmp 5)) none), (.mk (some 4) (.assign (.tmp 25)) none)])
def s55_11 : SCode := (.seq (.block 0 (.loop s55_9)) (.seq s55_10 (.ret)))
def s55 : SCode := (.seq s55_0 (.seq s55_1 s55_11))
theorem h55 : FnS Try.prog 55 ⟨[], []⟩ 26 [(.tmp 4)] s55 := .mk' Try.func55 (by kernel_rfl) (by kernel_rfl) (by kernel_rfl) (by kernel_rfl) (by kernel_rfl) (by kernel_rfl)
def e55 := And.intro s55_0.eq_1 <| And.intro s55_1.eq_1 <| And.intro s55_2.eq_1 <| And.intro s55_3.eq_1 <| And.intro s55_4.eq_1 <| And.intro s55_5.eq_1 <| And.intro s55_6.eq_1 <| And.intro s55_7.eq_1 <| And.intro s55_8.eq_1 <| And.intro s55_9.eq_1 <| And.intro s55_10.eq_1 <| s55_11.eq_1
def s56_0 : SCode := (.reg [(.mk (some 4) (.assign (.const (.bool false))) none)])
def s56_1 : SCode := (.drw [((.mk (some 5) (.load 29 (.tmp 1)) none), 0), ((.mk (some 6) (.move (.tmp 0)) none), 0), ((.mk (some 7) (.indexAddr 29 (.tmp 5) (.tmp 6)) none), 0), ((.mk (some 8) (.fieldAddr 37 (.tmp 7) 1) none), 0), ((.mk (some 9) (.load 3 (.tmp 8)) none), 0), ((.mk (some 10) (.load 3 (.tmp 2)) none), 0), ((.mk (some 11) (.binOp (.geq) 3 (.tmp 9) (.tmp 10) 3) none), 0), ((.mk (some 4) (.assign (.tmp 11)) none), 0)])
def s56 : SCode := (.seq s56_0 (.seq s56_1 (.ret)))
theorem h56 : FnS Try.prog 56 ⟨[], [(1, [(0, 0), (1, 0), (2, 0), (3, 0), (4, 0), (5, 0), (6, 0), (7, 0)])]⟩ 12 [(.tmp 4)] s56 := .mk' Try.func56 (by kernel_rfl) (by kernel_rfl) (by kernel_rfl) (by kernel_rfl) (by kernel_rfl) (by kernel_rfl)
def e56 := And.intro s56_0.eq_1 <| s56_1.eq_1
def s63_0 : SCode := (.reg [(.mk (some 4) (.assign (.const (.bool false))) none)])
def s63_1 : SCode := (.reg [(.mk (some 6) (.move (.tmp 0)) none), (.mk (some 7) (.call (.mk (.builtin (.len)) #[(.tmp 6)] #[22])) none), (.mk (some 8) (.move (.tmp 1)) none), (.mk (some 9) (.call (.mk (.builtin (.len)) #[(.tmp 8)] #[22])) none), (.mk (some 10) (.binOp (.neq) 3 (.tmp 7) (.tmp 9) 3) none)])
def s63_2 : SCode := (.reg [(.mk (some 4) (.assign (.const (.bool false))) none)])
def s63_3 : SCode := (.cond (.tmp 10) (.seq s63_2 (.ret)) (.skip))
def s63_4 : SCode := (.reg [(.mk (some 11) (.move (.tmp 0)) none), (.mk (some 12) (.call (.mk (.builtin (.len)) #[(.tmp 11)] #[22])) none), (.mk (some 13) (.move (.const (.int (.i64) 0))) none)])
def s63_5 : SCode := (.reg [(.mk (some 14) (.binOp (.lss) 3 (.tmp 13) (.tmp 12) 3) none)])
def s63_6 : SCode := (.reg [(.mk (some 15) (.move (.tmp 13)) none), (.mk (some 5) (.assign (.tmp 15)) none)])
def s63_7 : SCode := (.drw [((.mk (some 16) (.move (.tmp 0)) none), 0), ((.mk (some 17) (.move (.tmp 5)) none), 0), ((.mk (some 18) (.indexAddr 22 (.tmp 16) (.tmp 17)) none), 0), ((.mk (some 19) (.load 3 (.tmp 18)) none), 0), ((.mk (some 20) (.move (.tmp 1)) none), 0), ((.mk (some 21) (.move (.tmp 5)) none), 0), ((.mk (some 22) (.indexAddr 22 (.tmp 20) (.tmp 21)) none), 0), ((.mk (some 23) (.load 3 (.tmp 22)) none), 0), ((.mk (some 24) (.binOp (.neq) 3 (.tmp 19) (.tmp 23) 3) none), 0)])
def s63_8 : SCode := (.reg [(.mk (some 4) (.assign (.const (.bool false))) none)])
def s63_9 : SCode := (.cond (.tmp 24) (.seq s63_8 (.ret)) (.skip))
def s63_10 : SCode := (.block 1 (.seq s63_6 (.seq s63_7 s63_9)))
def s63_11 : SCode := (.reg [(.mk (some 25) (.binOp (.add) 3 (.tmp 13) (.const (.int (.i64) 1)) 3) none), (.mk (some 13) (.move (.tmp 25)) none)])
def s63_12 : SCode := (.seq (.cond (.tmp 14) (.skip) (.exit 0)) (.seq s63_10 s63_11))
def s63_13 : SCode := (.seq s63_4 (.block 0 (.loop (.seq s63_5 s63_12))))
def s63_14 : SCode := (.reg [(.mk (some 4) (.assign (.const (.bool true))) none)])
def s63_15 : SCode := (.seq (.seq s63_1 s63_3) (.seq s63_13 (.seq s63_14 (.ret))))
def s63 : SCode := (.seq s63_0 s63_15)
theorem h63 : FnS Try.prog 63 ⟨[], [(6, [(0, 0), (1, 0), (2, 0), (3, 0), (4, 0), (5, 0), (6, 0), (7, 0), (8, 0)])]⟩ 26 [(.tmp 4)] s63 := .mk' Try.func63 (by kernel_rfl) (by kernel_rfl) (by kernel_rfl) (by kernel_rfl) (by kernel_rfl) (by kernel_rfl)
def e63 := And.intro s63_0.eq_1 <| And.intro s63_1.eq_1 <| And.intro s63_2.eq_1 <| And.intro s63_3.eq_1 <| And.intro s63_4.eq_1 <| And.intro s63_5.eq_1 <| And.intro s63_6.eq_1 <| And.intro s63_7.eq_1 <| And.intro s63_8.eq_1 <| And.intro s63_9.eq_1 <| And.intro s63_10.eq_1 <| And.intro s63_11.eq_1 <| And.intro s63_12.eq_1 <| And.intro s63_13.eq_1 <| And.intro s63_14.eq_1 <| s63_15.eq_1
end Gv.Try
set_option maxRecDepth 100000
set_option linter.defProp false
namespace Gv.Try
open Go Gv Go.Proofs
theorem els59 : els Try.prog 59 = (some (2, true)) := by kernel_rfl
theorem elt59 : elt Try.prog 59 = (some (2, (16, [(.int (.i64) 0), (.int (.i64) 0)]))) := by kernel_rfl
theorem fld62_0 : fld Try.prog 62 0 = (some (0, (1, false))) := by kernel_rfl
theorem fld62_1 : fld Try.prog 62 1 = (some (1, (1, false))) := by kernel_rfl
theorem notInt59 : notInt Try.prog 59 = true := by kernel_rfl
theorem notInt62 : notInt Try.prog 62 = false := by kernel_rfl
theorem plc62 : plc Try.prog 62 = (some (.inl [(0, 1), (1, 1)])) := by kernel_rfl
theorem tab62 : tab Try.prog 62 = (some (2, true)) := by kernel_rfl
theorem und59 : Go.Program.underlying Try.prog 59 = (some (.slice 62)) := by kernel_rfl
theorem zer62 : zer Try.prog 62 = (some [(.int (.i64) 0), (.int (.i64) 0)]) := by kernel_rfl
def fbE := And.intro els59 <| And.intro elt59 <| And.intro fld62_0 <| And.intro fld62_1 <| And.intro notInt59 <| And.intro notInt62 <| And.intro plc62 <| And.intro tab62 <| And.intro und59 <| zer62
end Gv.Try
set_option maxRecDepth 100000
set_option linter.defProp false
namespace Gv.Try
open Go Gv Go.Proofs
theorem notInt42 : notInt Try.prog 42 = false := by kernel_rfl
theorem plc27 : plc Try.prog 27 = (some (.inl [(0, 1), (1, 1)])) := by kernel_rfl
theorem und42 : Go.Program.underlying Try.prog 42 = (some (.func #[37, 37] #[4] false)) := by kernel_rfl
def fbG := And.intro notInt42 <| And.intro plc27 <| und42
end Gv.Try
/- Contracts: equal lists of lists and of segments. -/
set_option linter.unusedVariables false
set_option linter.unusedSimpArgs false
set_option maxRecDepth 20000
set_option maxHeartbeats 4000000
namespace Gv.Try
open Go Gv Go.Proofs

theorem spec63 (a b : List Int) (ta tb : Tag) (ha : a.length ≤ 17592186044416) : GPure Try.prog 63 [.slice (ints a) ta, .slice (ints b) tb] (.bool (a == b)) := by
  refine h63.pure mixS (by simp) ?_
  simp only [gstart, s63, List.cons_append, List.nil_append, List.length_cons, List.length_nil, Nat.reduceAdd, Nat.reduceSub, List.replicate_succ, List.replicate_zero]
  simp +contextual -implicitDefEqProofs (maxSteps := 2000000) (disch := omega) only [drawC, ↓lenV, binV, ↓loadV, ↓indexAddrV, GVal.cells, grp, GVal.ofConst, ↓resV, resG, List.map, List.headD, List.take, List.drop, ↓reduceIte, Nat.reduceEqDiff, Nat.reduceAdd, Nat.reduceSub, Nat.reduceLeDiff, reduceCtorEq, implies_true, ne_eq, aggV, Tag.cap, List.replicate, allSolid, GVal.solid, Nat.reduceBEq, Nat.reduceMul, Nat.reduceLT, List.length_map, List.length_range, splice, vcA, ↓vcB, vcC, fbA, fbE, fbG, e63]
  refine ⟨fun h => ?_, fun h => ?_⟩
  · rw [eq_comm, beq_eq_false_iff_ne]; intro e; subst e; exact h rfl
  · have hlen : a.length = b.length := by omega
    refine vcSLoop_by (ι := { k : Nat // k ≤ a.length ∧ ∀ j, j < k → a.getD j 0 = b.getD j 0 }) (fun k => ⟨[.slice (ints a) ta, .slice (ints b) tb] ++ List.replicate 10 .any ++ [.int .i64 a.length, .int .i64 (k.1 : Nat)] ++ List.replicate 12 .any, []⟩) (fun k => a.length - k.1) ?_ ?_
    · exact Into.first ⟨0, by omega, by omega⟩ ⟨[], by simp⟩ (by simp [WL, leG_self, leG_any, leG_int, hlen])
    rintro ⟨k, hk, hj⟩
    simp only [List.replicate_succ, List.replicate_zero, List.cons_append, List.nil_append]
    simp +contextual -implicitDefEqProofs (maxSteps := 2000000) (disch := omega) only [drawC, ↓lenV, binV, ↓loadV, ↓indexAddrV, GVal.cells, grp, GVal.ofConst, ↓resV, resG, List.map, List.headD, List.take, List.drop, ↓reduceIte, Nat.reduceEqDiff, Nat.reduceAdd, Nat.reduceSub, Nat.reduceLeDiff, reduceCtorEq, implies_true, ne_eq, aggV, Tag.cap, List.replicate, allSolid, GVal.solid, Nat.reduceBEq, Nat.reduceMul, Nat.reduceLT, List.length_map, List.length_range, splice, vcA, ↓vcB, vcC, fbA, fbE, fbG, e63]
    refine ⟨fun h1 => ⟨by omega, by omega, by omega, fun h2 => ?_, fun h2 => ?_⟩, fun h1 => ?_⟩
    · rw [eq_comm, beq_eq_false_iff_ne]; intro e; subst e; exact h2 rfl
    · refine Into.at ⟨k + 1, by omega, fun j hj' => ?_⟩ (by show _ < _; simp; omega) ⟨[], by simp⟩ (by simp [WL, leG_self, leG_any, leG_int])
      by_cases e : j = k
      · rw [e, h2]
      · exact hj j (by omega)
    · rw [eq_comm, beq_iff_eq]
      apply List.ext_getElem hlen
      intro i h3 h4
      have := hj i (by omega)
      simpa [List.getD, h3, h4] using this

theorem spec51 (a b : Seg) (ha : a.par.length ≤ 17592186044416) : GPure Try.prog 51 [.agg (segG a), .agg (segG b)] (.bool (decide (a = b))) := by
  obtain ⟨lo, hi, par, root, head⟩ := a
  obtain ⟨lo', hi', par', root', head'⟩ := b
  have c63 := spec63 par par' .none .none ha
  simp only [segG]
  refine h51.pure mixS (by simp) ?_
  simp only [gstart, s51, List.cons_append, List.nil_append, List.length_cons, List.length_nil, Nat.reduceAdd, Nat.reduceSub, List.replicate_succ, List.replicate_zero]
  simp +contextual -implicitDefEqProofs (maxSteps := 2000000) (disch := omega) only [binV, ↓loadV, ↓fieldAddrV, ↓boxV, GVal.cells, grp, GVal.ofConst, ↓resV, resG, List.map, List.headD, List.take, List.drop, ↓reduceIte, Nat.reduceEqDiff, Nat.reduceAdd, Nat.reduceSub, Nat.reduceLeDiff, reduceCtorEq, implies_true, ne_eq, aggV, Tag.cap, List.replicate, allSolid, GVal.solid, Nat.reduceBEq, Nat.reduceMul, Nat.reduceLT, List.length_map, List.length_range, splice, vcA, ↓vcB, vcC, fbA, fbE, fbG, e51]
  simp only [Seg.mk.injEq]
  refine ⟨fun h1 => ⟨fun h2 => c63.then ?_, fun h2 => ?_⟩, fun h1 => ?_⟩
  · cases hp : (par == par')
    · simp +contextual -implicitDefEqProofs (maxSteps := 2000000) (disch := omega) only [binV, ↓loadV, ↓fieldAddrV, ↓boxV, GVal.cells, grp, GVal.ofConst, ↓resV, resG, List.map, List.headD, List.take, List.drop, ↓reduceIte, Nat.reduceEqDiff, Nat.reduceAdd, Nat.reduceSub, Nat.reduceLeDiff, reduceCtorEq, implies_true, ne_eq, aggV, Tag.cap, List.replicate, allSolid, GVal.solid, Nat.reduceBEq, Nat.reduceMul, Nat.reduceLT, List.length_map, List.length_range, splice, vcA, ↓vcB, vcC, fbA, fbE, fbG, e51]
      have : ¬ par = par' := by simpa using hp
      simp [this]
    · have : par = par' := by simpa using hp
      cases root <;> cases root' <;> cases head <;> cases head' <;> simp +contextual -implicitDefEqProofs (maxSteps := 2000000) (disch := omega) only [binV, ↓loadV, ↓fieldAddrV, ↓boxV, GVal.cells, grp, GVal.ofConst, ↓resV, resG, List.map, List.headD, List.take, List.drop, ↓reduceIte, Nat.reduceEqDiff, Nat.reduceAdd, Nat.reduceSub, Nat.reduceLeDiff, reduceCtorEq, implies_true, ne_eq, aggV, Tag.cap, List.replicate, allSolid, GVal.solid, Nat.reduceBEq, Nat.reduceMul, Nat.reduceLT, List.length_map, List.length_range, splice, vcA, ↓vcB, vcC, fbA, fbE, fbG, e51] <;> simp [h1, h2, this]
  · simp [h2]
  · simp [h1]

theorem segs_ext {a b : List Seg} (h : a.length = b.length) (hj : ∀ j, j < a.length → a.getD j default = b.getD j default) : a = b := by
  apply List.ext_getElem h
  intro i h3 h4
  have := hj i h3
  simpa [List.getD, h3, h4] using this

theorem spec50 (a b : List Seg) (ta tb : Tag) (ha : a.length ≤ 17592186044416) (hp : ∀ i, (a.getD i default).par.length ≤ 17592186044416) : GPure Try.prog 50 [.slice (segsG a) ta, .slice (segsG b) tb, .func (.func 51) [] []] (.bool (decide (a = b))) := by
  refine h50.pure mixS (by simp) ?_
  simp only [gstart, s50, List.cons_append, List.nil_append, List.length_cons, List.length_nil, Nat.reduceAdd, Nat.reduceSub, List.replicate_succ, List.replicate_zero]
  simp +contextual -implicitDefEqProofs (maxSteps := 2000000) (disch := omega) only [↓lenV, binV, ↓unV, ↓loadV, ↓storeV, ↓indexAddrV, ↓allocV, GVal.cells, grp, GVal.ofConst, ↓resV, resG, List.map, List.headD, List.take, List.drop, ↓reduceIte, Nat.reduceEqDiff, Nat.reduceAdd, Nat.reduceSub, Nat.reduceLeDiff, reduceCtorEq, implies_true, ne_eq, aggV, Tag.cap, List.replicate, allSolid, GVal.solid, Nat.reduceBEq, Nat.reduceMul, Nat.reduceLT, List.length_map, List.length_range, splice, vcA, ↓vcB, vcC, fbA, fbE, fbG, e50, segsG_length]
  refine ⟨fun h => ?_, fun h => ?_⟩
  · rw [eq_comm, decide_eq_false_iff_not]; intro e; subst e; exact h rfl
  · have hlen : a.length = b.length := by omega
    refine vcSLoop_by (ι := { k : Nat // k ≤ a.length ∧ ∀ j, j < k → a.getD j default = b.getD j default }) (fun k => ⟨[.slice (segsG a) ta, .slice (segsG b) tb, .func (.func 51) [] []] ++ List.replicate 12 .any ++ [.slice (segsG a) ta, .int .i64 a.length, .int .i64 (k.1 : Nat)] ++ List.replicate 14 .any, []⟩) (fun k => a.length - k.1) ?_ ?_
    · exact Into.first ⟨0, by omega, by omega⟩ ⟨[], by simp⟩ (by simp [WL, leG_self, leG_any, leG_int, hlen])
    rintro ⟨k, hk, hj⟩
    simp only [List.replicate_succ, List.replicate_zero, List.cons_append, List.nil_append]
    have c51 := spec51 (a.getD k default) (b.getD k default) (hp k)
    simp +contextual -implicitDefEqProofs (maxSteps := 2000000) (disch := omega) only [↓lenV, binV, ↓unV, ↓loadV, ↓storeV, ↓indexAddrV, ↓allocV, GVal.cells, grp, GVal.ofConst, ↓resV, resG, List.map, List.headD, List.take, List.drop, ↓reduceIte, Nat.reduceEqDiff, Nat.reduceAdd, Nat.reduceSub, Nat.reduceLeDiff, reduceCtorEq, implies_true, ne_eq, aggV, Tag.cap, List.replicate, allSolid, GVal.solid, Nat.reduceBEq, Nat.reduceMul, Nat.reduceLT, List.length_map, List.length_range, splice, vcA, ↓vcB, vcC, fbA, fbE, fbG, e50, segsG_length, segsG_at, segG]
    refine ⟨fun h1 => ⟨by omega, fun s1 => ⟨by omega, by omega, fun s2 => c51.then ?_⟩⟩, fun h1 => ?_⟩
    · by_cases e : a.getD k default = b.getD k default
      · rw [decide_eq_true e]
        simp +contextual -implicitDefEqProofs (maxSteps := 2000000) (disch := omega) only [↓lenV, binV, ↓unV, ↓loadV, ↓storeV, ↓indexAddrV, ↓allocV, GVal.cells, grp, GVal.ofConst, ↓resV, resG, List.map, List.headD, List.take, List.drop, ↓reduceIte, Nat.reduceEqDiff, Nat.reduceAdd, Nat.reduceSub, Nat.reduceLeDiff, reduceCtorEq, implies_true, ne_eq, aggV, Tag.cap, List.replicate, allSolid, GVal.solid, Nat.reduceBEq, Nat.reduceMul, Nat.reduceLT, List.length_map, List.length_range, splice, vcA, ↓vcB, vcC, fbA, fbE, fbG, e50]
        refine Into.at ⟨k + 1, by omega, fun j hj' => ?_⟩ (by show _ < _; simp; omega) ⟨_, rfl⟩ (by simp [WL, leG_self, leG_any, leG_int])
        by_cases e : j = k
        · rw [e]; assumption
        · exact hj j (by omega)
      · rw [decide_eq_false e]
        simp +contextual -implicitDefEqProofs (maxSteps := 2000000) (disch := omega) only [↓lenV, binV, ↓unV, ↓loadV, ↓storeV, ↓indexAddrV, ↓allocV, GVal.cells, grp, GVal.ofConst, ↓resV, resG, List.map, List.headD, List.take, List.drop, ↓reduceIte, Nat.reduceEqDiff, Nat.reduceAdd, Nat.reduceSub, Nat.reduceLeDiff, reduceCtorEq, implies_true, ne_eq, aggV, Tag.cap, List.replicate, allSolid, GVal.solid, Nat.reduceBEq, Nat.reduceMul, Nat.reduceLT, List.length_map, List.length_range, splice, vcA, ↓vcB, vcC, fbA, fbE, fbG, e50]
        rw [eq_comm, decide_eq_false_iff_not]; intro e'; exact e (by rw [e'])
    · rw [eq_comm, decide_eq_true_iff]
      exact segs_ext hlen fun j h => hj j (by omega)

theorem spec39 (a b : List Seg) (ta tb : Tag) (ha : a.length ≤ 17592186044416) (hp : ∀ i, (a.getD i default).par.length ≤ 17592186044416) : GPure Try.prog 39 [.slice (segsG a) ta, .slice (segsG b) tb] (.bool (decide (a = b))) := by
  refine h39.pure mixS (by simp) ?_
  simp only [gstart, s39, List.cons_append, List.nil_append, List.length_cons, List.length_nil, Nat.reduceAdd, Nat.reduceSub, List.replicate_succ, List.replicate_zero]
  simp +contextual -implicitDefEqProofs (maxSteps := 2000000) (disch := omega) only [drawC, ↓lenV, binV, ↓unV, ↓loadV, ↓indexAddrV, GVal.cells, grp, GVal.ofConst, ↓resV, resG, List.map, List.headD, List.take, List.drop, ↓reduceIte, Nat.reduceEqDiff, Nat.reduceAdd, Nat.reduceSub, Nat.reduceLeDiff, reduceCtorEq, implies_true, ne_eq, aggV, Tag.cap, List.replicate, allSolid, GVal.solid, Nat.reduceBEq, Nat.reduceMul, Nat.reduceLT, List.length_map, List.length_range, splice, vcA, ↓vcB, vcC, fbA, fbE, fbG, e39, segsG_length]
  refine ⟨fun h => ?_, fun h => ?_⟩
  · rw [eq_comm, decide_eq_false_iff_not]; intro e; subst e; exact h rfl
  · have hlen : a.length = b.length := by omega
    refine vcSLoop_by (ι := { k : Nat // k ≤ a.length ∧ ∀ j, j < k → a.getD j default = b.getD j default }) (fun k => ⟨[.slice (segsG a) ta, .slice (segsG b) tb, .any, .any, .any, .int .i64 (k.1 : Nat)] ++ List.replicate 21 .any, []⟩) (fun k => a.length - k.1) ?_ ?_
    · exact Into.first ⟨0, by omega, by omega⟩ ⟨[], by simp⟩ (by simp [WL, leG_self, leG_any])
    rintro ⟨k, hk, hj⟩
    have c18 := spec18 (a.getD k default) (b.getD k default) (hp k)
    simp +contextual -implicitDefEqProofs (maxSteps := 2000000) (disch := omega) only [drawC, ↓lenV, binV, ↓unV, ↓loadV, ↓indexAddrV, GVal.cells, grp, GVal.ofConst, ↓resV, resG, List.map, List.headD, List.take, List.drop, ↓reduceIte, Nat.reduceEqDiff, Nat.reduceAdd, Nat.reduceSub, Nat.reduceLeDiff, reduceCtorEq, implies_true, ne_eq, aggV, Tag.cap, List.replicate, allSolid, GVal.solid, Nat.reduceBEq, Nat.reduceMul, Nat.reduceLT, List.length_map, List.length_range, splice, vcA, ↓vcB, vcC, fbA, fbE, fbG, e39, segsG_length, segsG_at, segG]
    refine ⟨fun h1 => ⟨by omega, by omega, by omega, c18.then ?_⟩, fun h1 => ?_⟩
    · by_cases e : a.getD k default = b.getD k default
      · rw [decide_eq_true e]
        simp +contextual -implicitDefEqProofs (maxSteps := 2000000) (disch := omega) only [drawC, ↓lenV, binV, ↓unV, ↓loadV, ↓indexAddrV, GVal.cells, grp, GVal.ofConst, ↓resV, resG, List.map, List.headD, List.take, List.drop, ↓reduceIte, Nat.reduceEqDiff, Nat.reduceAdd, Nat.reduceSub, Nat.reduceLeDiff, reduceCtorEq, implies_true, ne_eq, aggV, Tag.cap, List.replicate, allSolid, GVal.solid, Nat.reduceBEq, Nat.reduceMul, Nat.reduceLT, List.length_map, List.length_range, splice, vcA, ↓vcB, vcC, fbA, fbE, fbG, e39]
        refine Into.at ⟨k + 1, by omega, fun j hj' => ?_⟩ (by show _ < _; simp; omega) ⟨_, rfl⟩ (by simp [WL, leG_self, leG_any, leG_int])
        by_cases e : j = k
        · rw [e]; assumption
        · exact hj j (by omega)
      · rw [decide_eq_false e]
        simp +contextual -implicitDefEqProofs (maxSteps := 2000000) (disch := omega) only [drawC, ↓lenV, binV, ↓unV, ↓loadV, ↓indexAddrV, GVal.cells, grp, GVal.ofConst, ↓resV, resG, List.map, List.headD, List.take, List.drop, ↓reduceIte, Nat.reduceEqDiff, Nat.reduceAdd, Nat.reduceSub, Nat.reduceLeDiff, reduceCtorEq, implies_true, ne_eq, aggV, Tag.cap, List.replicate, allSolid, GVal.solid, Nat.reduceBEq, Nat.reduceMul, Nat.reduceLT, List.length_map, List.length_range, splice, vcA, ↓vcB, vcC, fbA, fbE, fbG, e39]
        rw [eq_comm, decide_eq_false_iff_not]; intro e'; exact e (by rw [e'])
    · rw [eq_comm, decide_eq_true_iff]
      exact segs_ext hlen fun j h => hj j (by omega)

end Gv.Try
