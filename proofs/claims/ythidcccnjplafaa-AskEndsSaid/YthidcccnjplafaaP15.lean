/- Contracts: what lies between; sets of raw numbers. -/
import Derived.Test.YthidcccnjplafaaP14
set_option linter.unusedVariables false
set_option linter.unusedSimpArgs false
set_option maxRecDepth 20000
set_option maxHeartbeats 8000000
namespace Gv.Try
open Go Gv Go.Proofs
theorem aBetween {m o : List (List Int)} {L : List (List Seg)} (h : DagOK m o L) (a b : List Sp.S) (ta tb : Tag) (la : a.length ≤ 1000000) (lb : b.length ≤ 1000000) (oa : Sp.Ok a) (ob : Sp.Ok b) (st : Nat) (kk : Int) (hk : 0 ≤ kk ∧ kk ≤ 100000000) :
    GCalls Try.prog 30 [.ptr 0 st 0 0, .slice (spl a) ta, .slice (spl b) tb] [.row st 3 [dagG L (allN L) kk]] (fun g O' => ∃ x', O' = [x'] ∧ ∃ k', g = .slice (spl (idsP m o fun n => dP m o a n ∧ aP m o b n)) .none ∧ x' = .row st 3 [dagG L (allN L) k'] ∧ kk ≤ k' ∧ k' ≤ kk + 4000) := by
  have hT := h.tok.len
  have l1 := idsP_len m o (dP m o a)
  have l2 := idsP_len m o (aP m o b)
  have o1 := idsP_ok h.tok (dP m o a)
  have o2 := idsP_ok h.tok (aP m o b)
  have hf2 : L.length * (L.getD 0 []).length ≤ 4 * 1000 := Nat.mul_le_mul h.len4 (h.size 0).1
  have e : Sp.bothS (idsP m o (dP m o a)) (idsP m o (aP m o b)) = idsP m o fun n => dP m o a n ∧ aP m o b n := idsP_eq (Sp.bothS_rt _ _) fun n => by
    rw [Sp.bothS_has, idsP_has, idsP_has]
    constructor
    · rintro ⟨⟨p, q⟩, _, r⟩; exact ⟨p, q, r⟩
    · rintro ⟨p, q, r⟩; exact ⟨⟨p, q⟩, p, r⟩
  refine h30.calls mixS (by simp) ?_
  simp only [gstart, s30, List.cons_append, List.nil_append, List.length_cons, List.length_nil, Nat.reduceAdd, Nat.reduceSub, List.replicate_succ, List.replicate_zero]
  simp +contextual -implicitDefEqProofs (maxSteps := 2000000) (disch := omega) only [optV, ↓sliceV, bound, cutTag, hiTag, GVal.cells, grp, GVal.ofConst, ↓resV, resG, List.map, List.headD, List.take, List.drop, ↓reduceIte, Nat.reduceEqDiff, Nat.reduceAdd, Nat.reduceSub, Nat.reduceLeDiff, reduceCtorEq, implies_true, ne_eq, Tag.cap, List.replicate, allSolid, GVal.solid, Nat.reduceBEq, Nat.reduceMul, Nat.reduceLT, List.length_map, List.length_range, splice, vcA, ↓vcB, vcC, fbFf, e30]
  refine (aDescendants h a ta la oa).then ?_
  simp +contextual -implicitDefEqProofs (maxSteps := 2000000) (disch := omega) only [optV, ↓sliceV, bound, cutTag, hiTag, GVal.cells, grp, GVal.ofConst, ↓resV, resG, List.map, List.headD, List.take, List.drop, ↓reduceIte, Nat.reduceEqDiff, Nat.reduceAdd, Nat.reduceSub, Nat.reduceLeDiff, reduceCtorEq, implies_true, ne_eq, Tag.cap, List.replicate, allSolid, GVal.solid, Nat.reduceBEq, Nat.reduceMul, Nat.reduceLT, List.length_map, List.length_range, splice, vcA, ↓vcB, vcC, fbFf, e30]
  refine (aAncestors h b tb lb ob st kk hk).mono ?_
  rintro g O' ⟨_, rfl, k', rfl, rfl, h1, h2, h3⟩
  simp +contextual -implicitDefEqProofs (maxSteps := 2000000) (disch := omega) only [optV, ↓sliceV, bound, cutTag, hiTag, GVal.cells, grp, GVal.ofConst, ↓resV, resG, List.map, List.headD, List.take, List.drop, ↓reduceIte, Nat.reduceEqDiff, Nat.reduceAdd, Nat.reduceSub, Nat.reduceLeDiff, reduceCtorEq, implies_true, ne_eq, Tag.cap, List.replicate, allSolid, GVal.solid, Nat.reduceBEq, Nat.reduceMul, Nat.reduceLT, List.length_map, List.length_range, splice, vcA, ↓vcB, vcC, fbFf, e30]
  refine (sBoth _ _ .none .none (by omega) o1 o2).then ?_ (by rfl)
  rw [e]
  simp +contextual -implicitDefEqProofs (maxSteps := 2000000) (disch := omega) only [optV, ↓sliceV, bound, cutTag, hiTag, GVal.cells, grp, GVal.ofConst, ↓resV, resG, List.map, List.headD, List.take, List.drop, ↓reduceIte, Nat.reduceEqDiff, Nat.reduceAdd, Nat.reduceSub, Nat.reduceLeDiff, reduceCtorEq, implies_true, ne_eq, Tag.cap, List.replicate, allSolid, GVal.solid, Nat.reduceBEq, Nat.reduceMul, Nat.reduceLT, List.length_map, List.length_range, splice, vcA, ↓vcB, vcC, fbFf, e30]
  exact ⟨_, rfl, k', rfl, h1, by omega⟩
def elA (x y : Int) : Sp.S := if x.tmod 31 = 30 then (0, 9223372036854775807) else if x.tmod 3 = 1 then (x % 30 - 2 + 1099511627776, x % 30 - 2 + y % 7 - 1 + 1099511627776) else (x % 30 - 2, x % 30 - 2 + y % 7 - 1)
def setA (l : List Int) (k : Nat) : List Sp.S := (List.range k).map fun j => elA (l.getD (2 * j) 0) (l.getD (2 * j + 1) 0)
theorem elA_ok (x y : Int) : (-9223372036854775808 ≤ (elA x y).1 ∧ (elA x y).1 ≤ 9223372036854775807) ∧ (-9223372036854775808 ≤ (elA x y).2 ∧ (elA x y).2 ≤ 9223372036854775807) := by
  have e1 := Int.emod_nonneg x (by decide : (30 : Int) ≠ 0)
  have e2 := Int.emod_lt_of_pos x (by decide : (0 : Int) < 30)
  have e3 := Int.emod_nonneg y (by decide : (7 : Int) ≠ 0)
  have e4 := Int.emod_lt_of_pos y (by decide : (0 : Int) < 7)
  unfold elA
  split
  · simp only; omega
  · split <;> simp only <;> omega
theorem setA_lim (l : List Int) (k : Nat) (hk : k ≤ 6) : Sp.Lim (setA l k) 6 := by
  refine ⟨by simp [setA]; omega, fun s hs => ?_⟩
  simp only [setA, List.mem_map] at hs
  obtain ⟨j, _, rfl⟩ := hs
  exact elA_ok _ _
theorem aSet (l : List Int) (t : Tag) (hl : l.length ≤ 9223372036854775807) (hi : ∀ i, -9223372036854775808 ≤ l.getD i 0 ∧ l.getD i 0 ≤ 9223372036854775807) :
    GPure Try.prog 22 [.slice (ints l) t] (.slice (spl (setA l (min 6 (l.length / 2)))) .none) := by
  refine h22.pure mixS (by simp) ?_
  simp only [gstart, s22, List.cons_append, List.nil_append, List.length_cons, List.length_nil, Nat.reduceAdd, Nat.reduceSub, List.replicate_succ, List.replicate_zero]
  simp +contextual -implicitDefEqProofs (maxSteps := 2000000) (disch := omega) only [drawC, ↓lenV, binV, optV, ↓loadV, ↓storeV, ↓fieldAddrV, ↓indexAddrV, ↓allocV, ↓buildV, ↓buildSliceV, ↓sliceV, ↓appendV, ↓srcV, bound, cutTag, hiTag, fillG, fillE, place, GVal.cells, grp, GVal.ofConst, ↓resV, resG, List.map, List.headD, List.take, List.drop, ↓reduceIte, Nat.reduceEqDiff, Nat.reduceAdd, Nat.reduceSub, Nat.reduceLeDiff, reduceCtorEq, implies_true, ne_eq, ↓asrcV, aggV, Tag.cap, List.replicate, allSolid, GVal.solid, Nat.reduceBEq, Nat.reduceMul, Nat.reduceLT, List.length_map, List.length_range, splice, vcA, ↓vcB, vcC, fbFf, e22]
  refine vcSLoop_by (ι := { p : Nat × Nat // p.1 ≤ min 6 (l.length / 2) }) (fun p => ⟨[.slice (ints l) t, .any, .any, .slice (spl (setA l p.1.1)) (.tok 0 p.1.2), .int .i64 ((2 * p.1.1 : Nat) : Int)] ++ List.replicate 56 .any, [.tok p.1.2 2]⟩) (fun p => 6 - p.1.1) ?_ ?_
  · refine Into.tok 3 2 [] rfl rfl ?_
    simp +contextual -implicitDefEqProofs (maxSteps := 2000000) (disch := omega) only [drawC, ↓lenV, binV, optV, ↓loadV, ↓storeV, ↓fieldAddrV, ↓indexAddrV, ↓allocV, ↓buildV, ↓buildSliceV, ↓sliceV, ↓appendV, ↓srcV, bound, cutTag, hiTag, fillG, fillE, place, GVal.cells, grp, GVal.ofConst, ↓resV, resG, List.map, List.headD, List.take, List.drop, ↓reduceIte, Nat.reduceEqDiff, Nat.reduceAdd, Nat.reduceSub, Nat.reduceLeDiff, reduceCtorEq, implies_true, ne_eq, ↓asrcV, aggV, Tag.cap, List.replicate, allSolid, GVal.solid, Nat.reduceBEq, Nat.reduceMul, Nat.reduceLT, List.length_map, List.length_range, splice, vcA, ↓vcB, vcC, fbFf, e22]
    intro t0
    exact Into.first ⟨(0, t0), by omega⟩ ⟨[], by simp⟩ (by simp [WL, leG_self, leG_any, setA, spl_nil])
  · rintro ⟨⟨k, v⟩, hk⟩
    change k ≤ min 6 (l.length / 2) at hk
    have hx := hi (2 * k)
    have hy := hi (2 * k + 1)
    by_cases h : k < min 6 (l.length / 2)
    · have d0 : (((2 * k : Nat) : Int) + 1 < (l.length : Int)) = True := eq_true (by omega)
      have d1 : (((2 * k : Nat) : Int) < 12) = True := eq_true (by omega)
      have tn1 : (((2 * k : Nat) : Int) + 1).toNat = 2 * k + 1 := by omega
      have eN : setA l (k + 1) = setA l k ++ [elA (l.getD (2 * k) 0) (l.getD (2 * k + 1) 0)] := by simp [setA, List.range_succ]
      have lk : (setA l k).length = k := by simp [setA]
      have i1 := ints_at l (2 * k) (by omega)
      have i2 := ints_at l (2 * k + 1) (by omega)
      generalize l.getD (2 * k) 0 = x at *
      generalize l.getD (2 * k + 1) 0 = y at *
      have ee1 := Int.emod_nonneg x (by decide : (30 : Int) ≠ 0)
      have e2 := Int.emod_lt_of_pos x (by decide : (0 : Int) < 30)
      have e3 := Int.emod_nonneg y (by decide : (7 : Int) ≠ 0)
      have e4 := Int.emod_lt_of_pos y (by decide : (0 : Int) < 7)
      have cx := sPick x 30 (by omega) (by omega)
      have cy := sPick y 7 (by omega) (by omega)
      generalize setA l k = A at *
      by_cases c1 : x.tmod 3 = 1
      · by_cases c2 : x.tmod 31 = 30
        · have hE : elA x y = (0, 9223372036854775807) := by unfold elA; rw [if_pos c2]
          have t1 : (x.tmod 3 == 1) = true := by simpa using c1
          have t2 : (x.tmod 31 == 30) = true := by simpa using c2
          rw [hE] at eN
          simp +contextual -implicitDefEqProofs (maxSteps := 2000000) (disch := omega) only [vcS_skip, vcS_reg, vcS_drw, vcS_seq, vcS_cond, vcS_block, vcS_exit, vcS_ret, vcS_loopI, drawC, opsS_nil, opsS_one, opsS_if, ordS_nil, ordS_one, ordS_if, hold_mk, ev_tmp, ev_const, ev_func, put_some, put_none, setS_mk, ↓lenV, binV, optV, ↓loadV, ↓storeV, ↓fieldAddrV, ↓indexAddrV, ↓allocV, ↓buildV, ↓buildSliceV, ↓sliceV, ↓appendV, ↓srcV, bound, cutTag, hiTag, fillG, fillE, place, GVal.cells, grp, GVal.ofConst, ↓resV, resG, sget_0, sget_1, sget_2, sget_3, sget_4, set_0, set_1, set_2, set_3, set_4, setO_0, setO_1, setO_2, setL_0, setL_1, setL_2, List.map, List.headD, List.take, List.drop, ↓reduceIte, Nat.reduceEqDiff, Nat.reduceAdd, Nat.reduceSub, Nat.reduceLeDiff, reduceCtorEq, implies_true, ne_eq, norm_i64, ints_length, leG_bool, leG_int, ↓asrcV, aggV, Tag.cap, List.replicate, okCells_eq, allSolid_eq, allSolid, GVal.solid, all_nil, all_cons, all_append, all_ints, all_tabG, stamp_nil, stamp_tok, stamp_row, stamp_map, tick_nil, tick_tok, tick_row, tick_map, Nat.reduceBEq, tabG_length, tabG_at, Nat.reduceMul, Nat.reduceLT, List.length_map, List.length_range, leA_int, leA_bool, leA_slice, leA_agg, leA_tuple, WL_nil, WL_cons, leG_self, splice, ↓vcB, vcC, fbFf, e22, d0, d1, tn1, i1, i2, t1, t2, spl_length, all_spl, lk]
          refine ⟨by omega, by omega, ?_⟩
          refine cx.then ?_ (by rfl)
          simp +contextual -implicitDefEqProofs (maxSteps := 2000000) (disch := omega) only [vcS_skip, vcS_reg, vcS_drw, vcS_seq, vcS_cond, vcS_block, vcS_exit, vcS_ret, vcS_loopI, drawC, opsS_nil, opsS_one, opsS_if, ordS_nil, ordS_one, ordS_if, hold_mk, ev_tmp, ev_const, ev_func, put_some, put_none, setS_mk, ↓lenV, binV, optV, ↓loadV, ↓storeV, ↓fieldAddrV, ↓indexAddrV, ↓allocV, ↓buildV, ↓buildSliceV, ↓sliceV, ↓appendV, ↓srcV, bound, cutTag, hiTag, fillG, fillE, place, GVal.cells, grp, GVal.ofConst, ↓resV, resG, sget_0, sget_1, sget_2, sget_3, sget_4, set_0, set_1, set_2, set_3, set_4, setO_0, setO_1, setO_2, setL_0, setL_1, setL_2, List.map, List.headD, List.take, List.drop, ↓reduceIte, Nat.reduceEqDiff, Nat.reduceAdd, Nat.reduceSub, Nat.reduceLeDiff, reduceCtorEq, implies_true, ne_eq, norm_i64, ints_length, leG_bool, leG_int, ↓asrcV, aggV, Tag.cap, List.replicate, okCells_eq, allSolid_eq, allSolid, GVal.solid, all_nil, all_cons, all_append, all_ints, all_tabG, stamp_nil, stamp_tok, stamp_row, stamp_map, tick_nil, tick_tok, tick_row, tick_map, Nat.reduceBEq, tabG_length, tabG_at, Nat.reduceMul, Nat.reduceLT, List.length_map, List.length_range, leA_int, leA_bool, leA_slice, leA_agg, leA_tuple, WL_nil, WL_cons, leG_self, splice, ↓vcB, vcC, fbFf, e22, d0, d1, tn1, i1, i2, t1, t2, spl_length, all_spl, lk]
          intro st
          refine ⟨by omega, ?_⟩
          refine cy.then ?_ (by rfl)
          simp +contextual -implicitDefEqProofs (maxSteps := 2000000) (disch := omega) only [vcS_skip, vcS_reg, vcS_drw, vcS_seq, vcS_cond, vcS_block, vcS_exit, vcS_ret, vcS_loopI, drawC, opsS_nil, opsS_one, opsS_if, ordS_nil, ordS_one, ordS_if, hold_mk, ev_tmp, ev_const, ev_func, put_some, put_none, setS_mk, ↓lenV, binV, optV, ↓loadV, ↓storeV, ↓fieldAddrV, ↓indexAddrV, ↓allocV, ↓buildV, ↓buildSliceV, ↓sliceV, ↓appendV, ↓srcV, bound, cutTag, hiTag, fillG, fillE, place, GVal.cells, grp, GVal.ofConst, ↓resV, resG, sget_0, sget_1, sget_2, sget_3, sget_4, set_0, set_1, set_2, set_3, set_4, setO_0, setO_1, setO_2, setL_0, setL_1, setL_2, List.map, List.headD, List.take, List.drop, ↓reduceIte, Nat.reduceEqDiff, Nat.reduceAdd, Nat.reduceSub, Nat.reduceLeDiff, reduceCtorEq, implies_true, ne_eq, norm_i64, ints_length, leG_bool, leG_int, ↓asrcV, aggV, Tag.cap, List.replicate, okCells_eq, allSolid_eq, allSolid, GVal.solid, all_nil, all_cons, all_append, all_ints, all_tabG, stamp_nil, stamp_tok, stamp_row, stamp_map, tick_nil, tick_tok, tick_row, tick_map, Nat.reduceBEq, tabG_length, tabG_at, Nat.reduceMul, Nat.reduceLT, List.length_map, List.length_range, leA_int, leA_bool, leA_slice, leA_agg, leA_tuple, WL_nil, WL_cons, leG_self, splice, ↓vcB, vcC, fbFf, e22, d0, d1, tn1, i1, i2, t1, t2, spl_length, all_spl, lk]
          refine ⟨⟨[], by simp⟩, by omega, by omega, by omega, by omega, by omega, by omega, by omega, by omega, fun v2 => ?_⟩
          exact Into.at ⟨(k + 1, v2), by show k + 1 ≤ _; omega⟩ (by show 6 - (k + 1) < 6 - k; omega) ⟨[_], rfl⟩ (by simp [WL, leG_self, leG_any, leG_int, eN, spl_append, spl_one, spG] <;> omega)
        · have hE : elA x y = (x % 30 - 2 + 1099511627776, x % 30 - 2 + y % 7 - 1 + 1099511627776) := by unfold elA; rw [if_neg c2, if_pos c1]
          have t1 : (x.tmod 3 == 1) = true := by simpa using c1
          have t2 : (x.tmod 31 == 30) = false := by simpa using c2
          rw [hE] at eN
          simp +contextual -implicitDefEqProofs (maxSteps := 2000000) (disch := omega) only [vcS_skip, vcS_reg, vcS_drw, vcS_seq, vcS_cond, vcS_block, vcS_exit, vcS_ret, vcS_loopI, drawC, opsS_nil, opsS_one, opsS_if, ordS_nil, ordS_one, ordS_if, hold_mk, ev_tmp, ev_const, ev_func, put_some, put_none, setS_mk, ↓lenV, binV, optV, ↓loadV, ↓storeV, ↓fieldAddrV, ↓indexAddrV, ↓allocV, ↓buildV, ↓buildSliceV, ↓sliceV, ↓appendV, ↓srcV, bound, cutTag, hiTag, fillG, fillE, place, GVal.cells, grp, GVal.ofConst, ↓resV, resG, sget_0, sget_1, sget_2, sget_3, sget_4, set_0, set_1, set_2, set_3, set_4, setO_0, setO_1, setO_2, setL_0, setL_1, setL_2, List.map, List.headD, List.take, List.drop, ↓reduceIte, Nat.reduceEqDiff, Nat.reduceAdd, Nat.reduceSub, Nat.reduceLeDiff, reduceCtorEq, implies_true, ne_eq, norm_i64, ints_length, leG_bool, leG_int, ↓asrcV, aggV, Tag.cap, List.replicate, okCells_eq, allSolid_eq, allSolid, GVal.solid, all_nil, all_cons, all_append, all_ints, all_tabG, stamp_nil, stamp_tok, stamp_row, stamp_map, tick_nil, tick_tok, tick_row, tick_map, Nat.reduceBEq, tabG_length, tabG_at, Nat.reduceMul, Nat.reduceLT, List.length_map, List.length_range, leA_int, leA_bool, leA_slice, leA_agg, leA_tuple, WL_nil, WL_cons, leG_self, splice, ↓vcB, vcC, fbFf, e22, d0, d1, tn1, i1, i2, t1, t2, spl_length, all_spl, lk]
          refine ⟨by omega, by omega, ?_⟩
          refine cx.then ?_ (by rfl)
          simp +contextual -implicitDefEqProofs (maxSteps := 2000000) (disch := omega) only [vcS_skip, vcS_reg, vcS_drw, vcS_seq, vcS_cond, vcS_block, vcS_exit, vcS_ret, vcS_loopI, drawC, opsS_nil, opsS_one, opsS_if, ordS_nil, ordS_one, ordS_if, hold_mk, ev_tmp, ev_const, ev_func, put_some, put_none, setS_mk, ↓lenV, binV, optV, ↓loadV, ↓storeV, ↓fieldAddrV, ↓indexAddrV, ↓allocV, ↓buildV, ↓buildSliceV, ↓sliceV, ↓appendV, ↓srcV, bound, cutTag, hiTag, fillG, fillE, place, GVal.cells, grp, GVal.ofConst, ↓resV, resG, sget_0, sget_1, sget_2, sget_3, sget_4, set_0, set_1, set_2, set_3, set_4, setO_0, setO_1, setO_2, setL_0, setL_1, setL_2, List.map, List.headD, List.take, List.drop, ↓reduceIte, Nat.reduceEqDiff, Nat.reduceAdd, Nat.reduceSub, Nat.reduceLeDiff, reduceCtorEq, implies_true, ne_eq, norm_i64, ints_length, leG_bool, leG_int, ↓asrcV, aggV, Tag.cap, List.replicate, okCells_eq, allSolid_eq, allSolid, GVal.solid, all_nil, all_cons, all_append, all_ints, all_tabG, stamp_nil, stamp_tok, stamp_row, stamp_map, tick_nil, tick_tok, tick_row, tick_map, Nat.reduceBEq, tabG_length, tabG_at, Nat.reduceMul, Nat.reduceLT, List.length_map, List.length_range, leA_int, leA_bool, leA_slice, leA_agg, leA_tuple, WL_nil, WL_cons, leG_self, splice, ↓vcB, vcC, fbFf, e22, d0, d1, tn1, i1, i2, t1, t2, spl_length, all_spl, lk]
          intro st
          refine ⟨by omega, ?_⟩
          refine cy.then ?_ (by rfl)
          simp +contextual -implicitDefEqProofs (maxSteps := 2000000) (disch := omega) only [vcS_skip, vcS_reg, vcS_drw, vcS_seq, vcS_cond, vcS_block, vcS_exit, vcS_ret, vcS_loopI, drawC, opsS_nil, opsS_one, opsS_if, ordS_nil, ordS_one, ordS_if, hold_mk, ev_tmp, ev_const, ev_func, put_some, put_none, setS_mk, ↓lenV, binV, optV, ↓loadV, ↓storeV, ↓fieldAddrV, ↓indexAddrV, ↓allocV, ↓buildV, ↓buildSliceV, ↓sliceV, ↓appendV, ↓srcV, bound, cutTag, hiTag, fillG, fillE, place, GVal.cells, grp, GVal.ofConst, ↓resV, resG, sget_0, sget_1, sget_2, sget_3, sget_4, set_0, set_1, set_2, set_3, set_4, setO_0, setO_1, setO_2, setL_0, setL_1, setL_2, List.map, List.headD, List.take, List.drop, ↓reduceIte, Nat.reduceEqDiff, Nat.reduceAdd, Nat.reduceSub, Nat.reduceLeDiff, reduceCtorEq, implies_true, ne_eq, norm_i64, ints_length, leG_bool, leG_int, ↓asrcV, aggV, Tag.cap, List.replicate, okCells_eq, allSolid_eq, allSolid, GVal.solid, all_nil, all_cons, all_append, all_ints, all_tabG, stamp_nil, stamp_tok, stamp_row, stamp_map, tick_nil, tick_tok, tick_row, tick_map, Nat.reduceBEq, tabG_length, tabG_at, Nat.reduceMul, Nat.reduceLT, List.length_map, List.length_range, leA_int, leA_bool, leA_slice, leA_agg, leA_tuple, WL_nil, WL_cons, leG_self, splice, ↓vcB, vcC, fbFf, e22, d0, d1, tn1, i1, i2, t1, t2, spl_length, all_spl, lk]
          refine ⟨⟨[], by simp⟩, by omega, by omega, by omega, by omega, by omega, by omega, by omega, by omega, fun v2 => ?_⟩
          exact Into.at ⟨(k + 1, v2), by show k + 1 ≤ _; omega⟩ (by show 6 - (k + 1) < 6 - k; omega) ⟨[_], rfl⟩ (by simp [WL, leG_self, leG_any, leG_int, eN, spl_append, spl_one, spG] <;> omega)
      · by_cases c2 : x.tmod 31 = 30
        · have hE : elA x y = (0, 9223372036854775807) := by unfold elA; rw [if_pos c2]
          have t1 : (x.tmod 3 == 1) = false := by simpa using c1
          have t2 : (x.tmod 31 == 30) = true := by simpa using c2
          rw [hE] at eN
          simp +contextual -implicitDefEqProofs (maxSteps := 2000000) (disch := omega) only [vcS_skip, vcS_reg, vcS_drw, vcS_seq, vcS_cond, vcS_block, vcS_exit, vcS_ret, vcS_loopI, drawC, opsS_nil, opsS_one, opsS_if, ordS_nil, ordS_one, ordS_if, hold_mk, ev_tmp, ev_const, ev_func, put_some, put_none, setS_mk, ↓lenV, binV, optV, ↓loadV, ↓storeV, ↓fieldAddrV, ↓indexAddrV, ↓allocV, ↓buildV, ↓buildSliceV, ↓sliceV, ↓appendV, ↓srcV, bound, cutTag, hiTag, fillG, fillE, place, GVal.cells, grp, GVal.ofConst, ↓resV, resG, sget_0, sget_1, sget_2, sget_3, sget_4, set_0, set_1, set_2, set_3, set_4, setO_0, setO_1, setO_2, setL_0, setL_1, setL_2, List.map, List.headD, List.take, List.drop, ↓reduceIte, Nat.reduceEqDiff, Nat.reduceAdd, Nat.reduceSub, Nat.reduceLeDiff, reduceCtorEq, implies_true, ne_eq, norm_i64, ints_length, leG_bool, leG_int, ↓asrcV, aggV, Tag.cap, List.replicate, okCells_eq, allSolid_eq, allSolid, GVal.solid, all_nil, all_cons, all_append, all_ints, all_tabG, stamp_nil, stamp_tok, stamp_row, stamp_map, tick_nil, tick_tok, tick_row, tick_map, Nat.reduceBEq, tabG_length, tabG_at, Nat.reduceMul, Nat.reduceLT, List.length_map, List.length_range, leA_int, leA_bool, leA_slice, leA_agg, leA_tuple, WL_nil, WL_cons, leG_self, splice, ↓vcB, vcC, fbFf, e22, d0, d1, tn1, i1, i2, t1, t2, spl_length, all_spl, lk]
          refine ⟨by omega, by omega, ?_⟩
          refine cx.then ?_ (by rfl)
          simp +contextual -implicitDefEqProofs (maxSteps := 2000000) (disch := omega) only [vcS_skip, vcS_reg, vcS_drw, vcS_seq, vcS_cond, vcS_block, vcS_exit, vcS_ret, vcS_loopI, drawC, opsS_nil, opsS_one, opsS_if, ordS_nil, ordS_one, ordS_if, hold_mk, ev_tmp, ev_const, ev_func, put_some, put_none, setS_mk, ↓lenV, binV, optV, ↓loadV, ↓storeV, ↓fieldAddrV, ↓indexAddrV, ↓allocV, ↓buildV, ↓buildSliceV, ↓sliceV, ↓appendV, ↓srcV, bound, cutTag, hiTag, fillG, fillE, place, GVal.cells, grp, GVal.ofConst, ↓resV, resG, sget_0, sget_1, sget_2, sget_3, sget_4, set_0, set_1, set_2, set_3, set_4, setO_0, setO_1, setO_2, setL_0, setL_1, setL_2, List.map, List.headD, List.take, List.drop, ↓reduceIte, Nat.reduceEqDiff, Nat.reduceAdd, Nat.reduceSub, Nat.reduceLeDiff, reduceCtorEq, implies_true, ne_eq, norm_i64, ints_length, leG_bool, leG_int, ↓asrcV, aggV, Tag.cap, List.replicate, okCells_eq, allSolid_eq, allSolid, GVal.solid, all_nil, all_cons, all_append, all_ints, all_tabG, stamp_nil, stamp_tok, stamp_row, stamp_map, tick_nil, tick_tok, tick_row, tick_map, Nat.reduceBEq, tabG_length, tabG_at, Nat.reduceMul, Nat.reduceLT, List.length_map, List.length_range, leA_int, leA_bool, leA_slice, leA_agg, leA_tuple, WL_nil, WL_cons, leG_self, splice, ↓vcB, vcC, fbFf, e22, d0, d1, tn1, i1, i2, t1, t2, spl_length, all_spl, lk]
          intro st
          refine ⟨by omega, ?_⟩
          refine cy.then ?_ (by rfl)
          simp +contextual -implicitDefEqProofs (maxSteps := 2000000) (disch := omega) only [vcS_skip, vcS_reg, vcS_drw, vcS_seq, vcS_cond, vcS_block, vcS_exit, vcS_ret, vcS_loopI, drawC, opsS_nil, opsS_one, opsS_if, ordS_nil, ordS_one, ordS_if, hold_mk, ev_tmp, ev_const, ev_func, put_some, put_none, setS_mk, ↓lenV, binV, optV, ↓loadV, ↓storeV, ↓fieldAddrV, ↓indexAddrV, ↓allocV, ↓buildV, ↓buildSliceV, ↓sliceV, ↓appendV, ↓srcV, bound, cutTag, hiTag, fillG, fillE, place, GVal.cells, grp, GVal.ofConst, ↓resV, resG, sget_0, sget_1, sget_2, sget_3, sget_4, set_0, set_1, set_2, set_3, set_4, setO_0, setO_1, setO_2, setL_0, setL_1, setL_2, List.map, List.headD, List.take, List.drop, ↓reduceIte, Nat.reduceEqDiff, Nat.reduceAdd, Nat.reduceSub, Nat.reduceLeDiff, reduceCtorEq, implies_true, ne_eq, norm_i64, ints_length, leG_bool, leG_int, ↓asrcV, aggV, Tag.cap, List.replicate, okCells_eq, allSolid_eq, allSolid, GVal.solid, all_nil, all_cons, all_append, all_ints, all_tabG, stamp_nil, stamp_tok, stamp_row, stamp_map, tick_nil, tick_tok, tick_row, tick_map, Nat.reduceBEq, tabG_length, tabG_at, Nat.reduceMul, Nat.reduceLT, List.length_map, List.length_range, leA_int, leA_bool, leA_slice, leA_agg, leA_tuple, WL_nil, WL_cons, leG_self, splice, ↓vcB, vcC, fbFf, e22, d0, d1, tn1, i1, i2, t1, t2, spl_length, all_spl, lk]
          refine ⟨⟨[], by simp⟩, by omega, by omega, by omega, by omega, by omega, by omega, by omega, by omega, fun v2 => ?_⟩
          exact Into.at ⟨(k + 1, v2), by show k + 1 ≤ _; omega⟩ (by show 6 - (k + 1) < 6 - k; omega) ⟨[_], rfl⟩ (by simp [WL, leG_self, leG_any, leG_int, eN, spl_append, spl_one, spG] <;> omega)
        · have hE : elA x y = (x % 30 - 2, x % 30 - 2 + y % 7 - 1) := by unfold elA; rw [if_neg c2, if_neg c1]
          have t1 : (x.tmod 3 == 1) = false := by simpa using c1
          have t2 : (x.tmod 31 == 30) = false := by simpa using c2
          rw [hE] at eN
          simp +contextual -implicitDefEqProofs (maxSteps := 2000000) (disch := omega) only [vcS_skip, vcS_reg, vcS_drw, vcS_seq, vcS_cond, vcS_block, vcS_exit, vcS_ret, vcS_loopI, drawC, opsS_nil, opsS_one, opsS_if, ordS_nil, ordS_one, ordS_if, hold_mk, ev_tmp, ev_const, ev_func, put_some, put_none, setS_mk, ↓lenV, binV, optV, ↓loadV, ↓storeV, ↓fieldAddrV, ↓indexAddrV, ↓allocV, ↓buildV, ↓buildSliceV, ↓sliceV, ↓appendV, ↓srcV, bound, cutTag, hiTag, fillG, fillE, place, GVal.cells, grp, GVal.ofConst, ↓resV, resG, sget_0, sget_1, sget_2, sget_3, sget_4, set_0, set_1, set_2, set_3, set_4, setO_0, setO_1, setO_2, setL_0, setL_1, setL_2, List.map, List.headD, List.take, List.drop, ↓reduceIte, Nat.reduceEqDiff, Nat.reduceAdd, Nat.reduceSub, Nat.reduceLeDiff, reduceCtorEq, implies_true, ne_eq, norm_i64, ints_length, leG_bool, leG_int, ↓asrcV, aggV, Tag.cap, List.replicate, okCells_eq, allSolid_eq, allSolid, GVal.solid, all_nil, all_cons, all_append, all_ints, all_tabG, stamp_nil, stamp_tok, stamp_row, stamp_map, tick_nil, tick_tok, tick_row, tick_map, Nat.reduceBEq, tabG_length, tabG_at, Nat.reduceMul, Nat.reduceLT, List.length_map, List.length_range, leA_int, leA_bool, leA_slice, leA_agg, leA_tuple, WL_nil, WL_cons, leG_self, splice, ↓vcB, vcC, fbFf, e22, d0, d1, tn1, i1, i2, t1, t2, spl_length, all_spl, lk]
          refine ⟨by omega, by omega, ?_⟩
          refine cx.then ?_ (by rfl)
          simp +contextual -implicitDefEqProofs (maxSteps := 2000000) (disch := omega) only [vcS_skip, vcS_reg, vcS_drw, vcS_seq, vcS_cond, vcS_block, vcS_exit, vcS_ret, vcS_loopI, drawC, opsS_nil, opsS_one, opsS_if, ordS_nil, ordS_one, ordS_if, hold_mk, ev_tmp, ev_const, ev_func, put_some, put_none, setS_mk, ↓lenV, binV, optV, ↓loadV, ↓storeV, ↓fieldAddrV, ↓indexAddrV, ↓allocV, ↓buildV, ↓buildSliceV, ↓sliceV, ↓appendV, ↓srcV, bound, cutTag, hiTag, fillG, fillE, place, GVal.cells, grp, GVal.ofConst, ↓resV, resG, sget_0, sget_1, sget_2, sget_3, sget_4, set_0, set_1, set_2, set_3, set_4, setO_0, setO_1, setO_2, setL_0, setL_1, setL_2, List.map, List.headD, List.take, List.drop, ↓reduceIte, Nat.reduceEqDiff, Nat.reduceAdd, Nat.reduceSub, Nat.reduceLeDiff, reduceCtorEq, implies_true, ne_eq, norm_i64, ints_length, leG_bool, leG_int, ↓asrcV, aggV, Tag.cap, List.replicate, okCells_eq, allSolid_eq, allSolid, GVal.solid, all_nil, all_cons, all_append, all_ints, all_tabG, stamp_nil, stamp_tok, stamp_row, stamp_map, tick_nil, tick_tok, tick_row, tick_map, Nat.reduceBEq, tabG_length, tabG_at, Nat.reduceMul, Nat.reduceLT, List.length_map, List.length_range, leA_int, leA_bool, leA_slice, leA_agg, leA_tuple, WL_nil, WL_cons, leG_self, splice, ↓vcB, vcC, fbFf, e22, d0, d1, tn1, i1, i2, t1, t2, spl_length, all_spl, lk]
          intro st
          refine ⟨by omega, ?_⟩
          refine cy.then ?_ (by rfl)
          simp +contextual -implicitDefEqProofs (maxSteps := 2000000) (disch := omega) only [vcS_skip, vcS_reg, vcS_drw, vcS_seq, vcS_cond, vcS_block, vcS_exit, vcS_ret, vcS_loopI, drawC, opsS_nil, opsS_one, opsS_if, ordS_nil, ordS_one, ordS_if, hold_mk, ev_tmp, ev_const, ev_func, put_some, put_none, setS_mk, ↓lenV, binV, optV, ↓loadV, ↓storeV, ↓fieldAddrV, ↓indexAddrV, ↓allocV, ↓buildV, ↓buildSliceV, ↓sliceV, ↓appendV, ↓srcV, bound, cutTag, hiTag, fillG, fillE, place, GVal.cells, grp, GVal.ofConst, ↓resV, resG, sget_0, sget_1, sget_2, sget_3, sget_4, set_0, set_1, set_2, set_3, set_4, setO_0, setO_1, setO_2, setL_0, setL_1, setL_2, List.map, List.headD, List.take, List.drop, ↓reduceIte, Nat.reduceEqDiff, Nat.reduceAdd, Nat.reduceSub, Nat.reduceLeDiff, reduceCtorEq, implies_true, ne_eq, norm_i64, ints_length, leG_bool, leG_int, ↓asrcV, aggV, Tag.cap, List.replicate, okCells_eq, allSolid_eq, allSolid, GVal.solid, all_nil, all_cons, all_append, all_ints, all_tabG, stamp_nil, stamp_tok, stamp_row, stamp_map, tick_nil, tick_tok, tick_row, tick_map, Nat.reduceBEq, tabG_length, tabG_at, Nat.reduceMul, Nat.reduceLT, List.length_map, List.length_range, leA_int, leA_bool, leA_slice, leA_agg, leA_tuple, WL_nil, WL_cons, leG_self, splice, ↓vcB, vcC, fbFf, e22, d0, d1, tn1, i1, i2, t1, t2, spl_length, all_spl, lk]
          refine ⟨⟨[], by simp⟩, by omega, by omega, by omega, by omega, by omega, by omega, by omega, by omega, fun v2 => ?_⟩
          exact Into.at ⟨(k + 1, v2), by show k + 1 ≤ _; omega⟩ (by show 6 - (k + 1) < 6 - k; omega) ⟨[_], rfl⟩ (by simp [WL, leG_self, leG_any, leG_int, eN, spl_append, spl_one, spG] <;> omega)
    · have hk' : k = min 6 (l.length / 2) := by omega
      have fin : setA l k = setA l (min 6 (l.length / 2)) := by rw [← hk']
      generalize setA l (min 6 (l.length / 2)) = F at *
      simp +contextual -implicitDefEqProofs (maxSteps := 2000000) (disch := omega) only [drawC, ↓lenV, binV, optV, ↓loadV, ↓storeV, ↓fieldAddrV, ↓indexAddrV, ↓allocV, ↓buildV, ↓buildSliceV, ↓sliceV, ↓appendV, ↓srcV, bound, cutTag, hiTag, fillG, fillE, place, GVal.cells, grp, GVal.ofConst, ↓resV, resG, List.map, List.headD, List.take, List.drop, ↓reduceIte, Nat.reduceEqDiff, Nat.reduceAdd, Nat.reduceSub, Nat.reduceLeDiff, reduceCtorEq, implies_true, ne_eq, ↓asrcV, aggV, Tag.cap, List.replicate, allSolid, GVal.solid, Nat.reduceBEq, Nat.reduceMul, Nat.reduceLT, List.length_map, List.length_range, splice, vcA, ↓vcB, vcC, fbFf, e22]
      exact ⟨fun h1 => ⟨fun h2 => by exfalso; omega, fun _ => by rw [fin]⟩, fun _ => by rw [fin]⟩
end Gv.Try
/- The plain laws of heads, roots, what lies between. -/
set_option linter.unusedVariables false
set_option linter.unusedSimpArgs false
set_option maxRecDepth 20000
set_option maxHeartbeats 8000000
namespace Gv.Try
open Go Gv Go.Proofs
section
variable {m o : List (List Int)} (h : TOK m o) {s t : List Sp.S}
include h
/-- each one of a set is an ancestor of a head -/
theorem up_heads : ∀ (k : Nat) (n : Int), 1099511628776 - n < k → inT m o n → Sp.has s n → aP m o (idsP m o fun n => Sp.has s n ∧ ¬ pP m o s n) n := by
  intro k
  induction k with
  | zero => intro n h1 h2 _; have := inT_range h h2; omega
  | succ k ih =>
    intro n h1 h2 h3
    by_cases c : pP m o s n
    · obtain ⟨x, hx, hsx, hp⟩ := c
      have := (h.par hp).1
      obtain ⟨b, hb, hb2, hl⟩ := ih x (by omega) hx hsx
      exact ⟨b, hb, hb2, (Leads.par hp h2).trans hl⟩
    · exact ⟨n, h2, (idsP_has _ _ _ _).2 ⟨h2, h3, c⟩, Leads.refl m o n⟩
theorem down_roots : ∀ (k : Nat) (n : Int), n < k → inT m o n → Sp.has s n → dP m o (idsP m o fun n => Sp.has s n ∧ ¬ cP m o s n) n := by
  intro k
  induction k with
  | zero => intro n h1 h2 _; have := inT_range h h2; omega
  | succ k ih =>
    intro n h1 h2 h3
    by_cases c : cP m o s n
    · obtain ⟨p, hp, hs⟩ := c
      have hh := h.par hp
      obtain ⟨a, ha, ha2, hl⟩ := ih p (by omega) hh.2 hs
      exact ⟨a, ha, ha2, hl.trans (Leads.par hp hh.2)⟩
    · exact ⟨n, h2, (idsP_has _ _ _ _).2 ⟨h2, h3, c⟩, Leads.refl m o n⟩
end
theorem ne_of_has {l : List Sp.S} {n : Int} (h : Sp.has l n) : 0 < l.length := by
  obtain ⟨x, hx, _⟩ := h
  exact List.length_pos_iff.2 (fun e => by rw [e] at hx; simp at hx)
theorem has_of_ne {l : List Sp.S} (h : Sp.Rt 0 l) (hl : 0 < l.length) : ∃ n, Sp.has l n := by
  have hm : l.getD 0 (0, 0) ∈ l := by rw [List.getD_eq_getElem?_getD, List.getElem?_eq_getElem hl]; exact List.getElem_mem _
  exact ⟨_, h.lo (Int.le_refl _) hm⟩
theorem minus_nil {a b : List Sp.S} (ha : Sp.Ok a) (hb : Sp.Ok b) (h : ∀ n, Sp.has a n → Sp.has b n) : Sp.minus a b = [] := Sp.empty_of (Sp.minus_rt _ _) fun n q => by
  have := (Sp.minus_has ha hb n).1 q
  exact this.2 (h n this.1)
theorem aMinusNil {a b : List Sp.S} (la : a.length ≤ 1000) (lb : b.length ≤ 1000) (ha : Sp.Ok a) (hb : Sp.Ok b) (h : ∀ n, Sp.has a n → Sp.has b n) : GPure Try.prog 31 [.slice (spl a) .none, .slice (spl b) .none] (.slice [] .none) := by
  have := sMinusR a b .none .none ⟨la, lb⟩ ha hb
  rw [minus_nil ha hb h] at this
  exact this
theorem aSame {a b : List Sp.S} (la : a.length ≤ 1000) (e : a = b) : GPure Try.prog 26 [.slice (spl a) .none, .slice (spl b) .none] (.bool true) := by
  have := sSameSpans a b .none .none (by omega)
  rw [decide_eq_true e] at this
  exact this
end Gv.Try
