/- Contracts: what lies between; sets of raw numbers. -/
import Derived.Test.YthidcccnjplafaaP14
set_option linter.unusedVariables false
set_option linter.unusedSimpArgs false
set_option maxRecDepth 20000
set_option maxHeartbeats 8000000
namespace Gv.Try
open Go Gv Go.Proofs
theorem aBetween {m o : List (List Int)} {L : List (List Seg)} (h : DagOK m o L) (a b : List Sp.S) (ta tb : Tag) (la : a.length ≤ 1000000) (lb : b.length ≤ 1000000) (oa : Sp.Ok a) (ob : Sp.Ok b) (st : Nat) (kk : Int) (hk : 0 ≤ kk ∧ kk ≤ 100000000) :
    GCalls Try.prog 30 [.ptr 0 st 0 0, .slice (spl a) ta, .slice (spl b) tb] [.row st 3 [dagG L (allN L) kk]] (fun g O' => ∃ x', O' = [x'] ∧ ∃ k', g = .slice (spl (idsP m o fun n => dP m o a n ∧ aP m o b n)) .none ∧ x' = .row st 3 [dagG L (allN L) k'] ∧ kk ≤ k' ∧ k' ≤ kk + 4000) := by
  have hT := h.tok.len
  have l1 := idsP_len m o (dP m o a)
  have l2 := idsP_len m o (aP m o b)
  have o1 := idsP_ok h.tok (dP m o a)
  have o2 := idsP_ok h.tok (aP m o b)
  have hf2 : L.length * (L.getD 0 []).length ≤ 4 * 1000 := Nat.mul_le_mul h.len4 (h.size 0).1
  have e : Sp.bothS (idsP m o (dP m o a)) (idsP m o (aP m o b)) = idsP m o fun n => dP m o a n ∧ aP m o b n := idsP_eq (Sp.bothS_rt _ _) fun n => by
    rw [Sp.bothS_has, idsP_has, idsP_has]
    constructor
    · rintro ⟨⟨p, q⟩, _, r⟩; exact ⟨p, q, r⟩
    · rintro ⟨p, q, r⟩; exact ⟨⟨p, q⟩, p, r⟩
  refine h30.calls mixS (by simp) ?_
  simp only [gstart, s30, List.cons_append, List.nil_append, List.length_cons, List.length_nil, Nat.reduceAdd, Nat.reduceSub, List.replicate_succ, List.replicate_zero]
  simp +contextual -implicitDefEqProofs (maxSteps := 2000000) (disch := omega) only [optV, ↓sliceV, bound, cutTag, hiTag, GVal.cells, grp, GVal.ofConst, ↓resV, resG, List.map, List.headD, List.take, List.drop, ↓reduceIte, Nat.reduceEqDiff, Nat.reduceAdd, Nat.reduceSub, Nat.reduceLeDiff, reduceCtorEq, implies_true, ne_eq, Tag.cap, List.replicate, allSolid, GVal.solid, Nat.reduceBEq, Nat.reduceMul, Nat.reduceLT, List.length_map, List.length_range, splice, vcA, ↓vcB, vcC, fbFf, e30]
  refine (aDescendants h a ta la oa).then ?_
  simp +contextual -implicitDefEqProofs (maxSteps := 2000000) (disch := omega) only [optV, ↓sliceV, bound, cutTag, hiTag, GVal.cells, grp, GVal.ofConst, ↓resV, resG, List.map, List.headD, List.take, List.drop, ↓reduceIte, Nat.reduceEqDiff, Nat.reduceAdd, Nat.reduceSub, Nat.reduceLeDiff, reduceCtorEq, implies_true, ne_eq, Tag.cap, List.replicate, allSolid, GVal.solid, Nat.reduceBEq, Nat.reduceMul, Nat.reduceLT, List.length_map, List.length_range, splice, vcA, ↓vcB, vcC, fbFf, e30]
  refine (aAncestors h b tb lb ob st kk hk).mono ?_
  rintro g O' ⟨_, rfl, k', rfl, rfl, h1, h2, h3⟩
  simp +contextual -implicitDefEqProofs (maxSteps := 2000000) (disch := omega) only [optV, ↓sliceV, bound, cutTag, hiTag, GVal.cells, grp, GVal.ofConst, ↓resV, resG, List.map, List.headD, List.take, List.drop, ↓reduceIte, Nat.reduceEqDiff, Nat.reduceAdd, Nat.reduceSub, Nat.reduceLeDiff, reduceCtorEq, implies_true, ne_eq, Tag.cap, List.replicate, allSolid, GVal.solid, Nat.reduceBEq, Nat.reduceMul, Nat.reduceLT, List.length_map, List.length_range, splice, vcA, ↓vcB, vcC, fbFf, e30]
  refine (sBoth _ _ .none .none (by omega) o1 o2).then ?_ (by rfl)
  rw [e]
  simp +contextual -implicitDefEqProofs (maxSteps := 2000000) (disch := omega) only [optV, ↓sliceV, bound, cutTag, hiTag, GVal.cells, grp, GVal.ofConst, ↓resV, resG, List.map, List.headD, List.take, List.drop, ↓reduceIte, Nat.reduceEqDiff, Nat.reduceAdd, Nat.reduceSub, Nat.reduceLeDiff, reduceCtorEq, implies_true, ne_eq, Tag.cap, List.replicate, allSolid, GVal.solid, Nat.reduceBEq, Nat.reduceMul, Nat.reduceLT, List.length_map, List.length_range, splice, vcA, ↓vcB, vcC, fbFf, e30]
  exact ⟨_, rfl, k', rfl, h1, by omega⟩
def elA (x y : Int) : Sp.S := if x.tmod 31 = 30 then (0, 9223372036854775807) else if x.tmod 3 = 1 then (x % 30 - 2 + 1099511627776, x % 30 - 2 + y % 7 - 1 + 1099511627776) else (x % 30 - 2, x % 30 - 2 + y % 7 - 1)
def setA (l : List Int) (k : Nat) : List Sp.S := (List.range k).map fun j => elA (l.getD (2 * j) 0) (l.getD (2 * j + 1) 0)
theorem elA_ok (x y : Int) : (-9223372036854775808 ≤ (elA x y).1 ∧ (elA x y).1 ≤ 9223372036854775807) ∧ (-9223372036854775808 ≤ (elA x y).2 ∧ (elA x y).2 ≤ 9223372036854775807) := by
  have e1 := Int.emod_nonneg x (by decide : (30 : Int) ≠ 0)
  have e2 := Int.emod_lt_of_pos x (by decide : (0 : Int) < 30)
  have e3 := Int.emod_nonneg y (by decide : (7 : Int) ≠ 0)
  have e4 := Int.emod_lt_of_pos y (by decide : (0 : Int) < 7)
  unfold elA
  split
  · simp only; omega
  · split <;> simp only <;> omega
theorem setA_lim (l : List Int) (k : Nat) (hk : k ≤ 6) : Sp.Lim (setA l k) 6 := by
  refine ⟨by simp [setA]; omega, fun s hs => ?_⟩
  simp only [setA, List.mem_map] at hs
  obtain ⟨j, _, rfl⟩ := hs
  exact elA_ok _ _
theorem aSet (l : List Int) (t : Tag) (hl : l.length ≤ 9223372036854775807) (hi : ∀ i, -9223372036854775808 ≤ l.getD i 0 ∧ l.getD i 0 ≤ 9223372036854775807) :
    GPure Try.prog 22 [.slice (ints l) t] (.slice (spl (setA l (min 6 (l.length / 2)))) .none) := by
  refine h22.pure mixS (by simp) ?_
  simp only [gstart, s22, List.cons_append, List.nil_append, List.length_cons, List.length_nil, Nat.reduceAdd, Nat.reduceSub, List.replicate_succ, List.replicate_zero]
  simp +contextual -implicitDefEqProofs (maxSteps := 2000000) (disch := omega) only [drawC, ↓lenV, binV, optV, ↓loadV, ↓storeV, ↓fieldAddrV, ↓indexAddrV, ↓allocV, ↓buildV, ↓buildSliceV, ↓sliceV, ↓appendV, ↓srcV, bound, cutTag, hiTag, fillG, fillE, place, GVal.cells, grp, GVal.ofConst, ↓resV, resG, List.map, List.headD, List.take, List.drop, ↓reduceIte, Nat.reduceEqDiff, Nat.reduceAdd, Nat.reduceSub, Nat.reduceLeDiff, reduceCtorEq, implies_true, ne_eq, ↓asrcV, aggV, Tag.cap, List.replicate, allSolid, GVal.solid, Nat.reduceBEq, Nat.reduceMul, Nat.reduceLT, List.length_map, List.length_range, splice, vcA, ↓vcB, vcC, fbFf, e22]
  refine vcSLoop_by (ι := { p : Nat × Nat // p.1 ≤ min 6 (l.length / 2) }) (fun p => ⟨[.slice (ints l) t, .any, .any, .slice (spl (setA l p.1.1)) (.tok 0 p.1.2), .int .i64 ((2 * p.1.1 : Nat) : Int)] ++ List.replicate 56 .any, [.tok p.1.2 2]⟩) (fun p => 6 - p.1.1) ?_ ?_
  · refine Into.tok 3 2 [] rfl rfl ?_
    simp +contextual -implicitDefEqProofs (maxSteps := 2000000) (disch := omega) only [drawC, ↓lenV, binV, optV, ↓loadV, ↓storeV, ↓fieldAddrV, ↓indexAddrV, ↓allocV, ↓buildV, ↓buildSliceV, ↓sliceV, ↓appendV, ↓srcV, bound, cutTag, hiTag, fillG, fillE, place, GVal.cells, grp, GVal.ofConst, ↓resV, resG, List.map, List.headD, List.take, List.drop, ↓reduceIte, Nat.reduceEqDiff, Nat.reduceAdd, Nat.reduceSub, Nat.reduceLeDiff, reduceCtorEq, implies_true, ne_eq, ↓asrcV, aggV, Tag.cap, List.replicate, allSolid, GVal.solid, Nat.reduceBEq, Nat.reduceMul, Nat.reduceLT, List.length_map, List.length_range, splice, vcA, ↓vcB, vcC, fbFf, e22]
    intro t0
    exact Into.first ⟨(0, t0), by omega⟩ ⟨[], by simp⟩ (by simp [WL, leG_self, leG_any, setA, spl_nil])
  · rintro ⟨⟨k, v⟩, hk⟩
    change k ≤ min 6 (l.length / 2) at hk
    have hx := hi (2 * k)
    have hy := hi (2 * k + 1)
    by_cases h : k < min 6 (l.length / 2)
    · have d0 : (((2 * k : Nat) : Int) + 1 < (l.length : Int)) = True := eq_true (by omega)
      have d1 : (((2 * k : Nat) : Int) < 12) = True := eq_true (by omega)
      have tn1 : (((2 * k : Nat) : Int) + 1).toNat = 2 * k + 1 := by omega
      have eN : setA l (k + 1) = setA l k ++ [elA (l.getD (2 * k) 0) (l.getD (2 * k + 1) 0)] := by simp [setA, List.range_succ]
      have lk : (setA l k).length = k := by simp [setA]
      have i1 := ints_at l (2 * k) (by omega)
      have i2 := ints_at l (2 * k + 1) (by omega)
      generalize l.getD (2 * k) 0 = x at *
      generalize l.getD (2 * k + 1) 0 = y at *
      have ee1 := Int.emod_nonneg x (by decide : (30 : Int) ≠ 0)
      have e2 := Int.emod_lt_of_pos x (by decide : (0 : Int) < 30)
      have e3 := Int.emod_nonneg y (by decide : (7 : Int) ≠ 0)
      have e4 := Int.emod_lt_of_pos y (by decide : (0 : Int) < 7)
      have cx := sPick x 30 (by omega) (by omega)
      have cy := sPick y 7 (by omega) (by omega)
      generalize setA l k = A at *
      by_cases c1 : x.tmod 3 = 1
      · by_cases c2 : x.tmod 31 = 30
        · have hE : elA x y = (0, 9223372036854775807) := by unfold elA; rw [if_pos c2]
          have t1 : (x.tmod 3 == 1) = true := by simpa using c1
          have t2 : (x.tmod 31 == 30) = true := by simpa using c2
          rw [hE] at eN
          simp +contextual -implicitDefEqProofs (maxSteps := 2000000) (disch := omega) only [vcS_skip, vcS_reg, vcS_drw, vcS_seq, vcS_cond, vcS_block, vcS_exit, vcS_ret, vcS_loopI, drawC, opsS_nil, opsS_one, opsS_if, ordS_nil, ordS_one, ordS_if, hold_mk, ev_tmp, ev_const, ev_func, put_some, put_none, setS_mk, ↓lenV, binV, optV, ↓loadV, ↓storeV, ↓fieldAddrV, ↓indexAddrV, ↓allocV, ↓buildV, ↓buildSliceV, ↓sliceV, ↓appendV, ↓srcV, bound, cutTag, hiTag, fillG, fillE, place, GVal.cells, grp, GVal.ofConst, ↓resV, resG, sget_0, sget_1, sget_2, sget_3, sget_4, set_0, set_1, set_2, set_3, set_4, setO_0, setO_1, setO_2, setL_0, setL_1, setL_2, List.map, List.headD, List.take, List.drop, ↓reduceIte, Nat.reduceEqDiff, Nat.reduceAdd, Nat.reduceSub, Nat.reduceLeDiff, reduceCtorEq, implies_true, ne_eq, norm_i64, ints_length, leG_bool, leG_int, ↓asrcV, aggV, Tag.cap, List.replicate, okCells_eq, allSolid_eq, allSolid, GVal.solid, all_nil, all_cons, all_append, all_ints, all_tabG, stamp_nil, stamp_tok, stamp_row, stamp_map, tick_nil, tick_tok, tick_row, tick_map, Nat.reduceBEq, tabG_length, tabG_at, Nat.reduceMul, Nat.reduceLT, List.length_map, List.length_range, leA_int, leA_bool, leA_slice, leA_agg, leA_tuple, WL_nil, WL_cons, leG_self, splice, ↓vcB, vcC, fbFf, e22, d0, d1, tn1, i1, i2, t1, t2, spl_length, all_spl, lk]
          refine ⟨by omega, by omega, ?_⟩
          refine cx.then ?_ (by rfl)
          simp +contextual -implicitDefEqProofs (maxSteps := 2000000) (disch := omega) only [vcS_skip, vcS_reg, vcS_drw, vcS_seq, vcS_cond, vcS_block, vcS_exit, vcS_ret, vcS_loopI, drawC, opsS_nil, opsS_one, opsS_if, ordS_nil, ordS_one, ordS_if, hold_mk, ev_tmp, ev_const, ev_func, put_some, put_none, setS_mk, ↓lenV, binV, optV, ↓loadV, ↓storeV, ↓fieldAddrV, ↓indexAddrV, ↓allocV, ↓buildV, ↓buildSliceV, ↓sliceV, ↓appendV, ↓srcV, bound, cutTag, hiTag, fillG, fillE, place, GVal.cells, grp, GVal.ofConst, ↓resV, resG, sget_0, sget_1, sget_2, sget_3, sget_4, set_0, set_1, set_2, set_3, set_4, setO_0, setO_1, setO_2, setL_0, setL_1, setL_2, List.map, List.headD, List.take, List.drop, ↓reduceIte, Nat.reduceEqDiff, Nat.reduceAdd, Nat.reduceSub, Nat.reduceLeDiff, reduceCtorEq, implies_true, ne_eq, norm_i64, ints_length, leG_bool, leG_int, ↓asrcV, aggV, Tag.cap, List.replicate, okCells_eq, allSolid_eq, allSolid, GVal.solid, all_nil, all_cons, all_append, all_ints, all_tabG, stamp_nil, stamp_tok, stamp_row, stamp_map, tick_nil, tick_tok, tick_row, tick_map, Nat.reduceBEq, tabG_length, tabG_at, Nat.reduceMul, Nat.reduceLT, List.length_map, List.length_range, leA_int, leA_bool, leA_slice, leA_agg, leA_tuple, WL_nil, WL_cons, leG_self, splice, ↓vcB, vcC, fbFf, e22, d0, d1, tn1, i1, i2, t1, t2, spl_length, all_spl, lk]
          intro st
          refine ⟨by omega, ?_⟩
          refine cy.then ?_ (by rfl)
          simp +contextual -implicitDefEqProofs (maxSteps := 2000000) (disch := omega) only [vcS_skip, vcS_reg, vcS_drw, vcS_seq, vcS_cond, vcS_block, vcS_exit, vcS_ret, vcS_loopI, drawC, opsS_nil, opsS_one, opsS_if, ordS_nil, ordS_one, ordS_if, hold_mk, ev_tmp, ev_const, ev_func, put_some, put_none, setS_mk, ↓lenV, binV, optV, ↓loadV, ↓storeV, ↓fieldAddrV, ↓indexAddrV, ↓allocV, ↓buildV, ↓buildSliceV, ↓sliceV, ↓appendV, ↓srcV, bound, cutTag, hiTag, fillG, fillE, place, GVal.cells, grp, GVal.ofConst, ↓resV, resG, sget_0, sget_1, sget_2, sget_3, sget_4, set_0, set_1, set_2, set_3, set_4, setO_0, setO_1, setO_2, setL_0, setL_1, setL_2, List.map, List.headD, List.take, List.drop, ↓reduceIte, Nat.reduceEqDiff, Nat.reduceAdd, Nat.reduceSub, Nat.reduceLeDiff, reduceCtorEq, implies_true, ne_eq, norm_i64, ints_length, leG_bool, leG_int, ↓asrcV, aggV, Tag.cap, List.replicate, okCells_eq, allSolid_eq, allSolid, GVal.solid, all_nil, all_cons, all_append, all_ints, all_tabG, stamp_nil, stamp_tok, stamp_row, stamp_map, tick_nil, tick_tok, tick_row, tick_map, Nat.reduceBEq, tabG_length, tabG_at, Nat.reduceMul, Nat.reduceLT, List.length_map, List.length_range, leA_int, leA_bool, leA_slice, leA_agg, leA_tuple, WL_nil, WL_cons, leG_self, splice, ↓vcB, vcC, fbFf, e22, d0, d1, tn1, i1, i2, t1, t2, spl_length, all_spl, lk]
          refine ⟨⟨[], by simp⟩, by omega, by omega, by omega, by omega, by omega, by omega, by omega, by omega, fun v2 => ?_⟩
          exact Into.at ⟨(k + 1, v2), by show k + 1 ≤ _; omega⟩ (by show 6 - (k + 1) < 6 - k; omega) ⟨[_], rfl⟩ (by simp [WL, leG_self, leG_any, leG_int, eN, spl_append, spl_one, spG] <;> omega)
        · have hE : elA x y = (x % 30 - 2 + 1099511627776, x % 30 - 2 + y % 7 - 1 + 1099511627776) := by unfold elA; rw [if_neg c2, if_pos c1]
          have t1 : (x.tmod 3 == 1) = true := by simpa using c1
          have t2 : (x.tmod 31 == 30) = false := by simpa using c2
          rw [hE] at eN
          simp +contextual -implicitDefEqProofs (maxSteps := 2000000) (disch := omega) only [vcS_skip, vcS_reg, vcS_drw, vcS_seq, vcS_cond, vcS_block, vcS_exit, vcS_ret, vcS_loopI, drawC, opsS_nil, opsS_one, opsS_if, ordS_nil, ordS_one, ordS_if, hold_mk, ev_tmp, ev_const, ev_func, put_some, put_none, setS_mk, ↓lenV, binV, optV, ↓loadV, ↓storeV, ↓fieldAddrV, ↓indexAddrV, ↓allocV, ↓buildV, ↓buildSliceV, ↓sliceV, ↓appendV, ↓srcV, bound, cutTag, hiTag, fillG, fillE, place, GVal.cells, grp, GVal.ofConst, ↓resV, resG, sget_0, sget_1, sget_2, sget_3, sget_4, set_0, set_1, set_2, set_3, set_4, setO_0, setO_1, setO_2, setL_0, setL_1, setL_2, List.map, List.headD, List.take, List.drop, ↓reduceIte, Nat.reduceEqDiff, Nat.reduceAdd, Nat.reduceSub, Nat.reduceLeDiff, reduceCtorEq, implies_true, ne_eq, norm_i64, ints_length, leG_bool, leG_int, ↓asrcV, aggV, Tag.cap, List.replicate, okCells_eq, allSolid_eq, allSolid, GVal.solid, all_nil, all_cons, all_append, all_ints, all_tabG, stamp_nil, stamp_tok, stamp_row, stamp_map, tick_nil, tick_tok, tick_row, tick_map, Nat.reduceBEq, tabG_length, tabG_at, Nat.reduceMul, Nat.reduceLT, List.length_map, List.length_range, leA_int, leA_bool, leA_slice, leA_agg, leA_tuple, WL_nil, WL_cons, leG_self, splice, ↓vcB, vcC, fbFf, e22, d0, d1, tn1, i1, i2, t1, t2, spl_length, all_spl, lk]
          refine ⟨by omega, by omega, ?_⟩
          refine cx.then ?_ (by rfl)
          simp +contextual -implicitDefEqProofs (maxSteps := 2000000) (disch := omega) only [vcS_skip, vcS_reg, vcS_drw, vcS_seq, vcS_cond, vcS_block, vcS_exit, vcS_ret, vcS_loopI, drawC, opsS_nil, opsS_one, opsS_if, ordS_nil, ordS_one, ordS_if, hold_mk, ev_tmp, ev_const, ev_func, put_some, put_none, setS_mk, ↓lenV, binV, optV, ↓loadV, ↓storeV, ↓fieldAddrV, ↓indexAddrV, ↓allocV, ↓buildV, ↓buildSliceV, ↓sliceV, ↓appendV, ↓srcV, bound, cutTag, hiTag, fillG, fillE, place, GVal.cells, grp, GVal.ofConst, ↓resV, resG, sget_0, sget_1, sget_2, sget_3, sget_4, set_0, set_1, set_2, set_3, set_4, setO_0, setO_1, setO_2, setL_0, setL_1, setL_2, List.map, List.headD, List.take, List.drop, ↓reduceIte, Nat.reduceEqDiff, Nat.reduceAdd, Nat.reduceSub, Nat.reduceLeDiff, reduceCtorEq, implies_true, ne_eq, norm_i64, ints_length, leG_bool, leG_int, ↓asrcV, aggV, Tag.cap, List.replicate, okCells_eq, allSolid_eq, allSolid, GVal.solid, all_nil, all_cons, all_append, all_ints, all_tabG, stamp_nil, stamp_tok, stamp_row, stamp_map, tick_nil, tick_tok, tick_row, tick_map, Nat.reduceBEq, tabG_length, tabG_at, Nat.reduceMul, Nat.reduceLT, List.length_map, List.length_range, leA_int, leA_bool, leA_slice, leA_agg, leA_tuple, WL_nil, WL_cons, leG_self, splice, ↓vcB, vcC, fbFf, e22, d0, d1, tn1, i1, i2, t1, t2, spl_length, all_spl, lk]
          intro st
          refine ⟨by omega, ?_⟩
          refine cy.then ?_ (by rfl)
          simp +contextual -implicitDefEqProofs (maxSteps := 2000000) (disch := omega) only [vcS_skip, vcS_reg, vcS_drw, vcS_seq, vcS_cond, vcS_block, vcS_exit, vcS_ret, vcS_loopI, drawC, opsS_nil, opsS_one, opsS_if, ordS_nil, ordS_one, ordS_if, hold_mk, ev_tmp, ev_const, ev_func, put_some, put_none, setS_mk, ↓lenV, binV, optV, ↓loadV, ↓storeV, ↓fieldAddrV, ↓indexAddrV, ↓allocV, ↓buildV, ↓buildSliceV, ↓sliceV, ↓appendV, ↓srcV, bound, cutTag, hiTag, fillG, fillE, place, GVal.cells, grp, GVal.ofConst, ↓resV, resG, sget_0, sget_1, sget_2, sget_3, sget_4, set_0, set_1, set_2, set_3, set_4, setO_0, setO_1, setO_2, setL_0, setL_1, setL_2, List.map, List.headD, List.take, List.drop, ↓reduceIte, Nat.reduceEqDiff, Nat.reduceAdd, Nat.reduceSub, Nat.reduceLeDiff, reduceCtorEq, implies_true, ne_eq, norm_i64, ints_length, leG_bool, leG_int, ↓asrcV, aggV, Tag.cap, List.replicate, okCells_eq, allSolid_eq, allSolid, GVal.solid, all_nil, all_cons, all_append, all_ints, all_tabG, stamp_nil, stamp_tok, stamp_row, stamp_map, tick_nil, tick_tok, tick_row, tick_map, Nat.reduceBEq, tabG_length, tabG_at, Nat.reduceMul, Nat.reduceLT, List.length_map, List.length_range, leA_int, leA_bool, leA_slice, leA_agg, leA_tuple, WL_nil, WL_cons, leG_self, splice, ↓vcB, vcC, fbFf, e22, d0, d1, tn1, i1, i2, t1, t2, spl_length, all_spl, lk]
          refine ⟨⟨[], by simp⟩, by omega, by omega, by omega, by omega, by omega, by omega, by omega, by omega, fun v2 => ?_⟩
          exact Into.at ⟨(k + 1, v2), by show k + 1 ≤ _; omega⟩ (by show 6 - (k + 1) < 6 - k; omega) ⟨[_], rfl⟩ (by simp [WL, leG_self, leG_any, leG_int, eN, spl_append, spl_one, spG] <;> omega)
      · by_cases c2 : x.tmod 31 = 30
        · have hE : elA x y = (0, 9223372036854775807) := by unfold elA; rw [if_pos c2]
          have t1 : (x.tmod 3 == 1) = false := by simpa using c1
          have t2 : (x.tmod 31 == 30) = true := by simpa using c2
          rw [hE] at eN
          simp +contextual -implicitDefEqProofs (maxSteps := 2000000) (disch := omega) only [vcS_skip, vcS_reg, vcS_drw, vcS_seq, vcS_cond, vcS_block, vcS_exit, vcS_ret, vcS_loopI, drawC, opsS_nil, opsS_one, opsS_if, ordS_nil, ordS_one, ordS_if, hold_mk, ev_tmp, ev_const, ev_func, put_some, put_none, setS_mk, ↓lenV, binV, optV, ↓loadV, ↓storeV, ↓fieldAddrV, ↓indexAddrV, ↓allocV, ↓buildV, ↓buildSliceV, ↓sliceV, ↓appendV, ↓srcV, bound, cutTag, hiTag, fillG, fillE, place, GVal.cells, grp, GVal.ofConst, ↓resV, resG, sget_0, sget_1, sget_2, sget_3, sget_4, set_0, set_1, set_2, set_3, set_4, setO_0, setO_1, setO_2, setL_0, setL_1, setL_2, List.map, List.headD, List.take, List.drop, ↓reduceIte, Nat.reduceEqDiff, Nat.reduceAdd, Nat.reduceSub, Nat.reduceLeDiff, reduceCtorEq, implies_true, ne_eq, norm_i64, ints_length, leG_bool, leG_int, ↓asrcV, aggV, Tag.cap, List.replicate, okCells_eq, allSolid_eq, allSolid, GVal.solid, all_nil, all_cons, all_append, all_ints, all_tabG, stamp_nil, stamp_tok, stamp_row, stamp_map, tick_nil, tick_tok, tick_row, tick_map, Nat.reduceBEq, tabG_length, tabG_at, Nat.reduceMul, Nat.reduceLT, List.length_map, List.length_range, leA_int, leA_bool, leA_slice, leA_agg, leA_tuple, WL_nil, WL_cons, leG_self, splice, ↓vcB, vcC, fbFf, e22, d0, d1, tn1, i1, i2, t1, t2, spl_length, all_spl, lk]
          refine ⟨by omega, by omega, ?_⟩
          refine cx.then ?_ (by rfl)
          simp +contextual -implicitDefEqProofs (maxSteps := 2000000) (disch := omega) only [vcS_skip, vcS_reg, vcS_drw, vcS_seq, vcS_cond, vcS_block, vcS_exit, vcS_ret, vcS_loopI, drawC, opsS_nil, opsS_one, opsS_if, ordS_nil, ordS_one, ordS_if, hold_mk, ev_tmp, ev_const, ev_func, put_some, put_none, setS_mk, ↓lenV, binV, optV, ↓loadV, ↓storeV, ↓fieldAddrV, ↓indexAddrV, ↓allocV, ↓buildV, ↓buildSliceV, ↓sliceV, ↓appendV, ↓srcV, bound, cutTag, hiTag, fillG, fillE, place, GVal.cells, grp, GVal.ofConst, ↓resV, resG, sget_0, sget_1, sget_2, sget_3, sget_4, set_0, set_1, set_2, set_3, set_4, setO_0, setO_1, setO_2, setL_0, setL_1, setL_2, List.map, List.headD, List.take, List.drop, ↓reduceIte, Nat.reduceEqDiff, Nat.reduceAdd, Nat.reduceSub, Nat.reduceLeDiff, reduceCtorEq, implies_true, ne_eq, norm_i64, ints_length, leG_bool, leG_int, ↓asrcV, aggV, Tag.cap, List.replicate, okCells_eq, allSolid_eq, allSolid, GVal.solid, all_nil, all_cons, all_append, all_ints, all_tabG, stamp_nil, stamp_tok, stamp_row, stamp_map, tick_nil, tick_tok, tick_row, tick_map, Nat.reduceBEq, tabG_length, tabG_at, Nat.reduceMul, Nat.reduceLT, List.length_map, List.length_range, leA_int, leA_bool, leA_slice, leA_agg, leA_tuple, WL_nil, WL_cons, leG_self, splice, ↓vcB, vcC, fbFf, e22, d0, d1, tn1, i1, i2, t1, t2, spl_length, all_spl, lk]
          intro st
          refine ⟨by omega, ?_⟩
          refine cy.then ?_ (by rfl)
          simp +contextual -implicitDefEqProofs (maxSteps := 2000000) (disch := omega) only [vcS_skip, vcS_reg, vcS_drw, vcS_seq, vcS_cond, vcS_block, vcS_exit, vcS_ret, vcS_loopI, drawC, opsS_nil, opsS_one, opsS_if, ordS_nil, ordS_one, ordS_if, hold_mk, ev_tmp, ev_const, ev_func, put_some, put_none, setS_mk, ↓lenV, binV, optV, ↓loadV, ↓storeV, ↓fieldAddrV, ↓indexAddrV, ↓allocV, ↓buildV, ↓buildSliceV, ↓sliceV, ↓appendV, ↓srcV, bound, cutTag, hiTag, fillG, fillE, place, GVal.cells, grp, GVal.ofConst, ↓resV, resG, sget_0, sget_1, sget_2, sget_3, sget_4, set_0, set_1, set_2, set_3, set_4, setO_0, setO_1, setO_2, setL_0, setL_1, setL_2, List.map, List.headD, List.take, List.drop, ↓reduceIte, Nat.reduceEqDiff, Nat.reduceAdd, Nat.reduceSub, Nat.reduceLeDiff, reduceCtorEq, implies_true, ne_eq, norm_i64, ints_length, leG_bool, leG_int, ↓asrcV, aggV, Tag.cap, List.replicate, okCells_eq, allSolid_eq, allSolid, GVal.solid, all_nil, all_cons, all_append, all_ints, all_tabG, stamp_nil, stamp_tok, stamp_row, stamp_map, tick_nil, tick_tok, tick_row, tick_map, Nat.reduceBEq, tabG_length, tabG_at, Nat.reduceMul, Nat.reduceLT, List.length_map, List.length_range, leA_int, leA_bool, leA_slice, leA_agg, leA_tuple, WL_nil, WL_cons, leG_self, splice, ↓vcB, vcC, fbFf, e22, d0, d1, tn1, i1, i2, t1, t2, spl_length, all_spl, lk]
          refine ⟨⟨[], by simp⟩, by omega, by omega, by omega, by omega, by omega, by omega, by omega, by omega, fun v2 => ?_⟩
          exact Into.at ⟨(k + 1, v2), by show k + 1 ≤ _; omega⟩ (by show 6 - (k + 1) < 6 - k; omega) ⟨[_], rfl⟩ (by simp [WL, leG_self, leG_any, leG_int, eN, spl_append, spl_one, spG] <;> omega)
        · have hE : elA x y = (x % 30 - 2, x % 30 - 2 + y % 7 - 1) := by unfold elA; rw [if_neg c2, if_neg c1]
          have t1 : (x.tmod 3 == 1) = false := by simpa using c1
          have t2 : (x.tmod 31 == 30) = false := by simpa using c2
          rw [hE] at eN
          simp +contextual -implicitDefEqProofs (maxSteps := 2000000) (disch := omega) only [vcS_skip, vcS_reg, vcS_drw, vcS_seq, vcS_cond, vcS_block, vcS_exit, vcS_ret, vcS_loopI, drawC, opsS_nil, opsS_one, opsS_if, ordS_nil, ordS_one, ordS_if, hold_mk, ev_tmp, ev_const, ev_func, put_some, put_none, setS_mk, ↓lenV, binV, optV, ↓loadV, ↓storeV, ↓fieldAddrV, ↓indexAddrV, ↓allocV, ↓buildV, ↓buildSliceV, ↓sliceV, ↓appendV, ↓srcV, bound, cutTag, hiTag, fillG, fillE, place, GVal.cells, grp, GVal.ofConst, ↓resV, resG, sget_0, sget_1, sget_2, sget_3, sget_4, set_0, set_1, set_2, set_3, set_4, setO_0, setO_1, setO_2, setL_0, setL_1, setL_2, List.map, List.headD, List.take, List.drop, ↓reduceIte, Nat.reduceEqDiff, Nat.reduceAdd, Nat.reduceSub, Nat.reduceLeDiff, reduceCtorEq, implies_true, ne_eq, norm_i64, ints_length, leG_bool, leG_int, ↓asrcV, aggV, Tag.cap, List.replicate, okCells_eq, allSolid_eq, allSolid, GVal.solid, all_nil, all_cons, all_append, all_ints, all_tabG, stamp_nil, stamp_tok, stamp_row, stamp_map, tick_nil, tick_tok, tick_row, tick_map, Nat.reduceBEq, tabG_length, tabG_at, Nat.reduceMul, Nat.reduceLT, List.length_map, List.length_range, leA_int, leA_bool, leA_slice, leA_agg, leA_tuple, WL_nil, WL_cons, leG_self, splice, ↓vcB, vcC, fbFf, e22, d0, d1, tn1, i1, i2, t1, t2, spl_length, all_spl, lk]
          refine ⟨by omega, by omega, ?_⟩
          refine cx.then ?_ (by rfl)
          simp +contextual -implicitDefEqProofs (maxSteps := 2000000) (disch := omega) only [vcS_skip, vcS_reg, vcS_drw, vcS_seq, vcS_cond, vcS_block, vcS_exit, vcS_ret, vcS_loopI, drawC, opsS_nil, opsS_one, opsS_if, ordS_nil, ordS_one, ordS_if, hold_mk, ev_tmp, ev_const, ev_func, put_some, put_none, setS_mk, ↓lenV, binV, optV, ↓loadV, ↓storeV, ↓fieldAddrV, ↓indexAddrV, ↓allocV, ↓buildV, ↓buildSliceV, ↓sliceV, ↓appendV, ↓srcV, bound, cutTag, hiTag, fillG, fillE, place, GVal.cells, grp, GVal.ofConst, ↓resV, resG, sget_0, sget_1, sget_2, sget_3, sget_4, set_0, set_1, set_2, set_3, set_4, setO_0, setO_1, setO_2, setL_0, setL_1, setL_2, List.map, List.headD, List.take, List.drop, ↓reduceIte, Nat.reduceEqDiff, Nat.reduceAdd, Nat.reduceSub, Nat.reduceLeDiff, reduceCtorEq, implies_true, ne_eq, norm_i64, ints_length, leG_bool, leG_int, ↓asrcV, aggV, Tag.cap, List.replicate, okCells_eq, allSolid_eq, allSolid, GVal.solid, all_nil, all_cons, all_append, all_ints, all_tabG, stamp_nil, stamp_tok, stamp_row, stamp_map, tick_nil, tick_tok, tick_row, tick_map, Nat.reduceBEq, tabG_length, tabG_at, Nat.reduceMul, Nat.reduceLT, List.length_map, List.length_range, leA_int, leA_bool, leA_slice, leA_agg, leA_tuple, WL_nil, WL_cons, leG_self, splice, ↓vcB, vcC, fbFf, e22, d0, d1, tn1, i1, i2, t1, t2, spl_length, all_spl, lk]
          intro st
          refine ⟨by omega, ?_⟩
          refine cy.then ?_ (by rfl)
          simp +contextual -implicitDefEqProofs (maxSteps := 2000000) (disch := omega) only [vcS_skip, vcS_reg, vcS_drw, vcS_seq, vcS_cond, vcS_block, vcS_exit, vcS_ret, vcS_loopI, drawC, opsS_nil, opsS_one, opsS_if, ordS_nil, ordS_one, ordS_if, hold_mk, ev_tmp, ev_const, ev_func, put_some, put_none, setS_mk, ↓lenV, binV, optV, ↓loadV, ↓storeV, ↓fieldAddrV, ↓indexAddrV, ↓allocV, ↓buildV, ↓buildSliceV, ↓sliceV, ↓appendV, ↓srcV, bound, cutTag, hiTag, fillG, fillE, place, GVal.cells, grp, GVal.ofConst, ↓resV, resG, sget_0, sget_1, sget_2, sget_3, sget_4, set_0, set_1, set_2, set_3, set_4, setO_0, setO_1, setO_2, setL_0, setL_1, setL_2, List.map, List.headD, List.take, List.drop, ↓reduceIte, Nat.reduceEqDiff, Nat.reduceAdd, Nat.reduceSub, Nat.reduceLeDiff, reduceCtorEq, implies_true, ne_eq, norm_i64, ints_length, leG_bool, leG_int, ↓asrcV, aggV, Tag.cap, List.replicate, okCells_eq, allSolid_eq, allSolid, GVal.solid, all_nil, all_cons, all_append, all_ints, all_tabG, stamp_nil, stamp_tok, stamp_row, stamp_map, tick_nil, tick_tok, tick_row, tick_map, Nat.reduceBEq, tabG_length, tabG_at, Nat.reduceMul, Nat.reduceLT, List.length_map, List.length_range, leA_int, leA_bool, leA_slice, leA_agg, leA_tuple, WL_nil, WL_cons, leG_self, splice, ↓vcB, vcC, fbFf, e22, d0, d1, tn1, i1, i2, t1, t2, spl_length, all_spl, lk]
          refine ⟨⟨[], by simp⟩, by omega, by omega, by omega, by omega, by omega, by omega, by omega, by omega, fun v2 => ?_⟩
          exact Into.at ⟨(k + 1, v2), by show k + 1 ≤ _; omega⟩ (by show 6 - (k + 1) < 6 - k; omega) ⟨[_], rfl⟩ (by simp [WL, leG_self, leG_any, leG_int, eN, spl_append, spl_one, spG] <;> omega)
    · have hk' : k = min 6 (l.length / 2) := by omega
      have fin : setA l k = setA l (min 6 (l.length / 2)) := by rw [← hk']
      generalize setA l (min 6 (l.length / 2)) = F at *
      simp +contextual -implicitDefEqProofs (maxSteps := 2000000) (disch := omega) only [drawC, ↓lenV, binV, optV, ↓loadV, ↓storeV, ↓fieldAddrV, ↓indexAddrV, ↓allocV, ↓buildV, ↓buildSliceV, ↓sliceV, ↓appendV, ↓srcV, bound, cutTag, hiTag, fillG, fillE, place, GVal.cells, grp, GVal.ofConst, ↓resV, resG, List.map, List.headD, List.take, List.drop, ↓reduceIte, Nat.reduceEqDiff, Nat.reduceAdd, Nat.reduceSub, Nat.reduceLeDiff, reduceCtorEq, implies_true, ne_eq, ↓asrcV, aggV, Tag.cap, List.replicate, allSolid, GVal.solid, Nat.reduceBEq, Nat.reduceMul, Nat.reduceLT, List.length_map, List.length_range, splice, vcA, ↓vcB, vcC, fbFf, e22]
      exact ⟨fun h1 => ⟨fun h2 => by exfalso; omega, fun _ => by rw [fin]⟩, fun _ => by rw [fin]⟩
end Gv.Try
/- The plain laws of heads, roots, what lies between. -/
set_option linter.unusedVariables false
set_option linter.unusedSimpArgs false
set_option maxRecDepth 20000
set_option maxHeartbeats 8000000
namespace Gv.Try
open Go Gv Go.Proofs
section
variable {m o : List (List Int)} (h : TOK m o) {s t : List Sp.S}
include h
/-- each one of a set is an ancestor of a head -/
theorem up_heads : ∀ (k : Nat) (n : Int), 1099511628776 - n < k → inT m o n → Sp.has s n → aP m o (idsP m o fun n => Sp.has s n ∧ ¬ pP m o s n) n := by
  intro k
  induction k with
  | zero => intro n h1 h2 _; have := inT_range h h2; omega
  | succ k ih =>
    intro n h1 h2 h3
    by_cases c : pP m o s n
    · obtain ⟨x, hx, hsx, hp⟩ := c
      have := (h.par hp).1
      obtain ⟨b, hb, hb2, hl⟩ := ih x (by omega) hx hsx
      exact ⟨b, hb, hb2, (Leads.par hp h2).trans hl⟩
    · exact ⟨n, h2, (idsP_has _ _ _ _).2 ⟨h2, h3, c⟩, Leads.refl m o n⟩
theorem down_roots : ∀ (k : Nat) (n : Int), n < k → inT m o n → Sp.has s n → dP m o (idsP m o fun n => Sp.has s n ∧ ¬ cP m o s n) n := by
  intro k
  induction k with
  | zero => intro n h1 h2 _; have := inT_range h h2; omega
  | succ k ih =>
    intro n h1 h2 h3
    by_cases c : cP m o s n
    · obtain ⟨p, hp, hs⟩ := c
      have hh := h.par hp
      obtain ⟨a, ha, ha2, hl⟩ := ih p (by omega) hh.2 hs
      exact ⟨a, ha, ha2, hl.trans (Leads.par hp hh.2)⟩
    · exact ⟨n, h2, (idsP_has _ _ _ _).2 ⟨h2, h3, c⟩, Leads.refl m o n⟩
end
theorem ne_of_has {l : List Sp.S} {n : Int} (h : Sp.has l n) : 0 < l.length := by
  obtain ⟨x, hx, _⟩ := h
  exact List.length_pos_iff.2 (fun e => by rw [e] at hx; simp at hx)
theorem has_of_ne {l : List Sp.S} (h : Sp.Rt 0 l) (hl : 0 < l.length) : ∃ n, Sp.has l n := by
  have hm : l.getD 0 (0, 0) ∈ l := by rw [List.getD_eq_getElem?_getD, List.getElem?_eq_getElem hl]; exact List.getElem_mem _
  exact ⟨_, h.lo (Int.le_refl _) hm⟩
theorem aSame {a b : List Sp.S} (la : a.length ≤ 1000) (e : a = b) : GPure Try.prog 26 [.slice (spl a) .none, .slice (spl b) .none] (.bool true) := by
  have := sSameSpans a b .none .none (by omega)
  rw [decide_eq_true e] at this
  exact this
end Gv.Try
/- AskEnds gives true. -/
set_option linter.unusedVariables false
set_option linter.unusedSimpArgs false
set_option maxRecDepth 20000
set_option maxHeartbeats 8000000
namespace Gv.Try
open Go Gv Go.Proofs
end Gv.Try
/- AskLaws gives true. -/
set_option linter.unusedVariables false
set_option linter.unusedSimpArgs false
set_option maxRecDepth 20000
set_option maxHeartbeats 8000000
namespace Gv.Try
open Go Gv Go.Proofs
section
variable {m o : List (List Int)} (h : TOK m o) {s t : List Sp.S}
include h
theorem anc_anc : idsP m o (aP m o (idsP m o (aP m o s))) = idsP m o (aP m o s) := idsP_congr fun n hn => by
  constructor
  · rintro ⟨b, hb, hs, hl⟩
    obtain ⟨_, c, hc, hcs, hcl⟩ := (idsP_has _ _ _ _).1 hs
    exact ⟨c, hc, hcs, hl.trans hcl⟩
  · intro q; exact ⟨n, hn, (idsP_has _ _ _ _).2 ⟨hn, q⟩, Leads.refl m o n⟩
theorem des_des : idsP m o (dP m o (idsP m o (dP m o s))) = idsP m o (dP m o s) := idsP_congr fun n hn => by
  constructor
  · rintro ⟨b, hb, hs, hl⟩
    obtain ⟨_, c, hc, hcs, hcl⟩ := (idsP_has _ _ _ _).1 hs
    exact ⟨c, hc, hcs, hcl.trans hl⟩
  · intro q; exact ⟨n, hn, (idsP_has _ _ _ _).2 ⟨hn, q⟩, Leads.refl m o n⟩
theorem anc_uni : idsP m o (aP m o (Sp.uni s t)) = Sp.uni (idsP m o (aP m o s)) (idsP m o (aP m o t)) := (idsP_eq (Sp.uni_rt _ _) fun n => by
  rw [Sp.uni_has, idsP_has, idsP_has]
  constructor
  · rintro (⟨a, b, hb, hs, hl⟩ | ⟨a, b, hb, hs, hl⟩)
    · exact ⟨a, b, hb, (Sp.uni_has _ _ _).2 (.inl hs), hl⟩
    · exact ⟨a, b, hb, (Sp.uni_has _ _ _).2 (.inr hs), hl⟩
  · rintro ⟨a, b, hb, hs, hl⟩
    rcases (Sp.uni_has _ _ _).1 hs with q | q
    · exact .inl ⟨a, b, hb, q, hl⟩
    · exact .inr ⟨a, b, hb, q, hl⟩).symm
theorem anc_heads : idsP m o (aP m o (idsP m o fun n => Sp.has s n ∧ ¬ pP m o s n)) = idsP m o (aP m o s) := idsP_congr fun n hn => by
  constructor
  · rintro ⟨b, hb, hs, hl⟩
    exact ⟨b, hb, ((idsP_has _ _ _ _).1 hs).2.1, hl⟩
  · rintro ⟨b, hb, hs, hl⟩
    obtain ⟨c, hc, hcs, hcl⟩ := up_heads h (s := s) (1099511628776 - b + 1).toNat b (by have := inT_range h hb; omega) hb hs
    exact ⟨c, hc, hcs, hl.trans hcl⟩
theorem des_roots : idsP m o (dP m o (idsP m o fun n => Sp.has s n ∧ ¬ cP m o s n)) = idsP m o (dP m o s) := idsP_congr fun n hn => by
  constructor
  · rintro ⟨b, hb, hs, hl⟩
    exact ⟨b, hb, ((idsP_has _ _ _ _).1 hs).2.1, hl⟩
  · rintro ⟨b, hb, hs, hl⟩
    obtain ⟨c, hc, hcs, hcl⟩ := down_roots h (s := s) (b + 1).toNat b (by have := inT_range h hb; omega) hb hs
    exact ⟨c, hc, hcs, hcl.trans hl⟩
theorem anc_par (hs : ∀ n, Sp.has s n → inT m o n) : Sp.uni s (idsP m o (aP m o (idsP m o (pP m o s)))) = idsP m o (aP m o s) := idsP_eq (Sp.uni_rt _ _) fun n => by
  rw [Sp.uni_has, idsP_has]
  constructor
  · rintro (q | ⟨q, b, hb, hbs, hl⟩)
    · exact ⟨hs n q, n, hs n q, q, Leads.refl m o n⟩
    · obtain ⟨_, x, hx, hxs, hp⟩ := (idsP_has _ _ _ _).1 hbs
      exact ⟨q, x, hx, hxs, hl.trans (Leads.par hp hb)⟩
  · rintro ⟨q, b, hb, hbs, hl⟩
    rcases (leads_iff h).1 hl with rfl | ⟨p, hp, hl⟩
    · exact .inl hbs
    · have := h.par hp
      exact .inr ⟨q, p, this.2, (idsP_has _ _ _ _).2 ⟨this.2, b, hb, hbs, hp⟩, hl⟩
theorem des_chi (hs : ∀ n, Sp.has s n → inT m o n) : Sp.uni s (idsP m o (dP m o (idsP m o (cP m o s)))) = idsP m o (dP m o s) := idsP_eq (Sp.uni_rt _ _) fun n => by
  rw [Sp.uni_has, idsP_has]
  constructor
  · rintro (q | ⟨q, b, hb, hbs, hl⟩)
    · exact ⟨hs n q, n, hs n q, q, Leads.refl m o n⟩
    · obtain ⟨_, p, hp, hps⟩ := (idsP_has _ _ _ _).1 hbs
      exact ⟨q, p, (h.par hp).2, hps, (Leads.par hp (h.par hp).2).trans hl⟩
  · rintro ⟨q, b, hb, hbs, hl⟩
    rcases leads_up h hl q with rfl | ⟨c, hc, hbc, hcl⟩
    · exact .inl hbs
    · exact .inr ⟨q, c, hc, (idsP_has _ _ _ _).2 ⟨hc, b, hbc, hbs⟩, hcl⟩
theorem anc_des : idsP m o (fun n => dP m o s n ∧ aP m o s n) = Sp.bothS (idsP m o (aP m o s)) (idsP m o (dP m o s)) := (idsP_eq (Sp.bothS_rt _ _) fun n => by
  rw [Sp.bothS_has, idsP_has, idsP_has]
  constructor
  · rintro ⟨⟨a, b⟩, _, c⟩; exact ⟨a, c, b⟩
  · rintro ⟨a, c, b⟩; exact ⟨⟨a, b⟩, a, c⟩).symm
end
theorem specLaws (x y : List Int) (size : Int) (a b : List Int) (ha : Ints a) (hb : Ints b) : GPure Try.prog 5 [.agg [.slice (ints x) .none, .slice (ints y) .none], .int .i64 size, .slice (ints a) .none, .slice (ints b) .none] (.bool true) := by
  have b1 := Int.emod_nonneg size (by decide : (5 : Int) ≠ 0)
  have b2 := Int.emod_lt_of_pos size (by decide : (0 : Int) < 5)
  have cPk := sPick size 5 (by omega) (by omega)
  have cA := aSet a .none ha.1 ha.2
  have cBs := aSet b .none hb.1 hb.2
  have limA := setA_lim a (min 6 (a.length / 2)) (by omega)
  have limB := setA_lim b (min 6 (b.length / 2)) (by omega)
  have cT := spec11 x y .none .none
  have hT : TOK (tabM x) (tabO x y) := ⟨by have := tabM_len x; have := tabO_len x y; omega, raw_right x y⟩
  have cPl := spec13 (tabG (tabM x)) (tabG (tabO x y)) .none .none
  generalize tabM x = m at *
  generalize tabO x y = o at *
  generalize size % 5 = q at *
  generalize setA a (min 6 (a.length / 2)) = A at *
  generalize setA b (min 6 (b.length / 2)) = B at *
  refine GCalls.toPure ?_
  refine h5.calls mixS (by simp) ?_
  simp only [gstart, s5, List.cons_append, List.nil_append, List.length_cons, List.length_nil, Nat.reduceAdd, Nat.reduceSub, List.replicate_succ, List.replicate_zero]
  simp +contextual -implicitDefEqProofs (maxSteps := 2000000) (disch := omega) only [↓lenV, binV, ↓unV, ↓loadV, ↓boxV, GVal.cells, grp, GVal.ofConst, ↓resV, resG, List.map, List.headD, List.take, List.drop, ↓reduceIte, Nat.reduceEqDiff, Nat.reduceAdd, Nat.reduceSub, Nat.reduceLeDiff, reduceCtorEq, implies_true, ne_eq, aggV, Tag.cap, List.replicate, allSolid, GVal.solid, Nat.reduceBEq, Nat.reduceMul, Nat.reduceLT, List.length_map, List.length_range, splice, vcA, ↓vcB, vcC, fbFf, e5]
  refine cT.then ?_ (by rfl)
  simp +contextual -implicitDefEqProofs (maxSteps := 2000000) (disch := omega) only [↓lenV, binV, ↓unV, ↓loadV, ↓boxV, GVal.cells, grp, GVal.ofConst, ↓resV, resG, List.map, List.headD, List.take, List.drop, ↓reduceIte, Nat.reduceEqDiff, Nat.reduceAdd, Nat.reduceSub, Nat.reduceLeDiff, reduceCtorEq, implies_true, ne_eq, aggV, Tag.cap, List.replicate, allSolid, GVal.solid, Nat.reduceBEq, Nat.reduceMul, Nat.reduceLT, List.length_map, List.length_range, splice, vcA, ↓vcB, vcC, fbFf, e5]
  refine cPl.then ?_ (by rfl)
  simp +contextual -implicitDefEqProofs (maxSteps := 2000000) (disch := omega) only [↓lenV, binV, ↓unV, ↓loadV, ↓boxV, GVal.cells, grp, GVal.ofConst, ↓resV, resG, List.map, List.headD, List.take, List.drop, ↓reduceIte, Nat.reduceEqDiff, Nat.reduceAdd, Nat.reduceSub, Nat.reduceLeDiff, reduceCtorEq, implies_true, ne_eq, aggV, Tag.cap, List.replicate, allSolid, GVal.solid, Nat.reduceBEq, Nat.reduceMul, Nat.reduceLT, List.length_map, List.length_range, splice, vcA, ↓vcB, vcC, fbFf, e5]
  refine cPk.then ?_ (by rfl)
  simp +contextual -implicitDefEqProofs (maxSteps := 2000000) (disch := omega) only [↓lenV, binV, ↓unV, ↓loadV, ↓boxV, GVal.cells, grp, GVal.ofConst, ↓resV, resG, List.map, List.headD, List.take, List.drop, ↓reduceIte, Nat.reduceEqDiff, Nat.reduceAdd, Nat.reduceSub, Nat.reduceLeDiff, reduceCtorEq, implies_true, ne_eq, aggV, Tag.cap, List.replicate, allSolid, GVal.solid, Nat.reduceBEq, Nat.reduceMul, Nat.reduceLT, List.length_map, List.length_range, splice, vcA, ↓vcB, vcC, fbFf, e5]
  refine (aNew hT .none .none (2 + q) (by omega)).mono ?_
  rintro g O' ⟨st, L, rfl, rfl, hD, hL⟩
  have hN := hD.allLen
  have oN := hD.allOk
  have lT := hT.len
  have eS : Sp.bothS (allN L) A = idsP m o (Sp.has A) := idsP_eq (Sp.bothS_rt _ _) fun n => by rw [Sp.bothS_has, hD.allHas]
  have eT : Sp.bothS (allN L) B = idsP m o (Sp.has B) := idsP_eq (Sp.bothS_rt _ _) fun n => by rw [Sp.bothS_has, hD.allHas]
  have cS := sBothR (allN L) A .none .none ⟨hN, by have := limA.1; omega⟩ oN limA.2
  have cTT := sBothR (allN L) B .none .none ⟨hN, by have := limB.1; omega⟩ oN limB.2
  rw [eS] at cS
  rw [eT] at cTT
  have len := fun P => idsP_len m o P
  have okk := fun P => idsP_ok hT P
  have rtt := fun P => idsP_rt m o P
  have hass := fun P n => idsP_has m o P n
  obtain ⟨S, hS⟩ : ∃ S, idsP m o (Sp.has A) = S := ⟨_, rfl⟩
  obtain ⟨T, hTT⟩ : ∃ T, idsP m o (Sp.has B) = T := ⟨_, rfl⟩
  rw [hS] at cS
  rw [hTT] at cTT
  have lS : S.length ≤ 50000 ∧ S.length ≤ 1000 := by rw [← hS]; have := len (Sp.has A); omega
  have oS : Sp.Ok S := by rw [← hS]; exact okk _
  have rS : Sp.Rt 0 S := by rw [← hS]; exact rtt _
  have iS : ∀ n, Sp.has S n → inT m o n := fun n hn => by rw [← hS] at hn; exact ((hass _ n).1 hn).1
  have lTl : T.length ≤ 1000 := by rw [← hTT]; have := len (Sp.has B); omega
  have oT : Sp.Ok T := by rw [← hTT]; exact okk _
  have iT : ∀ n, Sp.has T n → inT m o n := fun n hn => by rw [← hTT] at hn; exact ((hass _ n).1 hn).1
  have hf2 : L.length * (L.getD 0 []).length ≤ 4 * 1000 := Nat.mul_le_mul hD.len4 (hD.size 0).1
  have cUp := fun kk hk => aAncestors hD S .none (by omega) oS st kk hk
  have cDn := aDescendants hD S .none (by omega) oS
  have cH := aHeads hD S .none (by omega) oS
  have cR := aRoots hD S .none (by omega) oS
  have cUp2 := fun kk hk => aAncestors hD (idsP m o (aP m o S)) .none (by have := len (aP m o S); omega) (okk _) st kk hk
  have cDn2 := aDescendants hD (idsP m o (dP m o S)) .none (by have := len (dP m o S); omega) (okk _)
  have cU := sUnionR S T .none .none (by omega) oS oT
  have cUpU := fun kk hk => aAncestors hD (Sp.uni S T) .none (by have := Sp.uni_len S T; omega) (Sp.uni_ok oS oT) st kk hk
  have cAT := fun kk hk => aAncestors hD T .none (by omega) oT st kk hk
  have cUA := sUnionR (idsP m o (aP m o S)) (idsP m o (aP m o T)) .none .none (by have := len (aP m o S); have := len (aP m o T); omega) (okk _) (okk _)
  have cUpH := fun kk hk => aAncestors hD (idsP m o fun n => Sp.has S n ∧ ¬ pP m o S n) .none (by have := len (fun n => Sp.has S n ∧ ¬ pP m o S n); omega) (okk _) st kk hk
  have cDnR := aDescendants hD (idsP m o fun n => Sp.has S n ∧ ¬ cP m o S n) .none (by have := len (fun n => Sp.has S n ∧ ¬ cP m o S n); omega) (okk _)
  have cPa := aParents hD S .none (by omega) oS
  have cUpP := fun kk hk => aAncestors hD (idsP m o (pP m o S)) .none (by have := len (pP m o S); omega) (okk _) st kk hk
  have cUP := sUnionR S (idsP m o (aP m o (idsP m o (pP m o S)))) .none .none (by have := len (aP m o (idsP m o (pP m o S))); omega) oS (okk _)
  have cCh := aChildren hD S .none (by omega) oS
  have cDnC := aDescendants hD (idsP m o (cP m o S)) .none (by have := len (cP m o S); omega) (okk _)
  have cUC := sUnionR S (idsP m o (dP m o (idsP m o (cP m o S)))) .none .none (by have := len (dP m o (idsP m o (cP m o S))); omega) oS (okk _)
  have cJ := sBothR (idsP m o (aP m o T)) S .none .none ⟨Nat.le_trans (len _) (by omega), lS.2⟩ (okk _) oS
  have cK := sBothR (idsP m o (dP m o S)) T .none .none ⟨Nat.le_trans (len _) (by omega), lTl⟩ (okk _) oT
  have cB := fun kk hk => aBetween hD S S .none .none (by omega) (by omega) oS oS st kk hk
  have cBB := sBothR (idsP m o (aP m o S)) (idsP m o (dP m o S)) .none .none ⟨Nat.le_trans (len _) (by omega), Nat.le_trans (len _) (by omega)⟩ (okk _) (okk _)
  simp only [anc_anc hT] at cUp2
  rw [des_des hT] at cDn2
  simp only [anc_uni hT] at cUpU
  simp only [anc_heads hT] at cUpH
  rw [des_roots hT] at cDnR
  rw [anc_par hT iS] at cUP
  rw [des_chi hT iS] at cUC
  simp only [anc_des hT] at cB
  have s1 := aSame (a := idsP m o (aP m o S)) (b := idsP m o (aP m o S)) (Nat.le_trans (len _) (by omega)) rfl
  have s2 := aSame (a := idsP m o (dP m o S)) (b := idsP m o (dP m o S)) (Nat.le_trans (len _) (by omega)) rfl
  have s3 := aSame (a := Sp.uni (idsP m o (aP m o S)) (idsP m o (aP m o T))) (b := Sp.uni (idsP m o (aP m o S)) (idsP m o (aP m o T))) (by rw [← anc_uni hT]; exact Nat.le_trans (len _) (by omega)) rfl
  have s4 := aSame (a := Sp.bothS (idsP m o (aP m o S)) (idsP m o (dP m o S))) (b := Sp.bothS (idsP m o (aP m o S)) (idsP m o (dP m o S))) (by rw [← anc_des hT]; exact Nat.le_trans (len _) (by omega)) rfl
  have hJ : 0 < (Sp.bothS (idsP m o (aP m o T)) S).length ↔ 0 < (Sp.bothS (idsP m o (dP m o S)) T).length := by
    constructor
    · intro q
      obtain ⟨n, hn⟩ := has_of_ne (Sp.bothS_rt _ _) q
      obtain ⟨h1, h2⟩ := (Sp.bothS_has _ _ n).1 hn
      obtain ⟨hn1, v, hv, hvs, hvl⟩ := (hass _ n).1 h1
      exact ne_of_has ((Sp.bothS_has _ _ v).2 ⟨(hass _ v).2 ⟨hv, n, hn1, h2, hvl⟩, hvs⟩)
    · intro q
      obtain ⟨n, hn⟩ := has_of_ne (Sp.bothS_rt _ _) q
      obtain ⟨h1, h2⟩ := (Sp.bothS_has _ _ n).1 hn
      obtain ⟨hn1, v, hv, hvs, hvl⟩ := (hass _ n).1 h1
      exact ne_of_has ((Sp.bothS_has _ _ v).2 ⟨(hass _ v).2 ⟨hv, n, hn1, h2, hvl⟩, hvs⟩)
  generalize Sp.bothS (idsP m o (aP m o T)) S = J at *
  generalize Sp.bothS (idsP m o (dP m o S)) T = K at *
  generalize Sp.bothS (idsP m o (aP m o S)) (idsP m o (dP m o S)) = BB at *
  generalize Sp.uni (idsP m o (aP m o S)) (idsP m o (aP m o T)) = UU at *
  generalize Sp.uni S T = UST at *
  generalize idsP m o (aP m o (idsP m o (pP m o S))) = AP at *
  generalize idsP m o (dP m o (idsP m o (cP m o S))) = DC at *
  generalize idsP m o (pP m o S) = PP at *
  generalize idsP m o (cP m o S) = CC at *
  generalize (idsP m o fun n => Sp.has S n ∧ ¬ pP m o S n) = H at *
  generalize (idsP m o fun n => Sp.has S n ∧ ¬ cP m o S n) = R at *
  generalize idsP m o (aP m o T) = AT at *
  generalize idsP m o (dP m o S) = DS at *
  generalize idsP m o (aP m o S) = AS at *
  rcases Nat.eq_zero_or_pos J.length with j | j
  · have dJ : ((0 : Int) < (J.length : Int)) = False := eq_false (by omega)
    have dK : ((0 : Int) < (K.length : Int)) = False := eq_false (by omega)
    simp +contextual -implicitDefEqProofs (maxSteps := 2000000) (disch := omega) only [↓lenV, binV, ↓unV, ↓loadV, ↓boxV, GVal.cells, grp, GVal.ofConst, ↓resV, resG, List.map, List.headD, List.take, List.drop, ↓reduceIte, Nat.reduceEqDiff, Nat.reduceAdd, Nat.reduceSub, Nat.reduceLeDiff, reduceCtorEq, implies_true, ne_eq, aggV, Tag.cap, List.replicate, allSolid, GVal.solid, Nat.reduceBEq, Nat.reduceMul, Nat.reduceLT, List.length_map, List.length_range, splice, vcA, ↓vcB, vcC, fbFf, e5, dJ, dK, spl_length, Int.lt_irrefl, decide_false]
    refine aKnown.then ?_ (by rfl)
    simp +contextual -implicitDefEqProofs (maxSteps := 2000000) (disch := omega) only [↓lenV, binV, ↓unV, ↓loadV, ↓boxV, GVal.cells, grp, GVal.ofConst, ↓resV, resG, List.map, List.headD, List.take, List.drop, ↓reduceIte, Nat.reduceEqDiff, Nat.reduceAdd, Nat.reduceSub, Nat.reduceLeDiff, reduceCtorEq, implies_true, ne_eq, aggV, Tag.cap, List.replicate, allSolid, GVal.solid, Nat.reduceBEq, Nat.reduceMul, Nat.reduceLT, List.length_map, List.length_range, splice, vcA, ↓vcB, vcC, fbFf, e5, dJ, dK, spl_length, Int.lt_irrefl, decide_false]
    refine (aAll L (allN L) (by omega)).then ?_
    simp +contextual -implicitDefEqProofs (maxSteps := 2000000) (disch := omega) only [↓lenV, binV, ↓unV, ↓loadV, ↓boxV, GVal.cells, grp, GVal.ofConst, ↓resV, resG, List.map, List.headD, List.take, List.drop, ↓reduceIte, Nat.reduceEqDiff, Nat.reduceAdd, Nat.reduceSub, Nat.reduceLeDiff, reduceCtorEq, implies_true, ne_eq, aggV, Tag.cap, List.replicate, allSolid, GVal.solid, Nat.reduceBEq, Nat.reduceMul, Nat.reduceLT, List.length_map, List.length_range, splice, vcA, ↓vcB, vcC, fbFf, e5, dJ, dK, spl_length, Int.lt_irrefl, decide_false]
    refine cA.then ?_ (by rfl)
    simp +contextual -implicitDefEqProofs (maxSteps := 2000000) (disch := omega) only [↓lenV, binV, ↓unV, ↓loadV, ↓boxV, GVal.cells, grp, GVal.ofConst, ↓resV, resG, List.map, List.headD, List.take, List.drop, ↓reduceIte, Nat.reduceEqDiff, Nat.reduceAdd, Nat.reduceSub, Nat.reduceLeDiff, reduceCtorEq, implies_true, ne_eq, aggV, Tag.cap, List.replicate, allSolid, GVal.solid, Nat.reduceBEq, Nat.reduceMul, Nat.reduceLT, List.length_map, List.length_range, splice, vcA, ↓vcB, vcC, fbFf, e5, dJ, dK, spl_length, Int.lt_irrefl, decide_false]
    refine cS.then ?_ (by rfl)
    simp +contextual -implicitDefEqProofs (maxSteps := 2000000) (disch := omega) only [↓lenV, binV, ↓unV, ↓loadV, ↓boxV, GVal.cells, grp, GVal.ofConst, ↓resV, resG, List.map, List.headD, List.take, List.drop, ↓reduceIte, Nat.reduceEqDiff, Nat.reduceAdd, Nat.reduceSub, Nat.reduceLeDiff, reduceCtorEq, implies_true, ne_eq, aggV, Tag.cap, List.replicate, allSolid, GVal.solid, Nat.reduceBEq, Nat.reduceMul, Nat.reduceLT, List.length_map, List.length_range, splice, vcA, ↓vcB, vcC, fbFf, e5, dJ, dK, spl_length, Int.lt_irrefl, decide_false]
    refine (aAll L (allN L) (by omega)).then ?_
    simp +contextual -implicitDefEqProofs (maxSteps := 2000000) (disch := omega) only [↓lenV, binV, ↓unV, ↓loadV, ↓boxV, GVal.cells, grp, GVal.ofConst, ↓resV, resG, List.map, List.headD, List.take, List.drop, ↓reduceIte, Nat.reduceEqDiff, Nat.reduceAdd, Nat.reduceSub, Nat.reduceLeDiff, reduceCtorEq, implies_true, ne_eq, aggV, Tag.cap, List.replicate, allSolid, GVal.solid, Nat.reduceBEq, Nat.reduceMul, Nat.reduceLT, List.length_map, List.length_range, splice, vcA, ↓vcB, vcC, fbFf, e5, dJ, dK, spl_length, Int.lt_irrefl, decide_false]
    refine cBs.then ?_ (by rfl)
    simp +contextual -implicitDefEqProofs (maxSteps := 2000000) (disch := omega) only [↓lenV, binV, ↓unV, ↓loadV, ↓boxV, GVal.cells, grp, GVal.ofConst, ↓resV, resG, List.map, List.headD, List.take, List.drop, ↓reduceIte, Nat.reduceEqDiff, Nat.reduceAdd, Nat.reduceSub, Nat.reduceLeDiff, reduceCtorEq, implies_true, ne_eq, aggV, Tag.cap, List.replicate, allSolid, GVal.solid, Nat.reduceBEq, Nat.reduceMul, Nat.reduceLT, List.length_map, List.length_range, splice, vcA, ↓vcB, vcC, fbFf, e5, dJ, dK, spl_length, Int.lt_irrefl, decide_false]
    refine cTT.then ?_ (by rfl)
    simp +contextual -implicitDefEqProofs (maxSteps := 2000000) (disch := omega) only [↓lenV, binV, ↓unV, ↓loadV, ↓boxV, GVal.cells, grp, GVal.ofConst, ↓resV, resG, List.map, List.headD, List.take, List.drop, ↓reduceIte, Nat.reduceEqDiff, Nat.reduceAdd, Nat.reduceSub, Nat.reduceLeDiff, reduceCtorEq, implies_true, ne_eq, aggV, Tag.cap, List.replicate, allSolid, GVal.solid, Nat.reduceBEq, Nat.reduceMul, Nat.reduceLT, List.length_map, List.length_range, splice, vcA, ↓vcB, vcC, fbFf, e5, dJ, dK, spl_length, Int.lt_irrefl, decide_false]
    refine (cUp 0 (by omega)).mono ?_
    rintro g O' ⟨_, rfl, k1, rfl, rfl, p1, q1, r1⟩
    simp +contextual -implicitDefEqProofs (maxSteps := 2000000) (disch := omega) only [↓lenV, binV, ↓unV, ↓loadV, ↓boxV, GVal.cells, grp, GVal.ofConst, ↓resV, resG, List.map, List.headD, List.take, List.drop, ↓reduceIte, Nat.reduceEqDiff, Nat.reduceAdd, Nat.reduceSub, Nat.reduceLeDiff, reduceCtorEq, implies_true, ne_eq, aggV, Tag.cap, List.replicate, allSolid, GVal.solid, Nat.reduceBEq, Nat.reduceMul, Nat.reduceLT, List.length_map, List.length_range, splice, vcA, ↓vcB, vcC, fbFf, e5, dJ, dK, spl_length, Int.lt_irrefl, decide_false]
    refine cDn.then ?_
    simp +contextual -implicitDefEqProofs (maxSteps := 2000000) (disch := omega) only [↓lenV, binV, ↓unV, ↓loadV, ↓boxV, GVal.cells, grp, GVal.ofConst, ↓resV, resG, List.map, List.headD, List.take, List.drop, ↓reduceIte, Nat.reduceEqDiff, Nat.reduceAdd, Nat.reduceSub, Nat.reduceLeDiff, reduceCtorEq, implies_true, ne_eq, aggV, Tag.cap, List.replicate, allSolid, GVal.solid, Nat.reduceBEq, Nat.reduceMul, Nat.reduceLT, List.length_map, List.length_range, splice, vcA, ↓vcB, vcC, fbFf, e5, dJ, dK, spl_length, Int.lt_irrefl, decide_false]
    refine cH.then ?_
    simp +contextual -implicitDefEqProofs (maxSteps := 2000000) (disch := omega) only [↓lenV, binV, ↓unV, ↓loadV, ↓boxV, GVal.cells, grp, GVal.ofConst, ↓resV, resG, List.map, List.headD, List.take, List.drop, ↓reduceIte, Nat.reduceEqDiff, Nat.reduceAdd, Nat.reduceSub, Nat.reduceLeDiff, reduceCtorEq, implies_true, ne_eq, aggV, Tag.cap, List.replicate, allSolid, GVal.solid, Nat.reduceBEq, Nat.reduceMul, Nat.reduceLT, List.length_map, List.length_range, splice, vcA, ↓vcB, vcC, fbFf, e5, dJ, dK, spl_length, Int.lt_irrefl, decide_false]
    refine cR.then ?_
    simp +contextual -implicitDefEqProofs (maxSteps := 2000000) (disch := omega) only [↓lenV, binV, ↓unV, ↓loadV, ↓boxV, GVal.cells, grp, GVal.ofConst, ↓resV, resG, List.map, List.headD, List.take, List.drop, ↓reduceIte, Nat.reduceEqDiff, Nat.reduceAdd, Nat.reduceSub, Nat.reduceLeDiff, reduceCtorEq, implies_true, ne_eq, aggV, Tag.cap, List.replicate, allSolid, GVal.solid, Nat.reduceBEq, Nat.reduceMul, Nat.reduceLT, List.length_map, List.length_range, splice, vcA, ↓vcB, vcC, fbFf, e5, dJ, dK, spl_length, Int.lt_irrefl, decide_false]
    refine (cUp2 k1 (by omega)).mono ?_
    rintro g O' ⟨_, rfl, k2, rfl, rfl, p2, q2, r2⟩
    simp +contextual -implicitDefEqProofs (maxSteps := 2000000) (disch := omega) only [↓lenV, binV, ↓unV, ↓loadV, ↓boxV, GVal.cells, grp, GVal.ofConst, ↓resV, resG, List.map, List.headD, List.take, List.drop, ↓reduceIte, Nat.reduceEqDiff, Nat.reduceAdd, Nat.reduceSub, Nat.reduceLeDiff, reduceCtorEq, implies_true, ne_eq, aggV, Tag.cap, List.replicate, allSolid, GVal.solid, Nat.reduceBEq, Nat.reduceMul, Nat.reduceLT, List.length_map, List.length_range, splice, vcA, ↓vcB, vcC, fbFf, e5, dJ, dK, spl_length, Int.lt_irrefl, decide_false]
    refine s1.then ?_ (by rfl)
    simp +contextual -implicitDefEqProofs (maxSteps := 2000000) (disch := omega) only [↓lenV, binV, ↓unV, ↓loadV, ↓boxV, GVal.cells, grp, GVal.ofConst, ↓resV, resG, List.map, List.headD, List.take, List.drop, ↓reduceIte, Nat.reduceEqDiff, Nat.reduceAdd, Nat.reduceSub, Nat.reduceLeDiff, reduceCtorEq, implies_true, ne_eq, aggV, Tag.cap, List.replicate, allSolid, GVal.solid, Nat.reduceBEq, Nat.reduceMul, Nat.reduceLT, List.length_map, List.length_range, splice, vcA, ↓vcB, vcC, fbFf, e5, dJ, dK, spl_length, Int.lt_irrefl, decide_false]
    refine cDn2.then ?_
    simp +contextual -implicitDefEqProofs (maxSteps := 2000000) (disch := omega) only [↓lenV, binV, ↓unV, ↓loadV, ↓boxV, GVal.cells, grp, GVal.ofConst, ↓resV, resG, List.map, List.headD, List.take, List.drop, ↓reduceIte, Nat.reduceEqDiff, Nat.reduceAdd, Nat.reduceSub, Nat.reduceLeDiff, reduceCtorEq, implies_true, ne_eq, aggV, Tag.cap, List.replicate, allSolid, GVal.solid, Nat.reduceBEq, Nat.reduceMul, Nat.reduceLT, List.length_map, List.length_range, splice, vcA, ↓vcB, vcC, fbFf, e5, dJ, dK, spl_length, Int.lt_irrefl, decide_false]
    refine s2.then ?_ (by rfl)
    simp +contextual -implicitDefEqProofs (maxSteps := 2000000) (disch := omega) only [↓lenV, binV, ↓unV, ↓loadV, ↓boxV, GVal.cells, grp, GVal.ofConst, ↓resV, resG, List.map, List.headD, List.take, List.drop, ↓reduceIte, Nat.reduceEqDiff, Nat.reduceAdd, Nat.reduceSub, Nat.reduceLeDiff, reduceCtorEq, implies_true, ne_eq, aggV, Tag.cap, List.replicate, allSolid, GVal.solid, Nat.reduceBEq, Nat.reduceMul, Nat.reduceLT, List.length_map, List.length_range, splice, vcA, ↓vcB, vcC, fbFf, e5, dJ, dK, spl_length, Int.lt_irrefl, decide_false]
    refine cU.then ?_ (by rfl)
    simp +contextual -implicitDefEqProofs (maxSteps := 2000000) (disch := omega) only [↓lenV, binV, ↓unV, ↓loadV, ↓boxV, GVal.cells, grp, GVal.ofConst, ↓resV, resG, List.map, List.headD, List.take, List.drop, ↓reduceIte, Nat.reduceEqDiff, Nat.reduceAdd, Nat.reduceSub, Nat.reduceLeDiff, reduceCtorEq, implies_true, ne_eq, aggV, Tag.cap, List.replicate, allSolid, GVal.solid, Nat.reduceBEq, Nat.reduceMul, Nat.reduceLT, List.length_map, List.length_range, splice, vcA, ↓vcB, vcC, fbFf, e5, dJ, dK, spl_length, Int.lt_irrefl, decide_false]
    refine (cUpU k2 (by omega)).mono ?_
    rintro g O' ⟨_, rfl, k3, rfl, rfl, p3, q3, r3⟩
    simp +contextual -implicitDefEqProofs (maxSteps := 2000000) (disch := omega) only [↓lenV, binV, ↓unV, ↓loadV, ↓boxV, GVal.cells, grp, GVal.ofConst, ↓resV, resG, List.map, List.headD, List.take, List.drop, ↓reduceIte, Nat.reduceEqDiff, Nat.reduceAdd, Nat.reduceSub, Nat.reduceLeDiff, reduceCtorEq, implies_true, ne_eq, aggV, Tag.cap, List.replicate, allSolid, GVal.solid, Nat.reduceBEq, Nat.reduceMul, Nat.reduceLT, List.length_map, List.length_range, splice, vcA, ↓vcB, vcC, fbFf, e5, dJ, dK, spl_length, Int.lt_irrefl, decide_false]
    refine (cAT k3 (by omega)).mono ?_
    rintro g O' ⟨_, rfl, k4, rfl, rfl, p4, q4, r4⟩
    simp +contextual -implicitDefEqProofs (maxSteps := 2000000) (disch := omega) only [↓lenV, binV, ↓unV, ↓loadV, ↓boxV, GVal.cells, grp, GVal.ofConst, ↓resV, resG, List.map, List.headD, List.take, List.drop, ↓reduceIte, Nat.reduceEqDiff, Nat.reduceAdd, Nat.reduceSub, Nat.reduceLeDiff, reduceCtorEq, implies_true, ne_eq, aggV, Tag.cap, List.replicate, allSolid, GVal.solid, Nat.reduceBEq, Nat.reduceMul, Nat.reduceLT, List.length_map, List.length_range, splice, vcA, ↓vcB, vcC, fbFf, e5, dJ, dK, spl_length, Int.lt_irrefl, decide_false]
    refine cUA.then ?_ (by rfl)
    simp +contextual -implicitDefEqProofs (maxSteps := 2000000) (disch := omega) only [↓lenV, binV, ↓unV, ↓loadV, ↓boxV, GVal.cells, grp, GVal.ofConst, ↓resV, resG, List.map, List.headD, List.take, List.drop, ↓reduceIte, Nat.reduceEqDiff, Nat.reduceAdd, Nat.reduceSub, Nat.reduceLeDiff, reduceCtorEq, implies_true, ne_eq, aggV, Tag.cap, List.replicate, allSolid, GVal.solid, Nat.reduceBEq, Nat.reduceMul, Nat.reduceLT, List.length_map, List.length_range, splice, vcA, ↓vcB, vcC, fbFf, e5, dJ, dK, spl_length, Int.lt_irrefl, decide_false]
    refine s3.then ?_ (by rfl)
    simp +contextual -implicitDefEqProofs (maxSteps := 2000000) (disch := omega) only [↓lenV, binV, ↓unV, ↓loadV, ↓boxV, GVal.cells, grp, GVal.ofConst, ↓resV, resG, List.map, List.headD, List.take, List.drop, ↓reduceIte, Nat.reduceEqDiff, Nat.reduceAdd, Nat.reduceSub, Nat.reduceLeDiff, reduceCtorEq, implies_true, ne_eq, aggV, Tag.cap, List.replicate, allSolid, GVal.solid, Nat.reduceBEq, Nat.reduceMul, Nat.reduceLT, List.length_map, List.length_range, splice, vcA, ↓vcB, vcC, fbFf, e5, dJ, dK, spl_length, Int.lt_irrefl, decide_false]
    refine (cUpH k4 (by omega)).mono ?_
    rintro g O' ⟨_, rfl, k5, rfl, rfl, p5, q5, r5⟩
    simp +contextual -implicitDefEqProofs (maxSteps := 2000000) (disch := omega) only [↓lenV, binV, ↓unV, ↓loadV, ↓boxV, GVal.cells, grp, GVal.ofConst, ↓resV, resG, List.map, List.headD, List.take, List.drop, ↓reduceIte, Nat.reduceEqDiff, Nat.reduceAdd, Nat.reduceSub, Nat.reduceLeDiff, reduceCtorEq, implies_true, ne_eq, aggV, Tag.cap, List.replicate, allSolid, GVal.solid, Nat.reduceBEq, Nat.reduceMul, Nat.reduceLT, List.length_map, List.length_range, splice, vcA, ↓vcB, vcC, fbFf, e5, dJ, dK, spl_length, Int.lt_irrefl, decide_false]
    refine s1.then ?_ (by rfl)
    simp +contextual -implicitDefEqProofs (maxSteps := 2000000) (disch := omega) only [↓lenV, binV, ↓unV, ↓loadV, ↓boxV, GVal.cells, grp, GVal.ofConst, ↓resV, resG, List.map, List.headD, List.take, List.drop, ↓reduceIte, Nat.reduceEqDiff, Nat.reduceAdd, Nat.reduceSub, Nat.reduceLeDiff, reduceCtorEq, implies_true, ne_eq, aggV, Tag.cap, List.replicate, allSolid, GVal.solid, Nat.reduceBEq, Nat.reduceMul, Nat.reduceLT, List.length_map, List.length_range, splice, vcA, ↓vcB, vcC, fbFf, e5, dJ, dK, spl_length, Int.lt_irrefl, decide_false]
    refine cDnR.then ?_
    simp +contextual -implicitDefEqProofs (maxSteps := 2000000) (disch := omega) only [↓lenV, binV, ↓unV, ↓loadV, ↓boxV, GVal.cells, grp, GVal.ofConst, ↓resV, resG, List.map, List.headD, List.take, List.drop, ↓reduceIte, Nat.reduceEqDiff, Nat.reduceAdd, Nat.reduceSub, Nat.reduceLeDiff, reduceCtorEq, implies_true, ne_eq, aggV, Tag.cap, List.replicate, allSolid, GVal.solid, Nat.reduceBEq, Nat.reduceMul, Nat.reduceLT, List.length_map, List.length_range, splice, vcA, ↓vcB, vcC, fbFf, e5, dJ, dK, spl_length, Int.lt_irrefl, decide_false]
    refine s2.then ?_ (by rfl)
    simp +contextual -implicitDefEqProofs (maxSteps := 2000000) (disch := omega) only [↓lenV, binV, ↓unV, ↓loadV, ↓boxV, GVal.cells, grp, GVal.ofConst, ↓resV, resG, List.map, List.headD, List.take, List.drop, ↓reduceIte, Nat.reduceEqDiff, Nat.reduceAdd, Nat.reduceSub, Nat.reduceLeDiff, reduceCtorEq, implies_true, ne_eq, aggV, Tag.cap, List.replicate, allSolid, GVal.solid, Nat.reduceBEq, Nat.reduceMul, Nat.reduceLT, List.length_map, List.length_range, splice, vcA, ↓vcB, vcC, fbFf, e5, dJ, dK, spl_length, Int.lt_irrefl, decide_false]
    refine cPa.then ?_
    simp +contextual -implicitDefEqProofs (maxSteps := 2000000) (disch := omega) only [↓lenV, binV, ↓unV, ↓loadV, ↓boxV, GVal.cells, grp, GVal.ofConst, ↓resV, resG, List.map, List.headD, List.take, List.drop, ↓reduceIte, Nat.reduceEqDiff, Nat.reduceAdd, Nat.reduceSub, Nat.reduceLeDiff, reduceCtorEq, implies_true, ne_eq, aggV, Tag.cap, List.replicate, allSolid, GVal.solid, Nat.reduceBEq, Nat.reduceMul, Nat.reduceLT, List.length_map, List.length_range, splice, vcA, ↓vcB, vcC, fbFf, e5, dJ, dK, spl_length, Int.lt_irrefl, decide_false]
    refine (cUpP k5 (by omega)).mono ?_
    rintro g O' ⟨_, rfl, k6, rfl, rfl, p6, q6, r6⟩
    simp +contextual -implicitDefEqProofs (maxSteps := 2000000) (disch := omega) only [↓lenV, binV, ↓unV, ↓loadV, ↓boxV, GVal.cells, grp, GVal.ofConst, ↓resV, resG, List.map, List.headD, List.take, List.drop, ↓reduceIte, Nat.reduceEqDiff, Nat.reduceAdd, Nat.reduceSub, Nat.reduceLeDiff, reduceCtorEq, implies_true, ne_eq, aggV, Tag.cap, List.replicate, allSolid, GVal.solid, Nat.reduceBEq, Nat.reduceMul, Nat.reduceLT, List.length_map, List.length_range, splice, vcA, ↓vcB, vcC, fbFf, e5, dJ, dK, spl_length, Int.lt_irrefl, decide_false]
    refine cUP.then ?_ (by rfl)
    simp +contextual -implicitDefEqProofs (maxSteps := 2000000) (disch := omega) only [↓lenV, binV, ↓unV, ↓loadV, ↓boxV, GVal.cells, grp, GVal.ofConst, ↓resV, resG, List.map, List.headD, List.take, List.drop, ↓reduceIte, Nat.reduceEqDiff, Nat.reduceAdd, Nat.reduceSub, Nat.reduceLeDiff, reduceCtorEq, implies_true, ne_eq, aggV, Tag.cap, List.replicate, allSolid, GVal.solid, Nat.reduceBEq, Nat.reduceMul, Nat.reduceLT, List.length_map, List.length_range, splice, vcA, ↓vcB, vcC, fbFf, e5, dJ, dK, spl_length, Int.lt_irrefl, decide_false]
    refine s1.then ?_ (by rfl)
    simp +contextual -implicitDefEqProofs (maxSteps := 2000000) (disch := omega) only [↓lenV, binV, ↓unV, ↓loadV, ↓boxV, GVal.cells, grp, GVal.ofConst, ↓resV, resG, List.map, List.headD, List.take, List.drop, ↓reduceIte, Nat.reduceEqDiff, Nat.reduceAdd, Nat.reduceSub, Nat.reduceLeDiff, reduceCtorEq, implies_true, ne_eq, aggV, Tag.cap, List.replicate, allSolid, GVal.solid, Nat.reduceBEq, Nat.reduceMul, Nat.reduceLT, List.length_map, List.length_range, splice, vcA, ↓vcB, vcC, fbFf, e5, dJ, dK, spl_length, Int.lt_irrefl, decide_false]
    refine cCh.then ?_
    simp +contextual -implicitDefEqProofs (maxSteps := 2000000) (disch := omega) only [↓lenV, binV, ↓unV, ↓loadV, ↓boxV, GVal.cells, grp, GVal.ofConst, ↓resV, resG, List.map, List.headD, List.take, List.drop, ↓reduceIte, Nat.reduceEqDiff, Nat.reduceAdd, Nat.reduceSub, Nat.reduceLeDiff, reduceCtorEq, implies_true, ne_eq, aggV, Tag.cap, List.replicate, allSolid, GVal.solid, Nat.reduceBEq, Nat.reduceMul, Nat.reduceLT, List.length_map, List.length_range, splice, vcA, ↓vcB, vcC, fbFf, e5, dJ, dK, spl_length, Int.lt_irrefl, decide_false]
    refine cDnC.then ?_
    simp +contextual -implicitDefEqProofs (maxSteps := 2000000) (disch := omega) only [↓lenV, binV, ↓unV, ↓loadV, ↓boxV, GVal.cells, grp, GVal.ofConst, ↓resV, resG, List.map, List.headD, List.take, List.drop, ↓reduceIte, Nat.reduceEqDiff, Nat.reduceAdd, Nat.reduceSub, Nat.reduceLeDiff, reduceCtorEq, implies_true, ne_eq, aggV, Tag.cap, List.replicate, allSolid, GVal.solid, Nat.reduceBEq, Nat.reduceMul, Nat.reduceLT, List.length_map, List.length_range, splice, vcA, ↓vcB, vcC, fbFf, e5, dJ, dK, spl_length, Int.lt_irrefl, decide_false]
    refine cUC.then ?_ (by rfl)
    simp +contextual -implicitDefEqProofs (maxSteps := 2000000) (disch := omega) only [↓lenV, binV, ↓unV, ↓loadV, ↓boxV, GVal.cells, grp, GVal.ofConst, ↓resV, resG, List.map, List.headD, List.take, List.drop, ↓reduceIte, Nat.reduceEqDiff, Nat.reduceAdd, Nat.reduceSub, Nat.reduceLeDiff, reduceCtorEq, implies_true, ne_eq, aggV, Tag.cap, List.replicate, allSolid, GVal.solid, Nat.reduceBEq, Nat.reduceMul, Nat.reduceLT, List.length_map, List.length_range, splice, vcA, ↓vcB, vcC, fbFf, e5, dJ, dK, spl_length, Int.lt_irrefl, decide_false]
    refine s2.then ?_ (by rfl)
    simp +contextual -implicitDefEqProofs (maxSteps := 2000000) (disch := omega) only [↓lenV, binV, ↓unV, ↓loadV, ↓boxV, GVal.cells, grp, GVal.ofConst, ↓resV, resG, List.map, List.headD, List.take, List.drop, ↓reduceIte, Nat.reduceEqDiff, Nat.reduceAdd, Nat.reduceSub, Nat.reduceLeDiff, reduceCtorEq, implies_true, ne_eq, aggV, Tag.cap, List.replicate, allSolid, GVal.solid, Nat.reduceBEq, Nat.reduceMul, Nat.reduceLT, List.length_map, List.length_range, splice, vcA, ↓vcB, vcC, fbFf, e5, dJ, dK, spl_length, Int.lt_irrefl, decide_false]
    refine (cAT k6 (by omega)).mono ?_
    rintro g O' ⟨_, rfl, k7, rfl, rfl, p7, q7, r7⟩
    simp +contextual -implicitDefEqProofs (maxSteps := 2000000) (disch := omega) only [↓lenV, binV, ↓unV, ↓loadV, ↓boxV, GVal.cells, grp, GVal.ofConst, ↓resV, resG, List.map, List.headD, List.take, List.drop, ↓reduceIte, Nat.reduceEqDiff, Nat.reduceAdd, Nat.reduceSub, Nat.reduceLeDiff, reduceCtorEq, implies_true, ne_eq, aggV, Tag.cap, List.replicate, allSolid, GVal.solid, Nat.reduceBEq, Nat.reduceMul, Nat.reduceLT, List.length_map, List.length_range, splice, vcA, ↓vcB, vcC, fbFf, e5, dJ, dK, spl_length, Int.lt_irrefl, decide_false]
    refine cJ.then ?_ (by rfl)
    simp +contextual -implicitDefEqProofs (maxSteps := 2000000) (disch := omega) only [↓lenV, binV, ↓unV, ↓loadV, ↓boxV, GVal.cells, grp, GVal.ofConst, ↓resV, resG, List.map, List.headD, List.take, List.drop, ↓reduceIte, Nat.reduceEqDiff, Nat.reduceAdd, Nat.reduceSub, Nat.reduceLeDiff, reduceCtorEq, implies_true, ne_eq, aggV, Tag.cap, List.replicate, allSolid, GVal.solid, Nat.reduceBEq, Nat.reduceMul, Nat.reduceLT, List.length_map, List.length_range, splice, vcA, ↓vcB, vcC, fbFf, e5, dJ, dK, spl_length, Int.lt_irrefl, decide_false]
    refine cDn.then ?_
    simp +contextual -implicitDefEqProofs (maxSteps := 2000000) (disch := omega) only [↓lenV, binV, ↓unV, ↓loadV, ↓boxV, GVal.cells, grp, GVal.ofConst, ↓resV, resG, List.map, List.headD, List.take, List.drop, ↓reduceIte, Nat.reduceEqDiff, Nat.reduceAdd, Nat.reduceSub, Nat.reduceLeDiff, reduceCtorEq, implies_true, ne_eq, aggV, Tag.cap, List.replicate, allSolid, GVal.solid, Nat.reduceBEq, Nat.reduceMul, Nat.reduceLT, List.length_map, List.length_range, splice, vcA, ↓vcB, vcC, fbFf, e5, dJ, dK, spl_length, Int.lt_irrefl, decide_false]
    refine cK.then ?_ (by rfl)
    simp +contextual -implicitDefEqProofs (maxSteps := 2000000) (disch := omega) only [↓lenV, binV, ↓unV, ↓loadV, ↓boxV, GVal.cells, grp, GVal.ofConst, ↓resV, resG, List.map, List.headD, List.take, List.drop, ↓reduceIte, Nat.reduceEqDiff, Nat.reduceAdd, Nat.reduceSub, Nat.reduceLeDiff, reduceCtorEq, implies_true, ne_eq, aggV, Tag.cap, List.replicate, allSolid, GVal.solid, Nat.reduceBEq, Nat.reduceMul, Nat.reduceLT, List.length_map, List.length_range, splice, vcA, ↓vcB, vcC, fbFf, e5, dJ, dK, spl_length, Int.lt_irrefl, decide_false]
    refine (cB k7 (by omega)).mono ?_
    rintro g O' ⟨_, rfl, k8, rfl, rfl, p8, q8⟩
    simp +contextual -implicitDefEqProofs (maxSteps := 2000000) (disch := omega) only [↓lenV, binV, ↓unV, ↓loadV, ↓boxV, GVal.cells, grp, GVal.ofConst, ↓resV, resG, List.map, List.headD, List.take, List.drop, ↓reduceIte, Nat.reduceEqDiff, Nat.reduceAdd, Nat.reduceSub, Nat.reduceLeDiff, reduceCtorEq, implies_true, ne_eq, aggV, Tag.cap, List.replicate, allSolid, GVal.solid, Nat.reduceBEq, Nat.reduceMul, Nat.reduceLT, List.length_map, List.length_range, splice, vcA, ↓vcB, vcC, fbFf, e5, dJ, dK, spl_length, Int.lt_irrefl, decide_false]
    refine cBB.then ?_ (by rfl)
    simp +contextual -implicitDefEqProofs (maxSteps := 2000000) (disch := omega) only [↓lenV, binV, ↓unV, ↓loadV, ↓boxV, GVal.cells, grp, GVal.ofConst, ↓resV, resG, List.map, List.headD, List.take, List.drop, ↓reduceIte, Nat.reduceEqDiff, Nat.reduceAdd, Nat.reduceSub, Nat.reduceLeDiff, reduceCtorEq, implies_true, ne_eq, aggV, Tag.cap, List.replicate, allSolid, GVal.solid, Nat.reduceBEq, Nat.reduceMul, Nat.reduceLT, List.length_map, List.length_range, splice, vcA, ↓vcB, vcC, fbFf, e5, dJ, dK, spl_length, Int.lt_irrefl, decide_false]
    refine s4.then ?_ (by rfl)
    simp +contextual -implicitDefEqProofs (maxSteps := 2000000) (disch := omega) only [↓lenV, binV, ↓unV, ↓loadV, ↓boxV, GVal.cells, grp, GVal.ofConst, ↓resV, resG, List.map, List.headD, List.take, List.drop, ↓reduceIte, Nat.reduceEqDiff, Nat.reduceAdd, Nat.reduceSub, Nat.reduceLeDiff, reduceCtorEq, implies_true, ne_eq, aggV, Tag.cap, List.replicate, allSolid, GVal.solid, Nat.reduceBEq, Nat.reduceMul, Nat.reduceLT, List.length_map, List.length_range, splice, vcA, ↓vcB, vcC, fbFf, e5, dJ, dK, spl_length, Int.lt_irrefl, decide_false]
    exact frzB _
  · have dJ : ((0 : Int) < (J.length : Int)) = True := eq_true (by omega)
    have dK : ((0 : Int) < (K.length : Int)) = True := eq_true (by omega)
    simp +contextual -implicitDefEqProofs (maxSteps := 2000000) (disch := omega) only [↓lenV, binV, ↓unV, ↓loadV, ↓boxV, GVal.cells, grp, GVal.ofConst, ↓resV, resG, List.map, List.headD, List.take, List.drop, ↓reduceIte, Nat.reduceEqDiff, Nat.reduceAdd, Nat.reduceSub, Nat.reduceLeDiff, reduceCtorEq, implies_true, ne_eq, aggV, Tag.cap, List.replicate, allSolid, GVal.solid, Nat.reduceBEq, Nat.reduceMul, Nat.reduceLT, List.length_map, List.length_range, splice, vcA, ↓vcB, vcC, fbFf, e5, dJ, dK, spl_length, Int.lt_irrefl, decide_false]
    refine aKnown.then ?_ (by rfl)
    simp +contextual -implicitDefEqProofs (maxSteps := 2000000) (disch := omega) only [↓lenV, binV, ↓unV, ↓loadV, ↓boxV, GVal.cells, grp, GVal.ofConst, ↓resV, resG, List.map, List.headD, List.take, List.drop, ↓reduceIte, Nat.reduceEqDiff, Nat.reduceAdd, Nat.reduceSub, Nat.reduceLeDiff, reduceCtorEq, implies_true, ne_eq, aggV, Tag.cap, List.replicate, allSolid, GVal.solid, Nat.reduceBEq, Nat.reduceMul, Nat.reduceLT, List.length_map, List.length_range, splice, vcA, ↓vcB, vcC, fbFf, e5, dJ, dK, spl_length, Int.lt_irrefl, decide_false]
    refine (aAll L (allN L) (by omega)).then ?_
    simp +contextual -implicitDefEqProofs (maxSteps := 2000000) (disch := omega) only [↓lenV, binV, ↓unV, ↓loadV, ↓boxV, GVal.cells, grp, GVal.ofConst, ↓resV, resG, List.map, List.headD, List.take, List.drop, ↓reduceIte, Nat.reduceEqDiff, Nat.reduceAdd, Nat.reduceSub, Nat.reduceLeDiff, reduceCtorEq, implies_true, ne_eq, aggV, Tag.cap, List.replicate, allSolid, GVal.solid, Nat.reduceBEq, Nat.reduceMul, Nat.reduceLT, List.length_map, List.length_range, splice, vcA, ↓vcB, vcC, fbFf, e5, dJ, dK, spl_length, Int.lt_irrefl, decide_false]
    refine cA.then ?_ (by rfl)
    simp +contextual -implicitDefEqProofs (maxSteps := 2000000) (disch := omega) only [↓lenV, binV, ↓unV, ↓loadV, ↓boxV, GVal.cells, grp, GVal.ofConst, ↓resV, resG, List.map, List.headD, List.take, List.drop, ↓reduceIte, Nat.reduceEqDiff, Nat.reduceAdd, Nat.reduceSub, Nat.reduceLeDiff, reduceCtorEq, implies_true, ne_eq, aggV, Tag.cap, List.replicate, allSolid, GVal.solid, Nat.reduceBEq, Nat.reduceMul, Nat.reduceLT, List.length_map, List.length_range, splice, vcA, ↓vcB, vcC, fbFf, e5, dJ, dK, spl_length, Int.lt_irrefl, decide_false]
    refine cS.then ?_ (by rfl)
    simp +contextual -implicitDefEqProofs (maxSteps := 2000000) (disch := omega) only [↓lenV, binV, ↓unV, ↓loadV, ↓boxV, GVal.cells, grp, GVal.ofConst, ↓resV, resG, List.map, List.headD, List.take, List.drop, ↓reduceIte, Nat.reduceEqDiff, Nat.reduceAdd, Nat.reduceSub, Nat.reduceLeDiff, reduceCtorEq, implies_true, ne_eq, aggV, Tag.cap, List.replicate, allSolid, GVal.solid, Nat.reduceBEq, Nat.reduceMul, Nat.reduceLT, List.length_map, List.length_range, splice, vcA, ↓vcB, vcC, fbFf, e5, dJ, dK, spl_length, Int.lt_irrefl, decide_false]
    refine (aAll L (allN L) (by omega)).then ?_
    simp +contextual -implicitDefEqProofs (maxSteps := 2000000) (disch := omega) only [↓lenV, binV, ↓unV, ↓loadV, ↓boxV, GVal.cells, grp, GVal.ofConst, ↓resV, resG, List.map, List.headD, List.take, List.drop, ↓reduceIte, Nat.reduceEqDiff, Nat.reduceAdd, Nat.reduceSub, Nat.reduceLeDiff, reduceCtorEq, implies_true, ne_eq, aggV, Tag.cap, List.replicate, allSolid, GVal.solid, Nat.reduceBEq, Nat.reduceMul, Nat.reduceLT, List.length_map, List.length_range, splice, vcA, ↓vcB, vcC, fbFf, e5, dJ, dK, spl_length, Int.lt_irrefl, decide_false]
    refine cBs.then ?_ (by rfl)
    simp +contextual -implicitDefEqProofs (maxSteps := 2000000) (disch := omega) only [↓lenV, binV, ↓unV, ↓loadV, ↓boxV, GVal.cells, grp, GVal.ofConst, ↓resV, resG, List.map, List.headD, List.take, List.drop, ↓reduceIte, Nat.reduceEqDiff, Nat.reduceAdd, Nat.reduceSub, Nat.reduceLeDiff, reduceCtorEq, implies_true, ne_eq, aggV, Tag.cap, List.replicate, allSolid, GVal.solid, Nat.reduceBEq, Nat.reduceMul, Nat.reduceLT, List.length_map, List.length_range, splice, vcA, ↓vcB, vcC, fbFf, e5, dJ, dK, spl_length, Int.lt_irrefl, decide_false]
    refine cTT.then ?_ (by rfl)
    simp +contextual -implicitDefEqProofs (maxSteps := 2000000) (disch := omega) only [↓lenV, binV, ↓unV, ↓loadV, ↓boxV, GVal.cells, grp, GVal.ofConst, ↓resV, resG, List.map, List.headD, List.take, List.drop, ↓reduceIte, Nat.reduceEqDiff, Nat.reduceAdd, Nat.reduceSub, Nat.reduceLeDiff, reduceCtorEq, implies_true, ne_eq, aggV, Tag.cap, List.replicate, allSolid, GVal.solid, Nat.reduceBEq, Nat.reduceMul, Nat.reduceLT, List.length_map, List.length_range, splice, vcA, ↓vcB, vcC, fbFf, e5, dJ, dK, spl_length, Int.lt_irrefl, decide_false]
    refine (cUp 0 (by omega)).mono ?_
    rintro g O' ⟨_, rfl, k1, rfl, rfl, p1, q1, r1⟩
    simp +contextual -implicitDefEqProofs (maxSteps := 2000000) (disch := omega) only [↓lenV, binV, ↓unV, ↓loadV, ↓boxV, GVal.cells, grp, GVal.ofConst, ↓resV, resG, List.map, List.headD, List.take, List.drop, ↓reduceIte, Nat.reduceEqDiff, Nat.reduceAdd, Nat.reduceSub, Nat.reduceLeDiff, reduceCtorEq, implies_true, ne_eq, aggV, Tag.cap, List.replicate, allSolid, GVal.solid, Nat.reduceBEq, Nat.reduceMul, Nat.reduceLT, List.length_map, List.length_range, splice, vcA, ↓vcB, vcC, fbFf, e5, dJ, dK, spl_length, Int.lt_irrefl, decide_false]
    refine cDn.then ?_
    simp +contextual -implicitDefEqProofs (maxSteps := 2000000) (disch := omega) only [↓lenV, binV, ↓unV, ↓loadV, ↓boxV, GVal.cells, grp, GVal.ofConst, ↓resV, resG, List.map, List.headD, List.take, List.drop, ↓reduceIte, Nat.reduceEqDiff, Nat.reduceAdd, Nat.reduceSub, Nat.reduceLeDiff, reduceCtorEq, implies_true, ne_eq, aggV, Tag.cap, List.replicate, allSolid, GVal.solid, Nat.reduceBEq, Nat.reduceMul, Nat.reduceLT, List.length_map, List.length_range, splice, vcA, ↓vcB, vcC, fbFf, e5, dJ, dK, spl_length, Int.lt_irrefl, decide_false]
    refine cH.then ?_
    simp +contextual -implicitDefEqProofs (maxSteps := 2000000) (disch := omega) only [↓lenV, binV, ↓unV, ↓loadV, ↓boxV, GVal.cells, grp, GVal.ofConst, ↓resV, resG, List.map, List.headD, List.take, List.drop, ↓reduceIte, Nat.reduceEqDiff, Nat.reduceAdd, Nat.reduceSub, Nat.reduceLeDiff, reduceCtorEq, implies_true, ne_eq, aggV, Tag.cap, List.replicate, allSolid, GVal.solid, Nat.reduceBEq, Nat.reduceMul, Nat.reduceLT, List.length_map, List.length_range, splice, vcA, ↓vcB, vcC, fbFf, e5, dJ, dK, spl_length, Int.lt_irrefl, decide_false]
    refine cR.then ?_
    simp +contextual -implicitDefEqProofs (maxSteps := 2000000) (disch := omega) only [↓lenV, binV, ↓unV, ↓loadV, ↓boxV, GVal.cells, grp, GVal.ofConst, ↓resV, resG, List.map, List.headD, List.take, List.drop, ↓reduceIte, Nat.reduceEqDiff, Nat.reduceAdd, Nat.reduceSub, Nat.reduceLeDiff, reduceCtorEq, implies_true, ne_eq, aggV, Tag.cap, List.replicate, allSolid, GVal.solid, Nat.reduceBEq, Nat.reduceMul, Nat.reduceLT, List.length_map, List.length_range, splice, vcA, ↓vcB, vcC, fbFf, e5, dJ, dK, spl_length, Int.lt_irrefl, decide_false]
    refine (cUp2 k1 (by omega)).mono ?_
    rintro g O' ⟨_, rfl, k2, rfl, rfl, p2, q2, r2⟩
    simp +contextual -implicitDefEqProofs (maxSteps := 2000000) (disch := omega) only [↓lenV, binV, ↓unV, ↓loadV, ↓boxV, GVal.cells, grp, GVal.ofConst, ↓resV, resG, List.map, List.headD, List.take, List.drop, ↓reduceIte, Nat.reduceEqDiff, Nat.reduceAdd, Nat.reduceSub, Nat.reduceLeDiff, reduceCtorEq, implies_true, ne_eq, aggV, Tag.cap, List.replicate, allSolid, GVal.solid, Nat.reduceBEq, Nat.reduceMul, Nat.reduceLT, List.length_map, List.length_range, splice, vcA, ↓vcB, vcC, fbFf, e5, dJ, dK, spl_length, Int.lt_irrefl, decide_false]
    refine s1.then ?_ (by rfl)
    simp +contextual -implicitDefEqProofs (maxSteps := 2000000) (disch := omega) only [↓lenV, binV, ↓unV, ↓loadV, ↓boxV, GVal.cells, grp, GVal.ofConst, ↓resV, resG, List.map, List.headD, List.take, List.drop, ↓reduceIte, Nat.reduceEqDiff, Nat.reduceAdd, Nat.reduceSub, Nat.reduceLeDiff, reduceCtorEq, implies_true, ne_eq, aggV, Tag.cap, List.replicate, allSolid, GVal.solid, Nat.reduceBEq, Nat.reduceMul, Nat.reduceLT, List.length_map, List.length_range, splice, vcA, ↓vcB, vcC, fbFf, e5, dJ, dK, spl_length, Int.lt_irrefl, decide_false]
    refine cDn2.then ?_
    simp +contextual -implicitDefEqProofs (maxSteps := 2000000) (disch := omega) only [↓lenV, binV, ↓unV, ↓loadV, ↓boxV, GVal.cells, grp, GVal.ofConst, ↓resV, resG, List.map, List.headD, List.take, List.drop, ↓reduceIte, Nat.reduceEqDiff, Nat.reduceAdd, Nat.reduceSub, Nat.reduceLeDiff, reduceCtorEq, implies_true, ne_eq, aggV, Tag.cap, List.replicate, allSolid, GVal.solid, Nat.reduceBEq, Nat.reduceMul, Nat.reduceLT, List.length_map, List.length_range, splice, vcA, ↓vcB, vcC, fbFf, e5, dJ, dK, spl_length, Int.lt_irrefl, decide_false]
    refine s2.then ?_ (by rfl)
    simp +contextual -implicitDefEqProofs (maxSteps := 2000000) (disch := omega) only [↓lenV, binV, ↓unV, ↓loadV, ↓boxV, GVal.cells, grp, GVal.ofConst, ↓resV, resG, List.map, List.headD, List.take, List.drop, ↓reduceIte, Nat.reduceEqDiff, Nat.reduceAdd, Nat.reduceSub, Nat.reduceLeDiff, reduceCtorEq, implies_true, ne_eq, aggV, Tag.cap, List.replicate, allSolid, GVal.solid, Nat.reduceBEq, Nat.reduceMul, Nat.reduceLT, List.length_map, List.length_range, splice, vcA, ↓vcB, vcC, fbFf, e5, dJ, dK, spl_length, Int.lt_irrefl, decide_false]
    refine cU.then ?_ (by rfl)
    simp +contextual -implicitDefEqProofs (maxSteps := 2000000) (disch := omega) only [↓lenV, binV, ↓unV, ↓loadV, ↓boxV, GVal.cells, grp, GVal.ofConst, ↓resV, resG, List.map, List.headD, List.take, List.drop, ↓reduceIte, Nat.reduceEqDiff, Nat.reduceAdd, Nat.reduceSub, Nat.reduceLeDiff, reduceCtorEq, implies_true, ne_eq, aggV, Tag.cap, List.replicate, allSolid, GVal.solid, Nat.reduceBEq, Nat.reduceMul, Nat.reduceLT, List.length_map, List.length_range, splice, vcA, ↓vcB, vcC, fbFf, e5, dJ, dK, spl_length, Int.lt_irrefl, decide_false]
    refine (cUpU k2 (by omega)).mono ?_
    rintro g O' ⟨_, rfl, k3, rfl, rfl, p3, q3, r3⟩
    simp +contextual -implicitDefEqProofs (maxSteps := 2000000) (disch := omega) only [↓lenV, binV, ↓unV, ↓loadV, ↓boxV, GVal.cells, grp, GVal.ofConst, ↓resV, resG, List.map, List.headD, List.take, List.drop, ↓reduceIte, Nat.reduceEqDiff, Nat.reduceAdd, Nat.reduceSub, Nat.reduceLeDiff, reduceCtorEq, implies_true, ne_eq, aggV, Tag.cap, List.replicate, allSolid, GVal.solid, Nat.reduceBEq, Nat.reduceMul, Nat.reduceLT, List.length_map, List.length_range, splice, vcA, ↓vcB, vcC, fbFf, e5, dJ, dK, spl_length, Int.lt_irrefl, decide_false]
    refine (cAT k3 (by omega)).mono ?_
    rintro g O' ⟨_, rfl, k4, rfl, rfl, p4, q4, r4⟩
    simp +contextual -implicitDefEqProofs (maxSteps := 2000000) (disch := omega) only [↓lenV, binV, ↓unV, ↓loadV, ↓boxV, GVal.cells, grp, GVal.ofConst, ↓resV, resG, List.map, List.headD, List.take, List.drop, ↓reduceIte, Nat.reduceEqDiff, Nat.reduceAdd, Nat.reduceSub, Nat.reduceLeDiff, reduceCtorEq, implies_true, ne_eq, aggV, Tag.cap, List.replicate, allSolid, GVal.solid, Nat.reduceBEq, Nat.reduceMul, Nat.reduceLT, List.length_map, List.length_range, splice, vcA, ↓vcB, vcC, fbFf, e5, dJ, dK, spl_length, Int.lt_irrefl, decide_false]
    refine cUA.then ?_ (by rfl)
    simp +contextual -implicitDefEqProofs (maxSteps := 2000000) (disch := omega) only [↓lenV, binV, ↓unV, ↓loadV, ↓boxV, GVal.cells, grp, GVal.ofConst, ↓resV, resG, List.map, List.headD, List.take, List.drop, ↓reduceIte, Nat.reduceEqDiff, Nat.reduceAdd, Nat.reduceSub, Nat.reduceLeDiff, reduceCtorEq, implies_true, ne_eq, aggV, Tag.cap, List.replicate, allSolid, GVal.solid, Nat.reduceBEq, Nat.reduceMul, Nat.reduceLT, List.length_map, List.length_range, splice, vcA, ↓vcB, vcC, fbFf, e5, dJ, dK, spl_length, Int.lt_irrefl, decide_false]
    refine s3.then ?_ (by rfl)
    simp +contextual -implicitDefEqProofs (maxSteps := 2000000) (disch := omega) only [↓lenV, binV, ↓unV, ↓loadV, ↓boxV, GVal.cells, grp, GVal.ofConst, ↓resV, resG, List.map, List.headD, List.take, List.drop, ↓reduceIte, Nat.reduceEqDiff, Nat.reduceAdd, Nat.reduceSub, Nat.reduceLeDiff, reduceCtorEq, implies_true, ne_eq, aggV, Tag.cap, List.replicate, allSolid, GVal.solid, Nat.reduceBEq, Nat.reduceMul, Nat.reduceLT, List.length_map, List.length_range, splice, vcA, ↓vcB, vcC, fbFf, e5, dJ, dK, spl_length, Int.lt_irrefl, decide_false]
    refine (cUpH k4 (by omega)).mono ?_
    rintro g O' ⟨_, rfl, k5, rfl, rfl, p5, q5, r5⟩
    simp +contextual -implicitDefEqProofs (maxSteps := 2000000) (disch := omega) only [↓lenV, binV, ↓unV, ↓loadV, ↓boxV, GVal.cells, grp, GVal.ofConst, ↓resV, resG, List.map, List.headD, List.take, List.drop, ↓reduceIte, Nat.reduceEqDiff, Nat.reduceAdd, Nat.reduceSub, Nat.reduceLeDiff, reduceCtorEq, implies_true, ne_eq, aggV, Tag.cap, List.replicate, allSolid, GVal.solid, Nat.reduceBEq, Nat.reduceMul, Nat.reduceLT, List.length_map, List.length_range, splice, vcA, ↓vcB, vcC, fbFf, e5, dJ, dK, spl_length, Int.lt_irrefl, decide_false]
    refine s1.then ?_ (by rfl)
    simp +contextual -implicitDefEqProofs (maxSteps := 2000000) (disch := omega) only [↓lenV, binV, ↓unV, ↓loadV, ↓boxV, GVal.cells, grp, GVal.ofConst, ↓resV, resG, List.map, List.headD, List.take, List.drop, ↓reduceIte, Nat.reduceEqDiff, Nat.reduceAdd, Nat.reduceSub, Nat.reduceLeDiff, reduceCtorEq, implies_true, ne_eq, aggV, Tag.cap, List.replicate, allSolid, GVal.solid, Nat.reduceBEq, Nat.reduceMul, Nat.reduceLT, List.length_map, List.length_range, splice, vcA, ↓vcB, vcC, fbFf, e5, dJ, dK, spl_length, Int.lt_irrefl, decide_false]
    refine cDnR.then ?_
    simp +contextual -implicitDefEqProofs (maxSteps := 2000000) (disch := omega) only [↓lenV, binV, ↓unV, ↓loadV, ↓boxV, GVal.cells, grp, GVal.ofConst, ↓resV, resG, List.map, List.headD, List.take, List.drop, ↓reduceIte, Nat.reduceEqDiff, Nat.reduceAdd, Nat.reduceSub, Nat.reduceLeDiff, reduceCtorEq, implies_true, ne_eq, aggV, Tag.cap, List.replicate, allSolid, GVal.solid, Nat.reduceBEq, Nat.reduceMul, Nat.reduceLT, List.length_map, List.length_range, splice, vcA, ↓vcB, vcC, fbFf, e5, dJ, dK, spl_length, Int.lt_irrefl, decide_false]
    refine s2.then ?_ (by rfl)
    simp +contextual -implicitDefEqProofs (maxSteps := 2000000) (disch := omega) only [↓lenV, binV, ↓unV, ↓loadV, ↓boxV, GVal.cells, grp, GVal.ofConst, ↓resV, resG, List.map, List.headD, List.take, List.drop, ↓reduceIte, Nat.reduceEqDiff, Nat.reduceAdd, Nat.reduceSub, Nat.reduceLeDiff, reduceCtorEq, implies_true, ne_eq, aggV, Tag.cap, List.replicate, allSolid, GVal.solid, Nat.reduceBEq, Nat.reduceMul, Nat.reduceLT, List.length_map, List.length_range, splice, vcA, ↓vcB, vcC, fbFf, e5, dJ, dK, spl_length, Int.lt_irrefl, decide_false]
    refine cPa.then ?_
    simp +contextual -implicitDefEqProofs (maxSteps := 2000000) (disch := omega) only [↓lenV, binV, ↓unV, ↓loadV, ↓boxV, GVal.cells, grp, GVal.ofConst, ↓resV, resG, List.map, List.headD, List.take, List.drop, ↓reduceIte, Nat.reduceEqDiff, Nat.reduceAdd, Nat.reduceSub, Nat.reduceLeDiff, reduceCtorEq, implies_true, ne_eq, aggV, Tag.cap, List.replicate, allSolid, GVal.solid, Nat.reduceBEq, Nat.reduceMul, Nat.reduceLT, List.length_map, List.length_range, splice, vcA, ↓vcB, vcC, fbFf, e5, dJ, dK, spl_length, Int.lt_irrefl, decide_false]
    refine (cUpP k5 (by omega)).mono ?_
    rintro g O' ⟨_, rfl, k6, rfl, rfl, p6, q6, r6⟩
    simp +contextual -implicitDefEqProofs (maxSteps := 2000000) (disch := omega) only [↓lenV, binV, ↓unV, ↓loadV, ↓boxV, GVal.cells, grp, GVal.ofConst, ↓resV, resG, List.map, List.headD, List.take, List.drop, ↓reduceIte, Nat.reduceEqDiff, Nat.reduceAdd, Nat.reduceSub, Nat.reduceLeDiff, reduceCtorEq, implies_true, ne_eq, aggV, Tag.cap, List.replicate, allSolid, GVal.solid, Nat.reduceBEq, Nat.reduceMul, Nat.reduceLT, List.length_map, List.length_range, splice, vcA, ↓vcB, vcC, fbFf, e5, dJ, dK, spl_length, Int.lt_irrefl, decide_false]
    refine cUP.then ?_ (by rfl)
    simp +contextual -implicitDefEqProofs (maxSteps := 2000000) (disch := omega) only [↓lenV, binV, ↓unV, ↓loadV, ↓boxV, GVal.cells, grp, GVal.ofConst, ↓resV, resG, List.map, List.headD, List.take, List.drop, ↓reduceIte, Nat.reduceEqDiff, Nat.reduceAdd, Nat.reduceSub, Nat.reduceLeDiff, reduceCtorEq, implies_true, ne_eq, aggV, Tag.cap, List.replicate, allSolid, GVal.solid, Nat.reduceBEq, Nat.reduceMul, Nat.reduceLT, List.length_map, List.length_range, splice, vcA, ↓vcB, vcC, fbFf, e5, dJ, dK, spl_length, Int.lt_irrefl, decide_false]
    refine s1.then ?_ (by rfl)
    simp +contextual -implicitDefEqProofs (maxSteps := 2000000) (disch := omega) only [↓lenV, binV, ↓unV, ↓loadV, ↓boxV, GVal.cells, grp, GVal.ofConst, ↓resV, resG, List.map, List.headD, List.take, List.drop, ↓reduceIte, Nat.reduceEqDiff, Nat.reduceAdd, Nat.reduceSub, Nat.reduceLeDiff, reduceCtorEq, implies_true, ne_eq, aggV, Tag.cap, List.replicate, allSolid, GVal.solid, Nat.reduceBEq, Nat.reduceMul, Nat.reduceLT, List.length_map, List.length_range, splice, vcA, ↓vcB, vcC, fbFf, e5, dJ, dK, spl_length, Int.lt_irrefl, decide_false]
    refine cCh.then ?_
    simp +contextual -implicitDefEqProofs (maxSteps := 2000000) (disch := omega) only [↓lenV, binV, ↓unV, ↓loadV, ↓boxV, GVal.cells, grp, GVal.ofConst, ↓resV, resG, List.map, List.headD, List.take, List.drop, ↓reduceIte, Nat.reduceEqDiff, Nat.reduceAdd, Nat.reduceSub, Nat.reduceLeDiff, reduceCtorEq, implies_true, ne_eq, aggV, Tag.cap, List.replicate, allSolid, GVal.solid, Nat.reduceBEq, Nat.reduceMul, Nat.reduceLT, List.length_map, List.length_range, splice, vcA, ↓vcB, vcC, fbFf, e5, dJ, dK, spl_length, Int.lt_irrefl, decide_false]
    refine cDnC.then ?_
    simp +contextual -implicitDefEqProofs (maxSteps := 2000000) (disch := omega) only [↓lenV, binV, ↓unV, ↓loadV, ↓boxV, GVal.cells, grp, GVal.ofConst, ↓resV, resG, List.map, List.headD, List.take, List.drop, ↓reduceIte, Nat.reduceEqDiff, Nat.reduceAdd, Nat.reduceSub, Nat.reduceLeDiff, reduceCtorEq, implies_true, ne_eq, aggV, Tag.cap, List.replicate, allSolid, GVal.solid, Nat.reduceBEq, Nat.reduceMul, Nat.reduceLT, List.length_map, List.length_range, splice, vcA, ↓vcB, vcC, fbFf, e5, dJ, dK, spl_length, Int.lt_irrefl, decide_false]
    refine cUC.then ?_ (by rfl)
    simp +contextual -implicitDefEqProofs (maxSteps := 2000000) (disch := omega) only [↓lenV, binV, ↓unV, ↓loadV, ↓boxV, GVal.cells, grp, GVal.ofConst, ↓resV, resG, List.map, List.headD, List.take, List.drop, ↓reduceIte, Nat.reduceEqDiff, Nat.reduceAdd, Nat.reduceSub, Nat.reduceLeDiff, reduceCtorEq, implies_true, ne_eq, aggV, Tag.cap, List.replicate, allSolid, GVal.solid, Nat.reduceBEq, Nat.reduceMul, Nat.reduceLT, List.length_map, List.length_range, splice, vcA, ↓vcB, vcC, fbFf, e5, dJ, dK, spl_length, Int.lt_irrefl, decide_false]
    refine s2.then ?_ (by rfl)
    simp +contextual -implicitDefEqProofs (maxSteps := 2000000) (disch := omega) only [↓lenV, binV, ↓unV, ↓loadV, ↓boxV, GVal.cells, grp, GVal.ofConst, ↓resV, resG, List.map, List.headD, List.take, List.drop, ↓reduceIte, Nat.reduceEqDiff, Nat.reduceAdd, Nat.reduceSub, Nat.reduceLeDiff, reduceCtorEq, implies_true, ne_eq, aggV, Tag.cap, List.replicate, allSolid, GVal.solid, Nat.reduceBEq, Nat.reduceMul, Nat.reduceLT, List.length_map, List.length_range, splice, vcA, ↓vcB, vcC, fbFf, e5, dJ, dK, spl_length, Int.lt_irrefl, decide_false]
    refine (cAT k6 (by omega)).mono ?_
    rintro g O' ⟨_, rfl, k7, rfl, rfl, p7, q7, r7⟩
    simp +contextual -implicitDefEqProofs (maxSteps := 2000000) (disch := omega) only [↓lenV, binV, ↓unV, ↓loadV, ↓boxV, GVal.cells, grp, GVal.ofConst, ↓resV, resG, List.map, List.headD, List.take, List.drop, ↓reduceIte, Nat.reduceEqDiff, Nat.reduceAdd, Nat.reduceSub, Nat.reduceLeDiff, reduceCtorEq, implies_true, ne_eq, aggV, Tag.cap, List.replicate, allSolid, GVal.solid, Nat.reduceBEq, Nat.reduceMul, Nat.reduceLT, List.length_map, List.length_range, splice, vcA, ↓vcB, vcC, fbFf, e5, dJ, dK, spl_length, Int.lt_irrefl, decide_false]
    refine cJ.then ?_ (by rfl)
    simp +contextual -implicitDefEqProofs (maxSteps := 2000000) (disch := omega) only [↓lenV, binV, ↓unV, ↓loadV, ↓boxV, GVal.cells, grp, GVal.ofConst, ↓resV, resG, List.map, List.headD, List.take, List.drop, ↓reduceIte, Nat.reduceEqDiff, Nat.reduceAdd, Nat.reduceSub, Nat.reduceLeDiff, reduceCtorEq, implies_true, ne_eq, aggV, Tag.cap, List.replicate, allSolid, GVal.solid, Nat.reduceBEq, Nat.reduceMul, Nat.reduceLT, List.length_map, List.length_range, splice, vcA, ↓vcB, vcC, fbFf, e5, dJ, dK, spl_length, Int.lt_irrefl, decide_false]
    refine cDn.then ?_
    simp +contextual -implicitDefEqProofs (maxSteps := 2000000) (disch := omega) only [↓lenV, binV, ↓unV, ↓loadV, ↓boxV, GVal.cells, grp, GVal.ofConst, ↓resV, resG, List.map, List.headD, List.take, List.drop, ↓reduceIte, Nat.reduceEqDiff, Nat.reduceAdd, Nat.reduceSub, Nat.reduceLeDiff, reduceCtorEq, implies_true, ne_eq, aggV, Tag.cap, List.replicate, allSolid, GVal.solid, Nat.reduceBEq, Nat.reduceMul, Nat.reduceLT, List.length_map, List.length_range, splice, vcA, ↓vcB, vcC, fbFf, e5, dJ, dK, spl_length, Int.lt_irrefl, decide_false]
    refine cK.then ?_ (by rfl)
    simp +contextual -implicitDefEqProofs (maxSteps := 2000000) (disch := omega) only [↓lenV, binV, ↓unV, ↓loadV, ↓boxV, GVal.cells, grp, GVal.ofConst, ↓resV, resG, List.map, List.headD, List.take, List.drop, ↓reduceIte, Nat.reduceEqDiff, Nat.reduceAdd, Nat.reduceSub, Nat.reduceLeDiff, reduceCtorEq, implies_true, ne_eq, aggV, Tag.cap, List.replicate, allSolid, GVal.solid, Nat.reduceBEq, Nat.reduceMul, Nat.reduceLT, List.length_map, List.length_range, splice, vcA, ↓vcB, vcC, fbFf, e5, dJ, dK, spl_length, Int.lt_irrefl, decide_false]
    refine (cB k7 (by omega)).mono ?_
    rintro g O' ⟨_, rfl, k8, rfl, rfl, p8, q8⟩
    simp +contextual -implicitDefEqProofs (maxSteps := 2000000) (disch := omega) only [↓lenV, binV, ↓unV, ↓loadV, ↓boxV, GVal.cells, grp, GVal.ofConst, ↓resV, resG, List.map, List.headD, List.take, List.drop, ↓reduceIte, Nat.reduceEqDiff, Nat.reduceAdd, Nat.reduceSub, Nat.reduceLeDiff, reduceCtorEq, implies_true, ne_eq, aggV, Tag.cap, List.replicate, allSolid, GVal.solid, Nat.reduceBEq, Nat.reduceMul, Nat.reduceLT, List.length_map, List.length_range, splice, vcA, ↓vcB, vcC, fbFf, e5, dJ, dK, spl_length, Int.lt_irrefl, decide_false]
    refine cBB.then ?_ (by rfl)
    simp +contextual -implicitDefEqProofs (maxSteps := 2000000) (disch := omega) only [↓lenV, binV, ↓unV, ↓loadV, ↓boxV, GVal.cells, grp, GVal.ofConst, ↓resV, resG, List.map, List.headD, List.take, List.drop, ↓reduceIte, Nat.reduceEqDiff, Nat.reduceAdd, Nat.reduceSub, Nat.reduceLeDiff, reduceCtorEq, implies_true, ne_eq, aggV, Tag.cap, List.replicate, allSolid, GVal.solid, Nat.reduceBEq, Nat.reduceMul, Nat.reduceLT, List.length_map, List.length_range, splice, vcA, ↓vcB, vcC, fbFf, e5, dJ, dK, spl_length, Int.lt_irrefl, decide_false]
    refine s4.then ?_ (by rfl)
    simp +contextual -implicitDefEqProofs (maxSteps := 2000000) (disch := omega) only [↓lenV, binV, ↓unV, ↓loadV, ↓boxV, GVal.cells, grp, GVal.ofConst, ↓resV, resG, List.map, List.headD, List.take, List.drop, ↓reduceIte, Nat.reduceEqDiff, Nat.reduceAdd, Nat.reduceSub, Nat.reduceLeDiff, reduceCtorEq, implies_true, ne_eq, aggV, Tag.cap, List.replicate, allSolid, GVal.solid, Nat.reduceBEq, Nat.reduceMul, Nat.reduceLT, List.length_map, List.length_range, splice, vcA, ↓vcB, vcC, fbFf, e5, dJ, dK, spl_length, Int.lt_irrefl, decide_false]
    exact frzB _
end Gv.Try
