/- Contracts: the document's answer on spans: join, Make, Right, Union; Has, Count of both. -/
import Derived.Test.YthidcccnjplafaaP11
import Derived.Test.YthidcccnjplafaaP10
import Derived.Test.YthidcccnjplafaaP9
import Derived.Test.YthidcccnjplafaaSlimFf
set_option linter.unusedVariables false
set_option linter.unusedSimpArgs false
set_option maxRecDepth 20000
set_option maxHeartbeats 4000000
namespace Gv.Try
open Go Gv Go.Proofs

theorem sJoin (l : List Sp.S) (t : Tag) (s : Sp.S) (hl : l.length ≤ 4398046511104) (ho : Sp.Ok l) (hr : Sp.Rt 0 l) (hs : 0 ≤ s.1 ∧ s.1 ≤ s.2 ∧ s.2 ≤ 9223372036854775807) : GPure Try.prog 70 [.slice (spl l) t, .agg (spG s)] (.slice (spl (Sp.ins l s)) .none) := by
  refine h70.pure mixS (by simp) ?_
  simp only [gstart, s70, List.cons_append, List.nil_append, List.length_cons, List.length_nil, Nat.reduceAdd, Nat.reduceSub, List.replicate_succ, List.replicate_zero]
  unfold spG
  simp +contextual -implicitDefEqProofs (maxSteps := 2000000) (disch := omega) only [↓lenV, binV, ↓unV, optV, ↓loadV, ↓storeV, ↓fieldAddrV, ↓indexAddrV, ↓allocV, ↓boxV, ↓buildV, ↓buildSliceV, ↓sliceV, ↓appendV, ↓srcV, ↓minV, bound, cutTag, hiTag, fillG, fillE, place, GVal.cells, grp, GVal.ofConst, ↓resV, resG, List.map, List.headD, List.take, List.drop, ↓reduceIte, Nat.reduceEqDiff, Nat.reduceAdd, Nat.reduceSub, Nat.reduceLeDiff, reduceCtorEq, implies_true, ne_eq, ↓asrcV, aggV, Tag.cap, List.replicate, allSolid, GVal.solid, Nat.reduceBEq, Nat.reduceMul, Nat.reduceLT, List.length_map, List.length_range, splice, vcA, ↓vcB, vcC, fbFf, e70, spl_length]
  intro st
  refine vcSLoop_by (ι := { p : Nat × Sp.S × Bool × List Sp.S × Nat // p.1 ≤ l.length ∧ p.2.2.2.1 ++ (if p.2.2.1 = true then l.drop p.1 else Sp.ins (l.drop p.1) p.2.1) = Sp.ins l s ∧ (0 ≤ p.2.1.1 ∧ p.2.1.1 ≤ p.2.1.2 ∧ p.2.1.2 ≤ 9223372036854775807) ∧ (p.2.2.1 = true → Sp.Rt (p.2.1.2 + 2) (l.drop p.1)) ∧ Sp.Rt 0 (l.drop p.1) ∧ p.2.2.2.1.length ≤ p.1 + p.2.2.1.toNat }) (fun p => ⟨[.slice (spl l) t, .any, .any, .ptr 0 st 0 0, .any, .slice (spl p.1.2.2.2.1) (.tok 1 p.1.2.2.2.2), .bool p.1.2.2.1, .int .i64 (p.1.1 : Nat)] ++ List.replicate 69 .any, [.row st 2 [[.int .i64 p.1.2.1.1, .int .i64 p.1.2.1.2]], .tok p.1.2.2.2.2 2]⟩) (fun p => l.length - p.1.1) ?_ ?_
  · refine Into.tok 5 2 [] rfl rfl ?_
    simp +contextual -implicitDefEqProofs (maxSteps := 2000000) (disch := omega) only [↓lenV, binV, ↓unV, optV, ↓loadV, ↓storeV, ↓fieldAddrV, ↓indexAddrV, ↓allocV, ↓boxV, ↓buildV, ↓buildSliceV, ↓sliceV, ↓appendV, ↓srcV, ↓minV, bound, cutTag, hiTag, fillG, fillE, place, GVal.cells, grp, GVal.ofConst, ↓resV, resG, List.map, List.headD, List.take, List.drop, ↓reduceIte, Nat.reduceEqDiff, Nat.reduceAdd, Nat.reduceSub, Nat.reduceLeDiff, reduceCtorEq, implies_true, ne_eq, ↓asrcV, aggV, Tag.cap, List.replicate, allSolid, GVal.solid, Nat.reduceBEq, Nat.reduceMul, Nat.reduceLT, List.length_map, List.length_range, splice, vcA, ↓vcB, vcC, fbFf, e70]
    intro t0
    exact Into.first ⟨(0, s, false, [], t0), by omega, by simp, hs, by simp, hr, by simp⟩ ⟨[], by simp⟩ (by simp [WL, leG_self, leG_any, spl_nil])
  · rintro ⟨⟨k, s', done, out, v⟩, hk, he, hs', hd, hrt, hol⟩
    simp only [] at hk he hs' hd hrt hol
    by_cases h : k < l.length
    · have d0 : ((k : Int) < (l.length : Int)) = True := eq_true (by omega)
      have eS := spl_at l k h
      have hx := ho.at k
      rw [drop_getD h] at he hd hrt
      generalize l.getD k (0, 0) = x at *
      obtain ⟨r1, r2, r3⟩ := hrt
      cases done with
      | true =>
        have hd' := (hd rfl).1
        have hd2 := (hd rfl).2.2
        have dA : (x.2 < s'.1 - 1) = False := eq_false (by omega)
        have dA2 : (x.2 < s'.1) = False := eq_false (by omega)
        have dB : (s'.2 < x.1 - 1) = True := eq_true (by omega)
        rw [if_pos rfl] at he
        simp +contextual -implicitDefEqProofs (maxSteps := 2000000) (disch := omega) only [↓lenV, binV, ↓unV, optV, ↓loadV, ↓storeV, ↓fieldAddrV, ↓indexAddrV, ↓allocV, ↓boxV, ↓buildV, ↓buildSliceV, ↓sliceV, ↓appendV, ↓srcV, ↓minV, bound, cutTag, hiTag, fillG, fillE, place, GVal.cells, grp, GVal.ofConst, ↓resV, resG, List.map, List.headD, List.take, List.drop, ↓reduceIte, Nat.reduceEqDiff, Nat.reduceAdd, Nat.reduceSub, Nat.reduceLeDiff, reduceCtorEq, implies_true, ne_eq, ↓asrcV, aggV, Tag.cap, List.replicate, allSolid, GVal.solid, Nat.reduceBEq, Nat.reduceMul, Nat.reduceLT, List.length_map, List.length_range, splice, vcA, ↓vcB, vcC, fbFf, e70, spl_length, d0, eS, spG, all_spl, dA, dA2, dB, false_imp_iff, true_and, true_imp_iff, and_true]
        refine ⟨by omega, fun st_1 => ⟨by simp at hol; omega, by simp at hol; omega, fun st_2 => ?_⟩⟩
        refine Into.at ⟨(k + 1, s', true, out ++ [x], st_2), by show k + 1 ≤ _; omega, by rw [if_pos rfl, ← he]; simp, hs', fun _ => hd2.weak (by show s'.2 + 2 ≤ _; omega), r3.weak (by omega), by simp at *; omega⟩ (by show _ < _; simp; omega) ⟨[.row st_1 2 [[.int .i64 x.1, .int .i64 x.2]]], by simp⟩ ?_
        simp [WL, leG_self, leG_any, spl_append, spl_cons, spl_nil, spG]
      | false =>
        rw [if_neg (by simp)] at he
        rw [Sp.ins_cons] at he
        by_cases cA : x.2 < s'.1 - 1
        · have dA : (x.2 < s'.1 - 1) = True := eq_true (by omega)
          rw [if_pos (by omega)] at he
          simp +contextual -implicitDefEqProofs (maxSteps := 2000000) (disch := omega) only [↓lenV, binV, ↓unV, optV, ↓loadV, ↓storeV, ↓fieldAddrV, ↓indexAddrV, ↓allocV, ↓boxV, ↓buildV, ↓buildSliceV, ↓sliceV, ↓appendV, ↓srcV, ↓minV, bound, cutTag, hiTag, fillG, fillE, place, GVal.cells, grp, GVal.ofConst, ↓resV, resG, List.map, List.headD, List.take, List.drop, ↓reduceIte, Nat.reduceEqDiff, Nat.reduceAdd, Nat.reduceSub, Nat.reduceLeDiff, reduceCtorEq, implies_true, ne_eq, ↓asrcV, aggV, Tag.cap, List.replicate, allSolid, GVal.solid, Nat.reduceBEq, Nat.reduceMul, Nat.reduceLT, List.length_map, List.length_range, splice, vcA, ↓vcB, vcC, fbFf, e70, spl_length, d0, eS, spG, all_spl, dA, false_imp_iff, true_and, true_imp_iff, and_true]
          refine ⟨by omega, fun st_1 => ⟨by simp at hol; omega, by simp at hol; omega, fun st_2 => ?_⟩⟩
          refine Into.at ⟨(k + 1, s', false, out ++ [x], st_2), by show k + 1 ≤ _; omega, by rw [if_neg (by simp), ← he]; simp, hs', by simp, r3.weak (by omega), by simp at *; omega⟩ (by show _ < _; simp; omega) ⟨[.row st_1 2 [[.int .i64 x.1, .int .i64 x.2]]], by simp⟩ ?_
          simp [WL, leG_self, leG_any, spl_append, spl_cons, spl_nil, spG]
        · have dA : (x.2 < s'.1 - 1) = False := eq_false (by omega)
          rw [if_neg (by omega)] at he
          have dd : (x.2 < s'.1) = False ∨ ((x.2 < s'.1) = True ∧ (s'.1 = 0) = False) := by
            by_cases c : x.2 < s'.1
            · exact .inr ⟨eq_true c, eq_false (by omega)⟩
            · exact .inl (eq_false c)
          by_cases cB : s'.2 < x.1 - 1
          · have dB : (s'.2 < x.1 - 1) = True := eq_true (by omega)
            rw [if_pos (by omega)] at he
            rcases dd with dA2 | ⟨dA2, dZ⟩
            · simp +contextual -implicitDefEqProofs (maxSteps := 2000000) (disch := omega) only [↓lenV, binV, ↓unV, optV, ↓loadV, ↓storeV, ↓fieldAddrV, ↓indexAddrV, ↓allocV, ↓boxV, ↓buildV, ↓buildSliceV, ↓sliceV, ↓appendV, ↓srcV, ↓minV, bound, cutTag, hiTag, fillG, fillE, place, GVal.cells, grp, GVal.ofConst, ↓resV, resG, List.map, List.headD, List.take, List.drop, ↓reduceIte, Nat.reduceEqDiff, Nat.reduceAdd, Nat.reduceSub, Nat.reduceLeDiff, reduceCtorEq, implies_true, ne_eq, ↓asrcV, aggV, Tag.cap, List.replicate, allSolid, GVal.solid, Nat.reduceBEq, Nat.reduceMul, Nat.reduceLT, List.length_map, List.length_range, splice, vcA, ↓vcB, vcC, fbFf, e70, spl_length, d0, eS, spG, all_spl, dA, dA2, dB, false_imp_iff, true_and, true_imp_iff, and_true, List.length_append]
              refine ⟨by omega, fun st_1 => ⟨by simp at hol; omega, by simp at hol; omega, fun st_2 => ⟨by simp at hol; omega, by simp at hol; omega, fun st_3 => ?_⟩⟩⟩
              refine Into.at ⟨(k + 1, s', true, out ++ [s'] ++ [x], st_3), by show k + 1 ≤ _; omega, by rw [if_pos rfl, ← he]; simp, hs', fun _ => r3.weak (by show s'.2 + 2 ≤ _; omega), r3.weak (by omega), by simp at *; omega⟩ (by show _ < _; simp; omega) ⟨[.row st_1 2 [[.int .i64 x.1, .int .i64 x.2]]], by simp⟩ ?_
              simp [WL, leG_self, leG_any, spl_append, spl_cons, spl_nil, spG]
            · simp +contextual -implicitDefEqProofs (maxSteps := 2000000) (disch := omega) only [↓lenV, binV, ↓unV, optV, ↓loadV, ↓storeV, ↓fieldAddrV, ↓indexAddrV, ↓allocV, ↓boxV, ↓buildV, ↓buildSliceV, ↓sliceV, ↓appendV, ↓srcV, ↓minV, bound, cutTag, hiTag, fillG, fillE, place, GVal.cells, grp, GVal.ofConst, ↓resV, resG, List.map, List.headD, List.take, List.drop, ↓reduceIte, Nat.reduceEqDiff, Nat.reduceAdd, Nat.reduceSub, Nat.reduceLeDiff, reduceCtorEq, implies_true, ne_eq, ↓asrcV, aggV, Tag.cap, List.replicate, allSolid, GVal.solid, Nat.reduceBEq, Nat.reduceMul, Nat.reduceLT, List.length_map, List.length_range, splice, vcA, ↓vcB, vcC, fbFf, e70, spl_length, d0, eS, spG, all_spl, dA, dA2, dZ, dB, false_imp_iff, true_and, true_imp_iff, and_true, List.length_append]
              refine ⟨by omega, fun st_1 => ⟨by simp at hol; omega, by simp at hol; omega, fun st_2 => ⟨by simp at hol; omega, by simp at hol; omega, fun st_3 => ?_⟩⟩⟩
              refine Into.at ⟨(k + 1, s', true, out ++ [s'] ++ [x], st_3), by show k + 1 ≤ _; omega, by rw [if_pos rfl, ← he]; simp, hs', fun _ => r3.weak (by show s'.2 + 2 ≤ _; omega), r3.weak (by omega), by simp at *; omega⟩ (by show _ < _; simp; omega) ⟨[.row st_1 2 [[.int .i64 x.1, .int .i64 x.2]]], by simp⟩ ?_
              simp [WL, leG_self, leG_any, spl_append, spl_cons, spl_nil, spG]
          · have dB : (s'.2 < x.1 - 1) = False := eq_false (by omega)
            rw [if_neg (by omega)] at he
            rcases dd with dA2 | ⟨dA2, dZ⟩
            · simp +contextual -implicitDefEqProofs (maxSteps := 2000000) (disch := omega) only [↓lenV, binV, ↓unV, optV, ↓loadV, ↓storeV, ↓fieldAddrV, ↓indexAddrV, ↓allocV, ↓boxV, ↓buildV, ↓buildSliceV, ↓sliceV, ↓appendV, ↓srcV, ↓minV, bound, cutTag, hiTag, fillG, fillE, place, GVal.cells, grp, GVal.ofConst, ↓resV, resG, List.map, List.headD, List.take, List.drop, ↓reduceIte, Nat.reduceEqDiff, Nat.reduceAdd, Nat.reduceSub, Nat.reduceLeDiff, reduceCtorEq, implies_true, ne_eq, ↓asrcV, aggV, Tag.cap, List.replicate, allSolid, GVal.solid, Nat.reduceBEq, Nat.reduceMul, Nat.reduceLT, List.length_map, List.length_range, splice, vcA, ↓vcB, vcC, fbFf, e70, spl_length, d0, eS, spG, all_spl, dA, dA2, dB, false_imp_iff, true_and, true_imp_iff, and_true]
              refine ⟨by omega, fun st_1 => ?_⟩
              refine Into.at ⟨(k + 1, (min s'.1 x.1, max s'.2 x.2), false, out, v), by show k + 1 ≤ _; omega, by rw [if_neg (by simp), ← he], by show 0 ≤ min _ _ ∧ min _ _ ≤ max _ _ ∧ max _ _ ≤ _; omega, by simp, r3.weak (by omega), by simp at *; omega⟩ (by show _ < _; simp; omega) ⟨[.row st_1 2 [[.int .i64 x.1, .int .i64 x.2]]], by simp⟩ ?_
              simp [WL, leG_self, leG_any, spl_append, spl_cons, spl_nil, spG]
            · simp +contextual -implicitDefEqProofs (maxSteps := 2000000) (disch := omega) only [↓lenV, binV, ↓unV, optV, ↓loadV, ↓storeV, ↓fieldAddrV, ↓indexAddrV, ↓allocV, ↓boxV, ↓buildV, ↓buildSliceV, ↓sliceV, ↓appendV, ↓srcV, ↓minV, bound, cutTag, hiTag, fillG, fillE, place, GVal.cells, grp, GVal.ofConst, ↓resV, resG, List.map, List.headD, List.take, List.drop, ↓reduceIte, Nat.reduceEqDiff, Nat.reduceAdd, Nat.reduceSub, Nat.reduceLeDiff, reduceCtorEq, implies_true, ne_eq, ↓asrcV, aggV, Tag.cap, List.replicate, allSolid, GVal.solid, Nat.reduceBEq, Nat.reduceMul, Nat.reduceLT, List.length_map, List.length_range, splice, vcA, ↓vcB, vcC, fbFf, e70, spl_length, d0, eS, spG, all_spl, dA, dA2, dZ, dB, false_imp_iff, true_and, true_imp_iff, and_true]
              refine ⟨by omega, fun st_1 => ?_⟩
              refine Into.at ⟨(k + 1, (min s'.1 x.1, max s'.2 x.2), false, out, v), by show k + 1 ≤ _; omega, by rw [if_neg (by simp), ← he], by show 0 ≤ min _ _ ∧ min _ _ ≤ max _ _ ∧ max _ _ ≤ _; omega, by simp, r3.weak (by omega), by simp at *; omega⟩ (by show _ < _; simp; omega) ⟨[.row st_1 2 [[.int .i64 x.1, .int .i64 x.2]]], by simp⟩ ?_
              simp [WL, leG_self, leG_any, spl_append, spl_cons, spl_nil, spG]
    · have d0 : ((k : Int) < (l.length : Int)) = False := eq_false (by omega)
      rw [List.drop_of_length_le (by omega)] at he
      cases done with
      | true =>
        simp +contextual -implicitDefEqProofs (maxSteps := 2000000) (disch := omega) only [↓lenV, binV, ↓unV, optV, ↓loadV, ↓storeV, ↓fieldAddrV, ↓indexAddrV, ↓allocV, ↓boxV, ↓buildV, ↓buildSliceV, ↓sliceV, ↓appendV, ↓srcV, ↓minV, bound, cutTag, hiTag, fillG, fillE, place, GVal.cells, grp, GVal.ofConst, ↓resV, resG, List.map, List.headD, List.take, List.drop, ↓reduceIte, Nat.reduceEqDiff, Nat.reduceAdd, Nat.reduceSub, Nat.reduceLeDiff, reduceCtorEq, implies_true, ne_eq, ↓asrcV, aggV, Tag.cap, List.replicate, allSolid, GVal.solid, Nat.reduceBEq, Nat.reduceMul, Nat.reduceLT, List.length_map, List.length_range, splice, vcA, ↓vcB, vcC, fbFf, e70, spl_length, d0, all_spl, false_imp_iff, true_and]
        rw [if_pos rfl, List.append_nil] at he
        rw [he]
      | false =>
        simp +contextual -implicitDefEqProofs (maxSteps := 2000000) (disch := omega) only [↓lenV, binV, ↓unV, optV, ↓loadV, ↓storeV, ↓fieldAddrV, ↓indexAddrV, ↓allocV, ↓boxV, ↓buildV, ↓buildSliceV, ↓sliceV, ↓appendV, ↓srcV, ↓minV, bound, cutTag, hiTag, fillG, fillE, place, GVal.cells, grp, GVal.ofConst, ↓resV, resG, List.map, List.headD, List.take, List.drop, ↓reduceIte, Nat.reduceEqDiff, Nat.reduceAdd, Nat.reduceSub, Nat.reduceLeDiff, reduceCtorEq, implies_true, ne_eq, ↓asrcV, aggV, Tag.cap, List.replicate, allSolid, GVal.solid, Nat.reduceBEq, Nat.reduceMul, Nat.reduceLT, List.length_map, List.length_range, splice, vcA, ↓vcB, vcC, fbFf, e70, spl_length, d0, all_spl, false_imp_iff, true_and]
        rw [if_neg (by simp)] at he
        exact ⟨by simp at hol; omega, by simp at hol; omega, fun _ => by rw [← he, spl_append]; rfl⟩

theorem sHas1 (s : Sp.S) (n : Int) : GPure Try.prog 74 [.agg (spG s), .ref [.int .i64 n]] (.bool (decide (s.1 ≤ n) && decide (n ≤ s.2))) := by
  refine h74.pure mixS (by simp) ?_
  simp only [gstart, s74, List.cons_append, List.nil_append, List.length_cons, List.length_nil, Nat.reduceAdd, Nat.reduceSub, List.replicate_succ, List.replicate_zero]
  unfold spG
  simp +contextual -implicitDefEqProofs (maxSteps := 2000000) (disch := omega) only [binV, ↓loadV, ↓fieldAddrV, ↓boxV, GVal.cells, grp, GVal.ofConst, ↓resV, resG, List.map, List.headD, List.take, List.drop, ↓reduceIte, Nat.reduceEqDiff, Nat.reduceAdd, Nat.reduceSub, Nat.reduceLeDiff, reduceCtorEq, implies_true, ne_eq, Tag.cap, List.replicate, allSolid, GVal.solid, Nat.reduceBEq, Nat.reduceMul, Nat.reduceLT, List.length_map, List.length_range, splice, vcA, ↓vcB, vcC, fbFf, e74]
  exact ⟨fun h => by simp [h], fun h => by simp; omega⟩

def inB (s : Sp.S) (n : Int) : Bool := decide (s.1 ≤ n) && decide (n ≤ s.2)
def idxB : List Sp.S → Int → Int → Int
  | [], _, _ => -1
  | s :: r, n, i => if inB s n = true then i else idxB r n (i + 1)
theorem idxB_cons (s : Sp.S) (r : List Sp.S) (n i : Int) : idxB (s :: r) n i = if inB s n = true then i else idxB r n (i + 1) := rfl
theorem idxB_ge : ∀ (l : List Sp.S) (n i : Int), 0 ≤ i → decide (0 ≤ idxB l n i) = l.any fun s => inB s n
  | [], n, i, h => by simp [idxB]
  | s :: r, n, i, h => by
    unfold idxB
    by_cases e : inB s n = true
    · simp [e, h]
    · rw [if_neg e, idxB_ge r n (i + 1) (by omega)]; simp [e]
theorem any_hasB {N : List Sp.S} (h : Sp.Rt 0 N) (n : Int) : (N.any fun s => inB s n) = Sp.hasB N n := by
  rw [Bool.eq_iff_iff, Sp.hasB_iff, List.any_eq_true]
  constructor
  · rintro ⟨s, hs, h1⟩
    simp only [inB, Bool.and_eq_true, decide_eq_true_eq] at h1
    have := h.mem hs
    exact ⟨s, hs, by omega, h1.1, h1.2⟩
  · rintro ⟨s, hs, h0, h1, h2⟩
    exact ⟨s, hs, by simp [inB, h1, h2]⟩

theorem sIndexF (l : List Sp.S) (t : Tag) (n : Int) (hl : l.length ≤ 4398046511104) : GPure Try.prog 90 [.slice (spl l) t, .func (.func 74) [] [.ref [.int .i64 n]]] (.int .i64 (idxB l n 0)) := by
  refine h90.pure mixS (by simp) ?_
  simp only [gstart, s90, List.cons_append, List.nil_append, List.length_cons, List.length_nil, Nat.reduceAdd, Nat.reduceSub, List.replicate_succ, List.replicate_zero]
  simp +contextual -implicitDefEqProofs (maxSteps := 2000000) (disch := omega) only [↓lenV, binV, ↓loadV, ↓indexAddrV, GVal.cells, grp, GVal.ofConst, ↓resV, resG, List.map, List.headD, List.take, List.drop, ↓reduceIte, Nat.reduceEqDiff, Nat.reduceAdd, Nat.reduceSub, Nat.reduceLeDiff, reduceCtorEq, implies_true, ne_eq, Tag.cap, List.replicate, allSolid, GVal.solid, Nat.reduceBEq, Nat.reduceMul, Nat.reduceLT, List.length_map, List.length_range, splice, vcA, ↓vcB, vcC, fbFf, e90, spl_length]
  refine vcSLoop_by (ι := { k : Nat // k ≤ l.length ∧ idxB (l.drop k) n k = idxB l n 0 }) (fun k => ⟨[.slice (spl l) t, .func (.func 74) [] [.ref [.int .i64 n]], .any, .any, .any, .any, .slice (spl l) t, .int .i64 l.length, .int .i64 (k.1 : Nat)] ++ List.replicate 10 .any, []⟩) (fun k => l.length - k.1) ?_ ?_
  · exact Into.first ⟨0, by omega, by simp⟩ ⟨[], by simp⟩ (by simp [WL, leG_self, leG_any, leG_int])
  · rintro ⟨k, hk, he⟩
    by_cases h : k < l.length
    · have d0 : ((k : Int) < (l.length : Int)) = True := eq_true (by omega)
      have eS := spl_at l k h
      rw [drop_getD h] at he
      generalize l.getD k (0, 0) = x at *
      simp +contextual -implicitDefEqProofs (maxSteps := 2000000) (disch := omega) only [↓lenV, binV, ↓loadV, ↓indexAddrV, GVal.cells, grp, GVal.ofConst, ↓resV, resG, List.map, List.headD, List.take, List.drop, ↓reduceIte, Nat.reduceEqDiff, Nat.reduceAdd, Nat.reduceSub, Nat.reduceLeDiff, reduceCtorEq, implies_true, ne_eq, Tag.cap, List.replicate, allSolid, GVal.solid, Nat.reduceBEq, Nat.reduceMul, Nat.reduceLT, List.length_map, List.length_range, splice, vcA, ↓vcB, vcC, fbFf, e90, spl_length, d0, eS, spG, all_spl]
      refine ⟨by omega, ?_⟩
      refine (sHas1 x n).then ?_ (by rfl)
      have e1 : (decide (x.1 ≤ n) && decide (n ≤ x.2)) = inB x n := rfl
      rw [e1]
      rw [idxB_cons] at he
      cases e : inB x n with
      | true =>
        rw [if_pos e] at he
        simp +contextual -implicitDefEqProofs (maxSteps := 2000000) (disch := omega) only [↓lenV, binV, ↓loadV, ↓indexAddrV, GVal.cells, grp, GVal.ofConst, ↓resV, resG, List.map, List.headD, List.take, List.drop, ↓reduceIte, Nat.reduceEqDiff, Nat.reduceAdd, Nat.reduceSub, Nat.reduceLeDiff, reduceCtorEq, implies_true, ne_eq, Tag.cap, List.replicate, allSolid, GVal.solid, Nat.reduceBEq, Nat.reduceMul, Nat.reduceLT, List.length_map, List.length_range, splice, vcA, ↓vcB, vcC, fbFf, e90, spl_length, d0, eS, spG, all_spl]
        rw [he]
      | false =>
        rw [if_neg (by rw [e]; simp)] at he
        simp +contextual -implicitDefEqProofs (maxSteps := 2000000) (disch := omega) only [↓lenV, binV, ↓loadV, ↓indexAddrV, GVal.cells, grp, GVal.ofConst, ↓resV, resG, List.map, List.headD, List.take, List.drop, ↓reduceIte, Nat.reduceEqDiff, Nat.reduceAdd, Nat.reduceSub, Nat.reduceLeDiff, reduceCtorEq, implies_true, ne_eq, Tag.cap, List.replicate, allSolid, GVal.solid, Nat.reduceBEq, Nat.reduceMul, Nat.reduceLT, List.length_map, List.length_range, splice, vcA, ↓vcB, vcC, fbFf, e90, spl_length, d0, eS, spG, all_spl]
        exact Into.at ⟨k + 1, by omega, by rw [← he]; simp⟩ (by show _ < _; simp; omega) ⟨[], by simp⟩ (by simp [WL, leG_self, leG_any, leG_int])
    · have d0 : ((k : Int) < (l.length : Int)) = False := eq_false (by omega)
      rw [List.drop_of_length_le (by omega)] at he
      simp +contextual -implicitDefEqProofs (maxSteps := 2000000) (disch := omega) only [↓lenV, binV, ↓loadV, ↓indexAddrV, GVal.cells, grp, GVal.ofConst, ↓resV, resG, List.map, List.headD, List.take, List.drop, ↓reduceIte, Nat.reduceEqDiff, Nat.reduceAdd, Nat.reduceSub, Nat.reduceLeDiff, reduceCtorEq, implies_true, ne_eq, Tag.cap, List.replicate, allSolid, GVal.solid, Nat.reduceBEq, Nat.reduceMul, Nat.reduceLT, List.length_map, List.length_range, splice, vcA, ↓vcB, vcC, fbFf, e90, spl_length, d0, all_spl, false_imp_iff, true_and]
      rw [← he]; rfl

theorem sContF (l : List Sp.S) (t : Tag) (n : Int) (hl : l.length ≤ 4398046511104) : GPure Try.prog 73 [.slice (spl l) t, .func (.func 74) [] [.ref [.int .i64 n]]] (.bool (l.any fun s => inB s n)) := by
  refine h73.pure mixS (by simp) ?_
  simp only [gstart, s73, List.cons_append, List.nil_append, List.length_cons, List.length_nil, Nat.reduceAdd, Nat.reduceSub, List.replicate_succ, List.replicate_zero]
  simp +contextual -implicitDefEqProofs (maxSteps := 2000000) (disch := omega) only [binV, GVal.cells, grp, GVal.ofConst, ↓resV, resG, List.map, List.headD, List.take, List.drop, ↓reduceIte, Nat.reduceEqDiff, Nat.reduceAdd, Nat.reduceSub, Nat.reduceLeDiff, reduceCtorEq, implies_true, ne_eq, Tag.cap, List.replicate, allSolid, GVal.solid, Nat.reduceBEq, Nat.reduceMul, Nat.reduceLT, List.length_map, List.length_range, splice, vcA, ↓vcB, vcC, fbFf, e73]
  refine (sIndexF l t n hl).then ?_ (by rfl)
  simp +contextual -implicitDefEqProofs (maxSteps := 2000000) (disch := omega) only [binV, GVal.cells, grp, GVal.ofConst, ↓resV, resG, List.map, List.headD, List.take, List.drop, ↓reduceIte, Nat.reduceEqDiff, Nat.reduceAdd, Nat.reduceSub, Nat.reduceLeDiff, reduceCtorEq, implies_true, ne_eq, Tag.cap, List.replicate, allSolid, GVal.solid, Nat.reduceBEq, Nat.reduceMul, Nat.reduceLT, List.length_map, List.length_range, splice, vcA, ↓vcB, vcC, fbFf, e73]
  rw [idxB_ge l n 0 (by omega)]

theorem sHas (l : List Sp.S) (t : Tag) (n : Int) (hl : l.length ≤ 4398046511104) (ho : Sp.Ok l) : GPure Try.prog 56 [.slice (spl l) t, .int .i64 n] (.bool (Sp.hasB l n)) := by
  have hN := Sp.nf_len l
  refine h56.pure mixS (by simp) ?_
  simp only [gstart, s56, List.cons_append, List.nil_append, List.length_cons, List.length_nil, Nat.reduceAdd, Nat.reduceSub, List.replicate_succ, List.replicate_zero]
  simp +contextual -implicitDefEqProofs (maxSteps := 2000000) (disch := omega) only [↓boxV, GVal.cells, grp, GVal.ofConst, ↓resV, resG, List.map, List.headD, List.take, List.drop, ↓reduceIte, Nat.reduceEqDiff, Nat.reduceAdd, Nat.reduceSub, Nat.reduceLeDiff, reduceCtorEq, implies_true, ne_eq, Tag.cap, List.replicate, allSolid, GVal.solid, Nat.reduceBEq, Nat.reduceMul, Nat.reduceLT, List.length_map, List.length_range, splice, vcA, ↓vcB, vcC, fbFf, e56]
  refine (sMake l t hl ho).then ?_ (by rfl)
  simp +contextual -implicitDefEqProofs (maxSteps := 2000000) (disch := omega) only [↓boxV, GVal.cells, grp, GVal.ofConst, ↓resV, resG, List.map, List.headD, List.take, List.drop, ↓reduceIte, Nat.reduceEqDiff, Nat.reduceAdd, Nat.reduceSub, Nat.reduceLeDiff, reduceCtorEq, implies_true, ne_eq, Tag.cap, List.replicate, allSolid, GVal.solid, Nat.reduceBEq, Nat.reduceMul, Nat.reduceLT, List.length_map, List.length_range, splice, vcA, ↓vcB, vcC, fbFf, e56]
  refine (sContF (Sp.nf l) .none n (by omega)).then ?_ (by rfl)
  simp +contextual -implicitDefEqProofs (maxSteps := 2000000) (disch := omega) only [↓boxV, GVal.cells, grp, GVal.ofConst, ↓resV, resG, List.map, List.headD, List.take, List.drop, ↓reduceIte, Nat.reduceEqDiff, Nat.reduceAdd, Nat.reduceSub, Nat.reduceLeDiff, reduceCtorEq, implies_true, ne_eq, Tag.cap, List.replicate, allSolid, GVal.solid, Nat.reduceBEq, Nat.reduceMul, Nat.reduceLT, List.length_map, List.length_range, splice, vcA, ↓vcB, vcC, fbFf, e56]
  rw [any_hasB (Sp.nf_rt l), Sp.hasB_eq (Sp.nf_has l n)]

theorem sMakeR (l : List Sp.S) (t : Tag) (hl : l.length ≤ 4398046511104) (ho : Sp.Ok l) : GPure Try.prog 50 [.slice (spl l) t] (.slice (spl (Sp.nf l)) .none) := by
  refine h50.pure mixS (by simp) ?_
  simp only [gstart, s50, List.cons_append, List.nil_append, List.length_cons, List.length_nil, Nat.reduceAdd, Nat.reduceSub, List.replicate_succ, List.replicate_zero]
  simp +contextual -implicitDefEqProofs (maxSteps := 2000000) (disch := omega) only [drawC, ↓lenV, binV, optV, ↓loadV, ↓storeV, ↓fieldAddrV, ↓indexAddrV, ↓allocV, ↓buildV, ↓sliceV, ↓minV, bound, cutTag, hiTag, fillG, place, GVal.cells, grp, GVal.ofConst, ↓resV, resG, List.map, List.headD, List.take, List.drop, ↓reduceIte, Nat.reduceEqDiff, Nat.reduceAdd, Nat.reduceSub, Nat.reduceLeDiff, reduceCtorEq, implies_true, ne_eq, Tag.cap, List.replicate, allSolid, GVal.solid, Nat.reduceBEq, Nat.reduceMul, Nat.reduceLT, List.length_map, List.length_range, splice, vcA, ↓vcB, vcC, fbFf, e50, spl_length]
  refine vcSLoop_by (ι := { p : Nat × List Sp.S // p.1 ≤ l.length ∧ Sp.nfA p.2 (l.drop p.1) = Sp.nf l ∧ Sp.Rt 0 p.2 ∧ Sp.Ok p.2 ∧ p.2.length ≤ p.1 }) (fun p => ⟨[.slice (spl l) t, .any, .any, .slice (spl p.1.2) .none, .int .i64 (p.1.1 : Nat)] ++ List.replicate 28 .any, []⟩) (fun p => l.length - p.1.1) ?_ ?_
  · exact Into.first ⟨(0, []), by omega, by simp [Sp.nf], trivial, Sp.Ok.nil, by simp⟩ ⟨[], by simp⟩ (by simp [WL, leG_self, leG_any, leG_int, leG_none, spl_nil])
  · rintro ⟨⟨k, acc⟩, hk, he, hr, hok, hal⟩
    simp only [] at hk he hr hok hal
    by_cases h : k < l.length
    · have d0 : ((k : Int) < (l.length : Int)) = True := eq_true (by omega)
      have eS := spl_at l k h
      have hx := ho.at k
      rw [drop_getD h] at he
      generalize l.getD k (0, 0) = x at *
      have hpl : (Sp.put acc x).length ≤ acc.length + 1 := by
        unfold Sp.put; split
        · exact Sp.ins_len _ _
        · omega
      have hpr := Sp.put_rt x hr
      have hpo : Sp.Ok (Sp.put acc x) := Sp.ok_of hpr (by omega) fun n hn => by
        rcases (Sp.put_has x hr n).1 hn with h' | h'
        · exact hok.has h'
        · omega
      change Sp.nfA (Sp.put acc x) (l.drop (k + 1)) = _ at he
      by_cases c : max 0 x.1 ≤ x.2
      · have d1 : (x.2 < max 0 x.1) = False := eq_false (by omega)
        have ep : Sp.put acc x = Sp.ins acc (max 0 x.1, x.2) := by unfold Sp.put; rw [if_pos (by omega), Int.max_comm]
        simp +contextual -implicitDefEqProofs (maxSteps := 2000000) (disch := omega) only [drawC, ↓lenV, binV, optV, ↓loadV, ↓storeV, ↓fieldAddrV, ↓indexAddrV, ↓allocV, ↓buildV, ↓sliceV, ↓minV, bound, cutTag, hiTag, fillG, place, GVal.cells, grp, GVal.ofConst, ↓resV, resG, List.map, List.headD, List.take, List.drop, ↓reduceIte, Nat.reduceEqDiff, Nat.reduceAdd, Nat.reduceSub, Nat.reduceLeDiff, reduceCtorEq, implies_true, ne_eq, Tag.cap, List.replicate, allSolid, GVal.solid, Nat.reduceBEq, Nat.reduceMul, Nat.reduceLT, List.length_map, List.length_range, splice, vcA, ↓vcB, vcC, fbFf, e50, spl_length, d0, d1, eS, spG, all_spl, false_imp_iff, true_and, true_imp_iff, and_true]
        refine ⟨by omega, by omega, fun st => ⟨⟨_, rfl⟩, ?_⟩⟩
        refine (sJoin acc .none (max 0 x.1, x.2) (by omega) hok hr ⟨by show 0 ≤ max _ _; omega, c, hx.2.2⟩).then ?_ (by rfl)
        rw [← ep]
        simp +contextual -implicitDefEqProofs (maxSteps := 2000000) (disch := omega) only [drawC, ↓lenV, binV, optV, ↓loadV, ↓storeV, ↓fieldAddrV, ↓indexAddrV, ↓allocV, ↓buildV, ↓sliceV, ↓minV, bound, cutTag, hiTag, fillG, place, GVal.cells, grp, GVal.ofConst, ↓resV, resG, List.map, List.headD, List.take, List.drop, ↓reduceIte, Nat.reduceEqDiff, Nat.reduceAdd, Nat.reduceSub, Nat.reduceLeDiff, reduceCtorEq, implies_true, ne_eq, Tag.cap, List.replicate, allSolid, GVal.solid, Nat.reduceBEq, Nat.reduceMul, Nat.reduceLT, List.length_map, List.length_range, splice, vcA, ↓vcB, vcC, fbFf, e50, spl_length, d0, eS, spG, all_spl]
        exact Into.at ⟨(k + 1, Sp.put acc x), by show k + 1 ≤ _; omega, he, hpr, hpo, by show (Sp.put acc x).length ≤ k + 1; omega⟩ (by show _ < _; simp; omega) ⟨[.row st 2 [[.int .i64 (max 0 x.1), .int .i64 x.2]]], by simp⟩ (by simp [WL, leG_self, leG_any, leG_int])
      · have d1 : (x.2 < max 0 x.1) = True := eq_true (by omega)
        have ep : Sp.put acc x = acc := by unfold Sp.put; rw [if_neg (by omega)]
        rw [ep] at he
        simp +contextual -implicitDefEqProofs (maxSteps := 2000000) (disch := omega) only [drawC, ↓lenV, binV, optV, ↓loadV, ↓storeV, ↓fieldAddrV, ↓indexAddrV, ↓allocV, ↓buildV, ↓sliceV, ↓minV, bound, cutTag, hiTag, fillG, place, GVal.cells, grp, GVal.ofConst, ↓resV, resG, List.map, List.headD, List.take, List.drop, ↓reduceIte, Nat.reduceEqDiff, Nat.reduceAdd, Nat.reduceSub, Nat.reduceLeDiff, reduceCtorEq, implies_true, ne_eq, Tag.cap, List.replicate, allSolid, GVal.solid, Nat.reduceBEq, Nat.reduceMul, Nat.reduceLT, List.length_map, List.length_range, splice, vcA, ↓vcB, vcC, fbFf, e50, spl_length, d0, d1, eS, spG, all_spl, false_imp_iff, true_and, true_imp_iff, and_true]
        refine ⟨by omega, by omega, fun st => ⟨⟨_, rfl⟩, ?_⟩⟩
        exact Into.at ⟨(k + 1, acc), by show k + 1 ≤ _; omega, he, hr, hok, by show acc.length ≤ k + 1; omega⟩ (by show _ < _; simp; omega) ⟨[.row st 2 [[.int .i64 (max 0 x.1), .int .i64 x.2]]], by simp⟩ (by simp [WL, leG_self, leG_any, leG_int])
    · have d0 : ((k : Int) < (l.length : Int)) = False := eq_false (by omega)
      rw [List.drop_of_length_le (by omega)] at he
      simp +contextual -implicitDefEqProofs (maxSteps := 2000000) (disch := omega) only [drawC, ↓lenV, binV, optV, ↓loadV, ↓storeV, ↓fieldAddrV, ↓indexAddrV, ↓allocV, ↓buildV, ↓sliceV, ↓minV, bound, cutTag, hiTag, fillG, place, GVal.cells, grp, GVal.ofConst, ↓resV, resG, List.map, List.headD, List.take, List.drop, ↓reduceIte, Nat.reduceEqDiff, Nat.reduceAdd, Nat.reduceSub, Nat.reduceLeDiff, reduceCtorEq, implies_true, ne_eq, Tag.cap, List.replicate, allSolid, GVal.solid, Nat.reduceBEq, Nat.reduceMul, Nat.reduceLT, List.length_map, List.length_range, splice, vcA, ↓vcB, vcC, fbFf, e50, spl_length, d0, all_spl, false_imp_iff, true_and]
      rw [← he]; rfl

theorem sUnionR (a b : List Sp.S) (ta tb : Tag) (hl : a.length + b.length ≤ 4398046511104) (ha : Sp.Ok a) (hb : Sp.Ok b) : GPure Try.prog 27 [.slice (spl a) ta, .slice (spl b) tb] (.slice (spl (Sp.uni a b)) .none) := by
  refine h27.pure mixS (by simp) ?_
  simp only [gstart, s27, List.cons_append, List.nil_append, List.length_cons, List.length_nil, Nat.reduceAdd, Nat.reduceSub, List.replicate_succ, List.replicate_zero]
  simp +contextual -implicitDefEqProofs (maxSteps := 2000000) (disch := omega) only [optV, ↓buildSliceV, ↓sliceV, ↓appendV, ↓srcV, bound, cutTag, hiTag, fillE, GVal.cells, grp, GVal.ofConst, ↓resV, resG, List.map, List.headD, List.take, List.drop, ↓reduceIte, Nat.reduceEqDiff, Nat.reduceAdd, Nat.reduceSub, Nat.reduceLeDiff, reduceCtorEq, implies_true, ne_eq, ↓asrcV, Tag.cap, List.replicate, allSolid, GVal.solid, Nat.reduceBEq, Nat.reduceMul, Nat.reduceLT, List.length_map, List.length_range, splice, vcA, ↓vcB, vcC, fbFf, e27, spl_length, all_spl]
  refine ⟨by omega, by omega, fun _ => ⟨by omega, by omega, fun st => ?_⟩⟩
  rw [← spl_append]
  refine (sMakeR (a ++ b) _ (by simp; omega) (ha.app hb)).then ?_ (by rfl)
  simp +contextual -implicitDefEqProofs (maxSteps := 2000000) (disch := omega) only [optV, ↓buildSliceV, ↓sliceV, ↓appendV, ↓srcV, bound, cutTag, hiTag, fillE, GVal.cells, grp, GVal.ofConst, ↓resV, resG, List.map, List.headD, List.take, List.drop, ↓reduceIte, Nat.reduceEqDiff, Nat.reduceAdd, Nat.reduceSub, Nat.reduceLeDiff, reduceCtorEq, implies_true, ne_eq, ↓asrcV, Tag.cap, List.replicate, allSolid, GVal.solid, Nat.reduceBEq, Nat.reduceMul, Nat.reduceLT, List.length_map, List.length_range, splice, vcA, ↓vcB, vcC, fbFf, e27]
  rfl

end Gv.Try
/- Contracts: the document's answer on spans: Both, Minus. -/
set_option linter.unusedVariables false
set_option linter.unusedSimpArgs false
set_option maxRecDepth 20000
set_option maxHeartbeats 4000000
namespace Gv.Try
open Go Gv Go.Proofs

def meet (x y : Sp.S) : Sp.S := (max x.1 y.1, min x.2 y.2)
theorem meets_take (A B : List Sp.S) (i : Nat) (h : i < A.length) : Sp.meets (A.take (i + 1)) B = Sp.meets (A.take i) B ++ B.map (meet (A.getD i (0, 0))) := by
  rw [take_getD h]; simp only [Sp.meets, List.flatMap_append, List.flatMap_cons, List.flatMap_nil, List.append_nil]; rfl
theorem meets_len (A B : List Sp.S) : (Sp.meets A B).length = A.length * B.length := by
  induction A with
  | nil => simp [Sp.meets]
  | cons a r ih =>
    have : Sp.meets (a :: r) B = B.map (meet a) ++ Sp.meets r B := rfl
    rw [this, List.length_append, ih]; simp [Nat.succ_mul, Nat.add_comm]
theorem map_take (f : Sp.S → Sp.S) (B : List Sp.S) (k : Nat) (h : k < B.length) : (B.take (k + 1)).map f = (B.take k).map f ++ [f (B.getD k (0, 0))] := by
  rw [take_getD h]; simp

theorem sBothR (a b : List Sp.S) (ta tb : Tag) (hl : a.length ≤ 1000 ∧ b.length ≤ 1000) (ha : Sp.Ok a) (hb : Sp.Ok b) : GPure Try.prog 20 [.slice (spl a) ta, .slice (spl b) tb] (.slice (spl (Sp.bothS a b)) .none) := by
  refine h20.pure mixS (by simp) ?_
  simp only [gstart, s20, List.cons_append, List.nil_append, List.length_cons, List.length_nil, Nat.reduceAdd, Nat.reduceSub, List.replicate_succ, List.replicate_zero]
  simp +contextual -implicitDefEqProofs (maxSteps := 2000000) (disch := omega) only [drawC, ↓lenV, binV, optV, ↓loadV, ↓fieldAddrV, ↓indexAddrV, ↓buildV, ↓buildSliceV, ↓sliceV, ↓appendV, ↓srcV, ↓minV, bound, cutTag, hiTag, fillG, fillE, place, GVal.cells, grp, GVal.ofConst, ↓resV, resG, List.map, List.headD, List.take, List.drop, ↓reduceIte, Nat.reduceEqDiff, Nat.reduceAdd, Nat.reduceSub, Nat.reduceLeDiff, reduceCtorEq, implies_true, ne_eq, ↓asrcV, Tag.cap, List.replicate, allSolid, GVal.solid, Nat.reduceBEq, Nat.reduceMul, Nat.reduceLT, List.length_map, List.length_range, splice, vcA, ↓vcB, vcC, fbFf, e20]
  refine (sMakeR a ta (by omega) ha).then ?_ (by rfl)
  simp +contextual -implicitDefEqProofs (maxSteps := 2000000) (disch := omega) only [drawC, ↓lenV, binV, optV, ↓loadV, ↓fieldAddrV, ↓indexAddrV, ↓buildV, ↓buildSliceV, ↓sliceV, ↓appendV, ↓srcV, ↓minV, bound, cutTag, hiTag, fillG, fillE, place, GVal.cells, grp, GVal.ofConst, ↓resV, resG, List.map, List.headD, List.take, List.drop, ↓reduceIte, Nat.reduceEqDiff, Nat.reduceAdd, Nat.reduceSub, Nat.reduceLeDiff, reduceCtorEq, implies_true, ne_eq, ↓asrcV, Tag.cap, List.replicate, allSolid, GVal.solid, Nat.reduceBEq, Nat.reduceMul, Nat.reduceLT, List.length_map, List.length_range, splice, vcA, ↓vcB, vcC, fbFf, e20]
  refine (sMakeR b tb (by omega) hb).then ?_ (by rfl)
  have hA := Sp.nf_len a
  have hB := Sp.nf_len b
  have oA := Sp.nf_ok ha
  have oB := Sp.nf_ok hb
  have fin : Sp.nf (Sp.meets (Sp.nf a) (Sp.nf b)) = Sp.bothS a b := Sp.nf_eq (Sp.bothS_rt a b) fun n => by rw [Sp.meets_has, Sp.bothS_has, Sp.nf_has, Sp.nf_has]
  generalize Sp.nf a = A at *
  generalize Sp.nf b = B at *
  simp +contextual -implicitDefEqProofs (maxSteps := 2000000) (disch := omega) only [drawC, ↓lenV, binV, optV, ↓loadV, ↓fieldAddrV, ↓indexAddrV, ↓buildV, ↓buildSliceV, ↓sliceV, ↓appendV, ↓srcV, ↓minV, bound, cutTag, hiTag, fillG, fillE, place, GVal.cells, grp, GVal.ofConst, ↓resV, resG, List.map, List.headD, List.take, List.drop, ↓reduceIte, Nat.reduceEqDiff, Nat.reduceAdd, Nat.reduceSub, Nat.reduceLeDiff, reduceCtorEq, implies_true, ne_eq, ↓asrcV, Tag.cap, List.replicate, allSolid, GVal.solid, Nat.reduceBEq, Nat.reduceMul, Nat.reduceLT, List.length_map, List.length_range, splice, vcA, ↓vcB, vcC, fbFf, e20, spl_length]
  refine vcSLoop_by (ι := { p : Nat × Nat // p.1 ≤ A.length }) (fun p => ⟨[.slice (spl A) .none, .slice (spl B) .none, .any, .any, .any, .slice (spl (Sp.meets (A.take p.1.1) B)) (.tok 0 p.1.2), .int .i64 (p.1.1 : Nat)] ++ List.replicate 45 .any, [.tok p.1.2 2]⟩) (fun p => A.length - p.1.1) ?_ ?_
  · refine Into.tok 5 2 [] rfl rfl ?_
    simp +contextual -implicitDefEqProofs (maxSteps := 2000000) (disch := omega) only [drawC, ↓lenV, binV, optV, ↓loadV, ↓fieldAddrV, ↓indexAddrV, ↓buildV, ↓buildSliceV, ↓sliceV, ↓appendV, ↓srcV, ↓minV, bound, cutTag, hiTag, fillG, fillE, place, GVal.cells, grp, GVal.ofConst, ↓resV, resG, List.map, List.headD, List.take, List.drop, ↓reduceIte, Nat.reduceEqDiff, Nat.reduceAdd, Nat.reduceSub, Nat.reduceLeDiff, reduceCtorEq, implies_true, ne_eq, ↓asrcV, Tag.cap, List.replicate, allSolid, GVal.solid, Nat.reduceBEq, Nat.reduceMul, Nat.reduceLT, List.length_map, List.length_range, splice, vcA, ↓vcB, vcC, fbFf, e20]
    intro t0
    exact Into.first ⟨(0, t0), by omega⟩ ⟨[], by simp⟩ (by simp [WL, leG_self, leG_any, spl_nil, Sp.meets])
  · rintro ⟨⟨i, v⟩, hi⟩
    simp only [] at hi
    have hml := meets_len (A.take i) B
    rw [List.length_take, Nat.min_eq_left hi] at hml
    have hm1 : i * B.length ≤ 1000 * 1000 := Nat.mul_le_mul (by omega) (by omega)
    by_cases h : i < A.length
    · have d0 : ((i : Int) < (A.length : Int)) = True := eq_true (by omega)
      have eX := spl_at A i h
      have hx := oA.at i
      have eM := meets_take A B i h
      generalize A.getD i (0, 0) = x at *
      generalize Sp.meets (A.take i) B = M at *
      simp +contextual -implicitDefEqProofs (maxSteps := 2000000) (disch := omega) only [drawC, ↓lenV, binV, optV, ↓loadV, ↓fieldAddrV, ↓indexAddrV, ↓buildV, ↓buildSliceV, ↓sliceV, ↓appendV, ↓srcV, ↓minV, bound, cutTag, hiTag, fillG, fillE, place, GVal.cells, grp, GVal.ofConst, ↓resV, resG, List.map, List.headD, List.take, List.drop, ↓reduceIte, Nat.reduceEqDiff, Nat.reduceAdd, Nat.reduceSub, Nat.reduceLeDiff, reduceCtorEq, implies_true, ne_eq, ↓asrcV, Tag.cap, List.replicate, allSolid, GVal.solid, Nat.reduceBEq, Nat.reduceMul, Nat.reduceLT, List.length_map, List.length_range, splice, vcA, ↓vcB, vcC, fbFf, e20, spl_length, d0]
      refine vcSLoop_by (ι := { p : Nat × Nat // p.1 ≤ B.length }) (fun p => ⟨[.slice (spl A) .none, .slice (spl B) .none, .any, .any, .any, .slice (spl (M ++ (B.take p.1.1).map (meet x))) (.tok 0 p.1.2), .int .i64 (i : Nat), .int .i64 (p.1.1 : Nat)] ++ List.replicate 44 .any, [.tok p.1.2 2]⟩) (fun p => B.length - p.1.1) ?_ ?_
      · exact Into.first ⟨(0, v), by omega⟩ ⟨[], by simp⟩ (by simp [WL, leG_self, leG_any, leG_int])
      · rintro ⟨⟨k, u⟩, hk⟩
        simp only [] at hk
        by_cases h' : k < B.length
        · have d1 : ((k : Int) < (B.length : Int)) = True := eq_true (by omega)
          have eY := spl_at B k h'
          have hy := oB.at k
          have eN := map_take (meet x) B k h'
          generalize B.getD k (0, 0) = y at *
          have hz : ((B.take k).map (meet x)).length ≤ 1000 := by simp; omega
          generalize (B.take k).map (meet x) = Z at *
          simp +contextual -implicitDefEqProofs (maxSteps := 2000000) (disch := omega) only [drawC, ↓lenV, binV, optV, ↓loadV, ↓fieldAddrV, ↓indexAddrV, ↓buildV, ↓buildSliceV, ↓sliceV, ↓appendV, ↓srcV, ↓minV, bound, cutTag, hiTag, fillG, fillE, place, GVal.cells, grp, GVal.ofConst, ↓resV, resG, List.map, List.headD, List.take, List.drop, ↓reduceIte, Nat.reduceEqDiff, Nat.reduceAdd, Nat.reduceSub, Nat.reduceLeDiff, reduceCtorEq, implies_true, ne_eq, ↓asrcV, Tag.cap, List.replicate, allSolid, GVal.solid, Nat.reduceBEq, Nat.reduceMul, Nat.reduceLT, List.length_map, List.length_range, splice, vcA, ↓vcB, vcC, fbFf, e20, spl_length, d0, d1, eX, eY, spG, all_spl, List.length_append]
          refine ⟨by omega, by omega, by omega, by omega, by omega, by omega, fun st => ?_⟩
          refine Into.at ⟨(k + 1, st), by show k + 1 ≤ _; omega⟩ (by show _ < _; simp; omega) ⟨[], by simp⟩ ?_
          have e2 : meet x y = (max x.1 y.1, min x.2 y.2) := rfl
          simp [WL, leG_self, leG_any, leG_int, leG_tok, eN, spl_append, spl_cons, spl_nil, spG, e2]
        · have d1 : ((k : Int) < (B.length : Int)) = False := eq_false (by omega)
          rw [List.take_of_length_le (l := B) (i := k) (by omega), ← eM]
          simp +contextual -implicitDefEqProofs (maxSteps := 2000000) (disch := omega) only [drawC, ↓lenV, binV, optV, ↓loadV, ↓fieldAddrV, ↓indexAddrV, ↓buildV, ↓buildSliceV, ↓sliceV, ↓appendV, ↓srcV, ↓minV, bound, cutTag, hiTag, fillG, fillE, place, GVal.cells, grp, GVal.ofConst, ↓resV, resG, List.map, List.headD, List.take, List.drop, ↓reduceIte, Nat.reduceEqDiff, Nat.reduceAdd, Nat.reduceSub, Nat.reduceLeDiff, reduceCtorEq, implies_true, ne_eq, ↓asrcV, Tag.cap, List.replicate, allSolid, GVal.solid, Nat.reduceBEq, Nat.reduceMul, Nat.reduceLT, List.length_map, List.length_range, splice, vcA, ↓vcB, vcC, fbFf, e20, spl_length, d0, d1, all_spl, false_imp_iff, true_and]
          exact Into.at ⟨(i + 1, u), by show i + 1 ≤ _; omega⟩ (by show _ < _; simp; omega) ⟨[], by simp⟩ (by simp [WL, leG_self, leG_any, leG_int])
    · have d0 : ((i : Int) < (A.length : Int)) = False := eq_false (by omega)
      rw [List.take_of_length_le (l := A) (i := i) (by omega)] at hml ⊢
      have hok : Sp.Ok (Sp.meets A B) := by
        intro s hs
        simp only [Sp.meets, List.mem_flatMap, List.mem_map] at hs
        obtain ⟨x, hx, y, hy, rfl⟩ := hs
        have := oA x hx
        have := oB y hy
        exact ⟨by show _ ≤ max _ _ ∧ max _ _ ≤ _; omega, by show _ ≤ min _ _ ∧ min _ _ ≤ _; omega⟩
      simp +contextual -implicitDefEqProofs (maxSteps := 2000000) (disch := omega) only [drawC, ↓lenV, binV, optV, ↓loadV, ↓fieldAddrV, ↓indexAddrV, ↓buildV, ↓buildSliceV, ↓sliceV, ↓appendV, ↓srcV, ↓minV, bound, cutTag, hiTag, fillG, fillE, place, GVal.cells, grp, GVal.ofConst, ↓resV, resG, List.map, List.headD, List.take, List.drop, ↓reduceIte, Nat.reduceEqDiff, Nat.reduceAdd, Nat.reduceSub, Nat.reduceLeDiff, reduceCtorEq, implies_true, ne_eq, ↓asrcV, Tag.cap, List.replicate, allSolid, GVal.solid, Nat.reduceBEq, Nat.reduceMul, Nat.reduceLT, List.length_map, List.length_range, splice, vcA, ↓vcB, vcC, fbFf, e20, spl_length, d0, all_spl, false_imp_iff, true_and]
      refine (sMakeR (Sp.meets A B) _ (by omega) hok).then ?_ (by rfl)
      simp +contextual -implicitDefEqProofs (maxSteps := 2000000) (disch := omega) only [drawC, ↓lenV, binV, optV, ↓loadV, ↓fieldAddrV, ↓indexAddrV, ↓buildV, ↓buildSliceV, ↓sliceV, ↓appendV, ↓srcV, ↓minV, bound, cutTag, hiTag, fillG, fillE, place, GVal.cells, grp, GVal.ofConst, ↓resV, resG, List.map, List.headD, List.take, List.drop, ↓reduceIte, Nat.reduceEqDiff, Nat.reduceAdd, Nat.reduceSub, Nat.reduceLeDiff, reduceCtorEq, implies_true, ne_eq, ↓asrcV, Tag.cap, List.replicate, allSolid, GVal.solid, Nat.reduceBEq, Nat.reduceMul, Nat.reduceLT, List.length_map, List.length_range, splice, vcA, ↓vcB, vcC, fbFf, e20]
      rw [fin]

end Gv.Try
/- Sets of numbers: the greatest, the least, one by one. -/
set_option linter.unusedVariables false
namespace Gv.Sp
open Gv
abbrev sz (s : S) : Int := s.2 - s.1 + 1
/-- of a list of spans, the greatest first: the first n numbers; the rest -/
def topF : List S → Int → List S
  | [], _ => []
  | s :: r, n => if n ≤ 0 then [] else (s.2 - (min n (sz s) - 1), s.2) :: topF r (n - min n (sz s))
def topO : List S → Int → List S
  | [], _ => []
  | s :: r, n => if n ≤ 0 then s :: r else if sz s ≤ n then topO r (n - sz s) else (s.1, s.2 - n) :: r
theorem topF_cons (s : S) (r : List S) (n : Int) : topF (s :: r) n = if n ≤ 0 then [] else (s.2 - (min n (sz s) - 1), s.2) :: topF r (n - min n (sz s)) := rfl
theorem topO_cons (s : S) (r : List S) (n : Int) : topO (s :: r) n = if n ≤ 0 then s :: r else if sz s ≤ n then topO r (n - sz s) else (s.1, s.2 - n) :: r := rfl
theorem topF_len : ∀ (r : List S) (n : Int), (topF r n).length ≤ r.length
  | [], n => by simp [topF]
  | s :: r, n => by
    rw [topF_cons]; split
    · simp
    · have := topF_len r (n - min n (sz s)); simp; omega
def lowF : List S → Int → List S
  | [], _ => []
  | s :: r, n => if n ≤ 0 then [] else (s.1, s.1 + (min n (sz s) - 1)) :: lowF r (n - min n (sz s))
theorem lowF_cons (s : S) (r : List S) (n : Int) : lowF (s :: r) n = if n ≤ 0 then [] else (s.1, s.1 + (min n (sz s) - 1)) :: lowF r (n - min n (sz s)) := rfl
theorem lowF_len : ∀ (r : List S) (n : Int), (lowF r n).length ≤ r.length
  | [], n => by simp [lowF]
  | s :: r, n => by
    rw [lowF_cons]; split
    · simp
    · have := lowF_len r (n - min n (sz s)); simp; omega
def firstS (N : List S) (n : Int) : List S := (topF N.reverse n).reverse
def skipS (N : List S) (n : Int) : List S := (topO N.reverse n).reverse
/-- falling numbers from one on -/
def down (h : Int) (k : Nat) : List Int := (List.range k).map fun (i : Nat) => h - i
theorem down_len (h : Int) (k : Nat) : (down h k).length = k := by simp [down]
theorem down_zero (h : Int) : down h 0 = [] := rfl
theorem down_snoc (h : Int) (k : Nat) : down h (k + 1) = down h k ++ [h - k] := by simp [down, List.range_succ]
theorem down_add (h : Int) (j : Nat) : ∀ k, down h (j + k) = down h j ++ down (h - j) k
  | 0 => by simp [down_zero]
  | k + 1 => by rw [← Nat.add_assoc, down_snoc, down_add h j k, down_snoc, List.append_assoc]; congr 3; simp; omega
theorem down_mem (n h : Int) (k : Nat) : n ∈ down h k ↔ h - k < n ∧ n ≤ h := by
  simp only [down, List.mem_map, List.mem_range]
  constructor
  · rintro ⟨i, hi, rfl⟩; omega
  · rintro ⟨h1, h2⟩; exact ⟨(h - n).toNat, by omega, by omega⟩
/-- all numbers, of spans the greatest first -/
def elsR (r : List S) : List Int := r.flatMap fun s => down s.2 (sz s).toNat
def els (N : List S) : List Int := elsR N.reverse
theorem elsR_cons (s : S) (r : List S) : elsR (s :: r) = down s.2 (sz s).toNat ++ elsR r := rfl
theorem els_cons (s : S) (r : List S) : els (s :: r) = els r ++ down s.2 (sz s).toNat := by simp [els, elsR]
theorem elsR_top : ∀ (r : List S) (n : Int), (∀ s ∈ r, s.1 ≤ s.2) → elsR (topF r n) = (elsR r).take n.toNat
  | [], n, _ => by simp [topF, elsR]
  | s :: r, n, h => by
    have hs := h s (by simp)
    rw [topF_cons]
    split
    · have : n.toNat = 0 := by omega
      rw [this]; rfl
    · rw [elsR_cons, elsR_cons, elsR_top r _ (fun x hx => h x (by simp [hx])), List.take_append, down_len]
      have hz : sz s = s.2 - s.1 + 1 := rfl
      have hz' : sz (s.2 - (min n (sz s) - 1), s.2) = s.2 - (s.2 - (min n (sz s) - 1)) + 1 := rfl
      have e1 : (sz (s.2 - (min n (sz s) - 1), s.2)).toNat = min n.toNat (sz s).toNat := by omega
      rw [e1]
      have e2 : (n - min n (sz s)).toNat = n.toNat - (sz s).toNat := by omega
      rw [e2]
      congr 1
      show down s.2 _ = _
      by_cases c : n.toNat ≤ (sz s).toNat
      · obtain ⟨j, hj⟩ := Nat.exists_eq_add_of_le c
        rw [hj, Nat.min_eq_left (by omega), down_add, List.take_append_of_le_length (by rw [down_len]; omega), List.take_of_length_le (by rw [down_len]; omega)]
      · rw [Nat.min_eq_right (by omega), List.take_of_length_le (by rw [down_len]; omega)]
theorem elsR_rest : ∀ (r : List S) (n : Int), (∀ s ∈ r, s.1 ≤ s.2) → elsR (topO r n) = (elsR r).drop n.toNat
  | [], n, _ => by simp [topO, elsR]
  | s :: r, n, h => by
    have hs := h s (by simp)
    rw [topO_cons]
    split
    · have : n.toNat = 0 := by omega
      rw [this]; rfl
    · split
      · rw [elsR_rest r _ (fun x hx => h x (by simp [hx])), elsR_cons, List.drop_append, down_len, List.drop_of_length_le (l := down s.2 (sz s).toNat) (by rw [down_len]; omega), List.nil_append]
        have hz : sz s = s.2 - s.1 + 1 := rfl
        congr 1; omega
      · rw [elsR_cons, elsR_cons, List.drop_append_of_le_length (by rw [down_len]; omega)]
        congr 1
        have hz : sz s = s.2 - s.1 + 1 := rfl
        have hz' : sz (s.1, s.2 - n) = s.2 - n - s.1 + 1 := rfl
        have e : (sz s).toNat = n.toNat + (sz (s.1, s.2 - n)).toNat := by omega
        rw [e, down_add, List.drop_append_of_le_length (by rw [down_len]; exact Nat.le_refl _), List.drop_of_length_le (by rw [down_len]; exact Nat.le_refl _), List.nil_append]
        congr 1; show s.2 - n = _; omega
theorem Rt.all_le {N : List S} {b : Int} (h : Rt b N) : ∀ s ∈ N, s.1 ≤ s.2 := fun s hs => (h.mem hs).2
theorem els_first {N : List S} (h : Rt 0 N) (n : Int) : els (firstS N n) = (els N).take n.toNat := by
  rw [els, firstS, List.reverse_reverse, elsR_top _ _ (fun s hs => h.all_le s (by simpa using hs))]; rfl
theorem els_skip {N : List S} (h : Rt 0 N) (n : Int) : els (skipS N n) = (els N).drop n.toNat := by
  rw [els, skipS, List.reverse_reverse, elsR_rest _ _ (fun s hs => h.all_le s (by simpa using hs))]; rfl
theorem els_low : ∀ (N : List S) (n : Int), (∀ s ∈ N, s.1 ≤ s.2) → els (lowF N n) = (els N).drop ((els N).length - n.toNat)
  | [], n, _ => by simp [lowF, els, elsR]
  | s :: r, n, h => by
    have hs := h s (by simp)
    rw [lowF_cons]
    split
    · have : n.toNat = 0 := by omega
      rw [this, Nat.sub_zero, List.drop_length]; rfl
    · rw [els_cons, els_cons, els_low r _ (fun x hx => h x (by simp [hx])), List.length_append, down_len]
      have hz : sz s = s.2 - s.1 + 1 := rfl
      have e2 : (n - min n (sz s)).toNat = n.toNat - (sz s).toNat := by omega
      have hz' : sz (s.1, s.1 + (min n (sz s) - 1)) = s.1 + (min n (sz s) - 1) - s.1 + 1 := rfl
      have e1 : (sz (s.1, s.1 + (min n (sz s) - 1))).toNat = min n.toNat (sz s).toNat := by omega
      rw [e1, e2]
      show _ ++ down (s.1 + (min n (sz s) - 1)) _ = _
      by_cases c : n.toNat ≤ (sz s).toNat
      · obtain ⟨j, hj⟩ := Nat.exists_eq_add_of_le' c
        have e3 : n.toNat - (sz s).toNat = 0 := by omega
        rw [e3, Nat.sub_zero, List.drop_length, List.nil_append, Nat.min_eq_left c, List.drop_append]
        have e4 : (els r).length + (sz s).toNat - n.toNat = (els r).length + j := by omega
        rw [e4, List.drop_of_length_le (by omega), List.nil_append]
        have e5 : (els r).length + j - (els r).length = j := by omega
        rw [e5, hj, down_add, List.drop_append_of_le_length (by rw [down_len]; exact Nat.le_refl _), List.drop_of_length_le (by rw [down_len]; exact Nat.le_refl _), List.nil_append]
        congr 1
        have e6 : min n (sz s) = n := by omega
        rw [e6]
        have : sz s = j + n := by omega
        simp only [sz] at this
        omega
      · have e4 : (els r).length + (sz s).toNat - n.toNat = (els r).length - (n.toNat - (sz s).toNat) := by omega
        rw [e4, List.drop_append_of_le_length (by omega), Nat.min_eq_right (by omega)]
        congr 2
        have e6 : min n (sz s) = sz s := by omega
        rw [e6]; simp only [sz]; omega
theorem els_mem : ∀ {N : List S} {b : Int}, Rt b N → 0 ≤ b → ∀ n, n ∈ els N ↔ has N n
  | [], b, _, _, n => by simp [els, elsR, has_nil]
  | s :: r, b, ⟨h1, h2, h3⟩, hb, n => by
    rw [els_cons, List.mem_append, els_mem h3 (by omega), has_cons, down_mem, or_comm]
    refine or_congr ?_ Iff.rfl
    simp only [sz]; omega
theorem topF_rt : ∀ (r : List S) (n : Int), Rt 0 r.reverse → Rt 0 (topF r n).reverse ∧ ∀ s ∈ topF r n, ∀ b, (∀ x ∈ r, x.2 < b) → s.2 < b
  | [], n, _ => by simp [topF, Rt]
  | s :: r, n, h => by
    rw [List.reverse_cons] at h
    obtain ⟨h1, h2, h3, h4⟩ := (Rt_snoc s _ 0).1 h
    rw [topF_cons]
    split
    · exact ⟨trivial, by simp⟩
    · obtain ⟨i1, i2⟩ := topF_rt r (n - min n (sz s)) h1
      have hk : 1 ≤ min n (sz s) ∧ min n (sz s) ≤ sz s := by simp only [sz]; omega
      simp only [sz] at hk
      constructor
      · rw [List.reverse_cons]
        refine (Rt_snoc _ _ 0).2 ⟨i1, by show 0 ≤ s.2 - (min n (s.2 - s.1 + 1) - 1); omega, by show s.2 - (min n (s.2 - s.1 + 1) - 1) ≤ s.2; omega, fun y hy => ?_⟩
        have := i2 y (by simpa using hy) (s.1 - 1) (fun x hx => by have := h4 x (by simpa using hx); omega)
        show y.2 + 2 ≤ s.2 - (min n (s.2 - s.1 + 1) - 1)
        omega
      · intro x hx b hb
        rcases List.mem_cons.1 hx with rfl | hx
        · exact hb s (by simp)
        · exact i2 x hx b fun z hz => hb z (by simp [hz])
theorem topO_rt : ∀ (r : List S) (n : Int), Rt 0 r.reverse → Rt 0 (topO r n).reverse
  | [], n, _ => trivial
  | s :: r, n, h => by
    have h' := h
    rw [List.reverse_cons] at h
    obtain ⟨h1, h2, h3, h4⟩ := (Rt_snoc s _ 0).1 h
    rw [topO_cons]
    split
    · exact h'
    · split
      · exact topO_rt r _ h1
      · rename_i c
        simp only [sz] at c
        rw [List.reverse_cons]
        exact (Rt_snoc _ _ 0).2 ⟨h1, h2, by show s.1 ≤ s.2 - n; omega, h4⟩
theorem first_rt {N : List S} (h : Rt 0 N) (n : Int) : Rt 0 (firstS N n) := (topF_rt N.reverse n (by simpa using h)).1
theorem skip_rt {N : List S} (h : Rt 0 N) (n : Int) : Rt 0 (skipS N n) := topO_rt N.reverse n (by simpa using h)
theorem low_rt : ∀ (N : List S) (n b : Int), Rt b N → Rt b (lowF N n)
  | [], n, b, _ => trivial
  | s :: r, n, b, ⟨h1, h2, h3⟩ => by
    rw [lowF_cons]
    split
    · trivial
    · have hk : 1 ≤ min n (sz s) ∧ min n (sz s) ≤ sz s := by simp only [sz]; omega
      simp only [sz] at hk
      exact ⟨h1, by show s.1 ≤ s.1 + (min n (s.2 - s.1 + 1) - 1); omega, (low_rt r _ _ h3).weak (by show s.1 + (min n (s.2 - s.1 + 1) - 1) + 2 ≤ _; omega)⟩
theorem first_len (N : List S) (n : Int) : (firstS N n).length ≤ N.length := by have := topF_len N.reverse n; simpa [firstS] using this
theorem topO_len : ∀ (r : List S) (n : Int), (topO r n).length ≤ r.length
  | [], n => by simp [topO]
  | s :: r, n => by
    rw [topO_cons]; split
    · exact Nat.le_refl _
    · split
      · have := topO_len r (n - sz s); simp; omega
      · simp
theorem skip_len (N : List S) (n : Int) : (skipS N n).length ≤ N.length := by have := topO_len N.reverse n; simpa [skipS] using this
/-- all three are parts of the set -/
theorem first_has {N : List S} (h : Rt 0 N) (n m : Int) (hm : has (firstS N n) m) : has N m := by
  rw [← els_mem (first_rt h n) (by omega), els_first h] at hm
  exact (els_mem h (by omega) m).1 (List.mem_of_mem_take hm)
theorem skip_has {N : List S} (h : Rt 0 N) (n m : Int) (hm : has (skipS N n) m) : has N m := by
  rw [← els_mem (skip_rt h n) (by omega), els_skip h] at hm
  exact (els_mem h (by omega) m).1 (List.mem_of_mem_drop hm)
theorem low_has {N : List S} (h : Rt 0 N) (n m : Int) (hm : has (lowF N n) m) : has N m := by
  rw [← els_mem (low_rt N n 0 h) (by omega), els_low N n h.all_le] at hm
  exact (els_mem h (by omega) m).1 (List.mem_of_mem_drop hm)
theorem first_ok {N : List S} (h : Rt 0 N) (ho : Ok N) (n : Int) : Ok (firstS N n) := ok_of (first_rt h n) (by omega) fun m hm => ho.has (first_has h n m hm)
theorem skip_ok {N : List S} (h : Rt 0 N) (ho : Ok N) (n : Int) : Ok (skipS N n) := ok_of (skip_rt h n) (by omega) fun m hm => ho.has (skip_has h n m hm)
theorem low_ok {N : List S} (h : Rt 0 N) (ho : Ok N) (n : Int) : Ok (lowF N n) := ok_of (low_rt N n 0 h) (by omega) fun m hm => ho.has (low_has h n m hm)
end Gv.Sp
/- Contracts: Low, High, Of, Last, First, Skip, IDs. -/
set_option linter.unusedVariables false
set_option linter.unusedSimpArgs false
set_option maxRecDepth 20000
set_option maxHeartbeats 4000000
namespace Gv.Try
open Go Gv Go.Proofs
open Gv.Sp (Lim)

theorem WL_self : ∀ l : List GVal, WL l l
  | [] => trivial
  | x :: r => ⟨by rw [leG_self]; trivial, WL_self r⟩
def lowV (N : List Sp.S) : GVal := .tuple [.int .i64 (N.getD 0 (0, 0)).1, .bool (decide (0 < N.length))]
def highV (N : List Sp.S) : GVal := .tuple [.int .i64 (N.getD (N.length - 1) (0, 0)).2, .bool (decide (0 < N.length))]
theorem sLow (l : List Sp.S) (t : Tag) (hl : l.length ≤ 4398046511104) (ho : Sp.Ok l) : GPure Try.prog 53 [.slice (spl l) t] (lowV (Sp.nf l)) := by
  refine h53.pure mixS (by simp) ?_
  simp only [gstart, s53, List.cons_append, List.nil_append, List.length_cons, List.length_nil, Nat.reduceAdd, Nat.reduceSub, List.replicate_succ, List.replicate_zero]
  simp +contextual -implicitDefEqProofs (maxSteps := 2000000) (disch := omega) only [↓lenV, binV, ↓loadV, ↓fieldAddrV, ↓indexAddrV, GVal.cells, grp, GVal.ofConst, ↓resV, resG, List.map, List.headD, List.take, List.drop, ↓reduceIte, Nat.reduceEqDiff, Nat.reduceAdd, Nat.reduceSub, Nat.reduceLeDiff, reduceCtorEq, implies_true, ne_eq, aggV, Tag.cap, List.replicate, allSolid, GVal.solid, Nat.reduceBEq, Nat.reduceMul, Nat.reduceLT, List.length_map, List.length_range, splice, vcA, ↓vcB, vcC, fbFf, e53]
  refine (sMake l t hl ho).then ?_ (by rfl)
  have hN := Sp.nf_len l
  generalize Sp.nf l = N at *
  cases N with
  | nil =>
    simp +contextual -implicitDefEqProofs (maxSteps := 2000000) (disch := omega) only [↓lenV, binV, ↓loadV, ↓fieldAddrV, ↓indexAddrV, GVal.cells, grp, GVal.ofConst, ↓resV, resG, List.map, List.headD, List.take, List.drop, ↓reduceIte, Nat.reduceEqDiff, Nat.reduceAdd, Nat.reduceSub, Nat.reduceLeDiff, reduceCtorEq, implies_true, ne_eq, aggV, Tag.cap, List.replicate, allSolid, GVal.solid, Nat.reduceBEq, Nat.reduceMul, Nat.reduceLT, List.length_map, List.length_range, splice, vcA, ↓vcB, vcC, fbFf, e53, spl_nil, spl_length]
    exact WL_self _
  | cons s r =>
    have d0 : ((r.length : Int) + 1 = 0) = False := eq_false (by omega)
    simp +contextual -implicitDefEqProofs (maxSteps := 2000000) (disch := omega) only [↓lenV, binV, ↓loadV, ↓fieldAddrV, ↓indexAddrV, GVal.cells, grp, GVal.ofConst, ↓resV, resG, List.map, List.headD, List.take, List.drop, ↓reduceIte, Nat.reduceEqDiff, Nat.reduceAdd, Nat.reduceSub, Nat.reduceLeDiff, reduceCtorEq, implies_true, ne_eq, aggV, Tag.cap, List.replicate, allSolid, GVal.solid, Nat.reduceBEq, Nat.reduceMul, Nat.reduceLT, List.length_map, List.length_range, splice, vcA, ↓vcB, vcC, fbFf, e53, spl_cons, spl_length, spG, d0, Int.reduceToNat]
    exact ⟨by omega, by omega, WL_self _⟩
theorem sHigh (l : List Sp.S) (t : Tag) (hl : l.length ≤ 4398046511104) (ho : Sp.Ok l) : GPure Try.prog 37 [.slice (spl l) t] (highV (Sp.nf l)) := by
  refine h37.pure mixS (by simp) ?_
  simp only [gstart, s37, List.cons_append, List.nil_append, List.length_cons, List.length_nil, Nat.reduceAdd, Nat.reduceSub, List.replicate_succ, List.replicate_zero]
  simp +contextual -implicitDefEqProofs (maxSteps := 2000000) (disch := omega) only [↓lenV, binV, ↓loadV, ↓fieldAddrV, ↓indexAddrV, GVal.cells, grp, GVal.ofConst, ↓resV, resG, List.map, List.headD, List.take, List.drop, ↓reduceIte, Nat.reduceEqDiff, Nat.reduceAdd, Nat.reduceSub, Nat.reduceLeDiff, reduceCtorEq, implies_true, ne_eq, aggV, Tag.cap, List.replicate, allSolid, GVal.solid, Nat.reduceBEq, Nat.reduceMul, Nat.reduceLT, List.length_map, List.length_range, splice, vcA, ↓vcB, vcC, fbFf, e37]
  refine (sMake l t hl ho).then ?_ (by rfl)
  have hN := Sp.nf_len l
  generalize Sp.nf l = N at *
  by_cases h : N.length = 0
  · have e : N = [] := List.length_eq_zero_iff.1 h
    subst e
    simp +contextual -implicitDefEqProofs (maxSteps := 2000000) (disch := omega) only [↓lenV, binV, ↓loadV, ↓fieldAddrV, ↓indexAddrV, GVal.cells, grp, GVal.ofConst, ↓resV, resG, List.map, List.headD, List.take, List.drop, ↓reduceIte, Nat.reduceEqDiff, Nat.reduceAdd, Nat.reduceSub, Nat.reduceLeDiff, reduceCtorEq, implies_true, ne_eq, aggV, Tag.cap, List.replicate, allSolid, GVal.solid, Nat.reduceBEq, Nat.reduceMul, Nat.reduceLT, List.length_map, List.length_range, splice, vcA, ↓vcB, vcC, fbFf, e37, spl_nil, spl_length]
    exact WL_self _
  · have d0 : ((N.length : Int) = 0) = False := eq_false (by omega)
    have d1 : ((N.length : Int) - 1).toNat = N.length - 1 := by omega
    have eS := spl_at N (N.length - 1) (by omega)
    simp +contextual -implicitDefEqProofs (maxSteps := 2000000) (disch := omega) only [↓lenV, binV, ↓loadV, ↓fieldAddrV, ↓indexAddrV, GVal.cells, grp, GVal.ofConst, ↓resV, resG, List.map, List.headD, List.take, List.drop, ↓reduceIte, Nat.reduceEqDiff, Nat.reduceAdd, Nat.reduceSub, Nat.reduceLeDiff, reduceCtorEq, implies_true, ne_eq, aggV, Tag.cap, List.replicate, allSolid, GVal.solid, Nat.reduceBEq, Nat.reduceMul, Nat.reduceLT, List.length_map, List.length_range, splice, vcA, ↓vcB, vcC, fbFf, e37, spl_length, spG, d0, d1, eS]
    have e : decide (0 < N.length) = true := decide_eq_true (by omega)
    exact ⟨by omega, by omega, by rw [highV, e]; exact WL_self _⟩

theorem sOf (l : List Int) (t : Tag) (hl : l.length ≤ 1000) (hi : ∀ i, -9223372036854775808 ≤ l.getD i 0 ∧ l.getD i 0 ≤ 9223372036854775807) : GPure Try.prog 41 [.slice (ints l) t] (.slice (spl (Sp.nf (l.map fun i => (i, i)))) .none) := by
  have ho : Sp.Ok (l.map fun i => ((i, i) : Sp.S)) := fun s hs => by
    obtain ⟨i, h, rfl⟩ := List.mem_map.1 hs
    obtain ⟨j, hj, rfl⟩ := List.getElem_of_mem h
    have := hi j
    rw [List.getD_eq_getElem?_getD, List.getElem?_eq_getElem hj] at this
    exact ⟨this, this⟩
  refine h41.pure mixS (by simp) ?_
  simp only [gstart, s41, List.cons_append, List.nil_append, List.length_cons, List.length_nil, Nat.reduceAdd, Nat.reduceSub, List.replicate_succ, List.replicate_zero]
  simp +contextual -implicitDefEqProofs (maxSteps := 2000000) (disch := omega) only [↓lenV, binV, optV, ↓loadV, ↓indexAddrV, ↓buildV, ↓buildSliceV, ↓sliceV, ↓appendV, ↓srcV, bound, cutTag, hiTag, fillG, fillE, place, GVal.cells, grp, GVal.ofConst, ↓resV, resG, List.map, List.headD, List.take, List.drop, ↓reduceIte, Nat.reduceEqDiff, Nat.reduceAdd, Nat.reduceSub, Nat.reduceLeDiff, reduceCtorEq, implies_true, ne_eq, ↓asrcV, Tag.cap, List.replicate, allSolid, GVal.solid, Nat.reduceBEq, Nat.reduceMul, Nat.reduceLT, List.length_map, List.length_range, splice, vcA, ↓vcB, vcC, fbFf, e41]
  refine vcSLoop_by (ι := { p : Nat × Nat // p.1 ≤ l.length }) (fun p => ⟨[.any, .any, .any, .slice (spl ((l.take p.1.1).map fun i => (i, i))) (.tok 0 p.1.2), .any, .any, .slice (ints l) t, .int .i64 l.length, .int .i64 (p.1.1 : Nat)] ++ List.replicate 12 .any, [.tok p.1.2 2]⟩) (fun p => l.length - p.1.1) ?_ ?_
  · refine Into.tok 3 2 [] rfl rfl ?_
    simp +contextual -implicitDefEqProofs (maxSteps := 2000000) (disch := omega) only [↓lenV, binV, optV, ↓loadV, ↓indexAddrV, ↓buildV, ↓buildSliceV, ↓sliceV, ↓appendV, ↓srcV, bound, cutTag, hiTag, fillG, fillE, place, GVal.cells, grp, GVal.ofConst, ↓resV, resG, List.map, List.headD, List.take, List.drop, ↓reduceIte, Nat.reduceEqDiff, Nat.reduceAdd, Nat.reduceSub, Nat.reduceLeDiff, reduceCtorEq, implies_true, ne_eq, ↓asrcV, Tag.cap, List.replicate, allSolid, GVal.solid, Nat.reduceBEq, Nat.reduceMul, Nat.reduceLT, List.length_map, List.length_range, splice, vcA, ↓vcB, vcC, fbFf, e41]
    intro t0
    exact Into.first ⟨(0, t0), by omega⟩ ⟨[], by simp⟩ (by simp [WL, leG_self, leG_any, spl_nil])
  · rintro ⟨⟨k, v⟩, hk⟩
    simp only [] at hk
    by_cases h : k < l.length
    · have d0 : ((k : Int) < (l.length : Int)) = True := eq_true (by omega)
      have eN : (l.take (k + 1)).map (fun i => ((i, i) : Sp.S)) = (l.take k).map (fun i => (i, i)) ++ [(l.getD k 0, l.getD k 0)] := by rw [List.take_add_one, List.map_append]; simp [List.getD, h]
      have hz : ((l.take k).map (fun i => ((i, i) : Sp.S))).length ≤ 1000 := by simp; omega
      generalize (l.take k).map (fun i => ((i, i) : Sp.S)) = Z at *
      simp +contextual -implicitDefEqProofs (maxSteps := 2000000) (disch := omega) only [↓lenV, binV, optV, ↓loadV, ↓indexAddrV, ↓buildV, ↓buildSliceV, ↓sliceV, ↓appendV, ↓srcV, bound, cutTag, hiTag, fillG, fillE, place, GVal.cells, grp, GVal.ofConst, ↓resV, resG, List.map, List.headD, List.take, List.drop, ↓reduceIte, Nat.reduceEqDiff, Nat.reduceAdd, Nat.reduceSub, Nat.reduceLeDiff, reduceCtorEq, implies_true, ne_eq, ↓asrcV, Tag.cap, List.replicate, allSolid, GVal.solid, Nat.reduceBEq, Nat.reduceMul, Nat.reduceLT, List.length_map, List.length_range, splice, vcA, ↓vcB, vcC, fbFf, e41, d0, spl_length, all_spl]
      refine ⟨by omega, by omega, by omega, fun st => ?_⟩
      refine Into.at ⟨(k + 1, st), by show k + 1 ≤ _; omega⟩ (by show _ < _; simp; omega) ⟨[], by simp⟩ ?_
      simp [WL, leG_self, leG_any, leG_int, leG_tok, eN, spl_append, spl_cons, spl_nil, spG]
    · have d0 : ((k : Int) < (l.length : Int)) = False := eq_false (by omega)
      rw [List.take_of_length_le (l := l) (i := k) (by omega)]
      simp +contextual -implicitDefEqProofs (maxSteps := 2000000) (disch := omega) only [↓lenV, binV, optV, ↓loadV, ↓indexAddrV, ↓buildV, ↓buildSliceV, ↓sliceV, ↓appendV, ↓srcV, bound, cutTag, hiTag, fillG, fillE, place, GVal.cells, grp, GVal.ofConst, ↓resV, resG, List.map, List.headD, List.take, List.drop, ↓reduceIte, Nat.reduceEqDiff, Nat.reduceAdd, Nat.reduceSub, Nat.reduceLeDiff, reduceCtorEq, implies_true, ne_eq, ↓asrcV, Tag.cap, List.replicate, allSolid, GVal.solid, Nat.reduceBEq, Nat.reduceMul, Nat.reduceLT, List.length_map, List.length_range, splice, vcA, ↓vcB, vcC, fbFf, e41, d0, false_imp_iff, true_and]
      refine (sMake _ _ (by simp; omega) ho).then ?_ (by rfl)
      simp +contextual -implicitDefEqProofs (maxSteps := 2000000) (disch := omega) only [↓lenV, binV, optV, ↓loadV, ↓indexAddrV, ↓buildV, ↓buildSliceV, ↓sliceV, ↓appendV, ↓srcV, bound, cutTag, hiTag, fillG, fillE, place, GVal.cells, grp, GVal.ofConst, ↓resV, resG, List.map, List.headD, List.take, List.drop, ↓reduceIte, Nat.reduceEqDiff, Nat.reduceAdd, Nat.reduceSub, Nat.reduceLeDiff, reduceCtorEq, implies_true, ne_eq, ↓asrcV, Tag.cap, List.replicate, allSolid, GVal.solid, Nat.reduceBEq, Nat.reduceMul, Nat.reduceLT, List.length_map, List.length_range, splice, vcA, ↓vcB, vcC, fbFf, e41]

end Gv.Try
/- Contracts: IDs; the document's First, Last, Skip, IDs, Of. -/
set_option linter.unusedVariables false
set_option linter.unusedSimpArgs false
set_option maxRecDepth 20000
set_option maxHeartbeats 4000000
namespace Gv.Try
open Go Gv Go.Proofs
open Gv.Sp (Lim)
end Gv.Try
/- The laws of chapter 10: three sets. -/
set_option linter.unusedVariables false
set_option linter.unusedSimpArgs false
set_option maxRecDepth 20000
set_option maxHeartbeats 4000000
namespace Gv.Try
open Go Gv Go.Proofs
open Gv.Sp (Lim)
/-- raw numbers of the machine -/
def Ints (l : List Int) : Prop := l.length ≤ 9223372036854775807 ∧ ∀ i, -9223372036854775808 ≤ l.getD i 0 ∧ l.getD i 0 ≤ 9223372036854775807
end Gv.Try
/- Contracts: the document's IDs, Of, Skip; all of them for few spans. -/
set_option linter.unusedVariables false
set_option linter.unusedSimpArgs false
set_option maxRecDepth 20000
set_option maxHeartbeats 4000000
namespace Gv.Try
open Go Gv Go.Proofs
open Gv.Sp (Lim)

theorem Lim.first {a : List Sp.S} {m : Nat} (ha : Lim a m) (n : Int) : Lim (Sp.firstS (Sp.nf a) n) m := ⟨by have := Sp.first_len (Sp.nf a) n; have := Sp.nf_len a; have := ha.1; omega, Sp.first_ok (Sp.nf_rt a) (Sp.nf_ok ha.2) n⟩
theorem Lim.skip {a : List Sp.S} {m : Nat} (ha : Lim a m) (n : Int) : Lim (Sp.skipS (Sp.nf a) n) m := ⟨by have := Sp.skip_len (Sp.nf a) n; have := Sp.nf_len a; have := ha.1; omega, Sp.skip_ok (Sp.nf_rt a) (Sp.nf_ok ha.2) n⟩
theorem Lim.low {a : List Sp.S} {m : Nat} (ha : Lim a m) (n : Int) : Lim (Sp.lowF (Sp.nf a) n) m := ⟨by have := Sp.lowF_len (Sp.nf a) n; have := Sp.nf_len a; have := ha.1; omega, Sp.low_ok (Sp.nf_rt a) (Sp.nf_ok ha.2) n⟩
end Gv.Try
/- The plain law of growing. -/
set_option linter.unusedVariables false
set_option maxRecDepth 20000
set_option linter.unusedSimpArgs false
namespace Gv.Try
open Go Gv Go.Proofs

end Gv.Try

/- The law FlatGrows gives true. -/
set_option linter.unusedVariables false
set_option linter.unusedSimpArgs false
set_option maxRecDepth 20000
namespace Gv.Try
open Go Gv Go.Proofs

end Gv.Try

