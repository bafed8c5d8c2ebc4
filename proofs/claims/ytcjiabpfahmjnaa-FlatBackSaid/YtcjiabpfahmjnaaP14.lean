/- The law LevelSizes gives true. -/
import Derived.Test.YtcjiabpfahmjnaaP12
import Derived.Test.YtcjiabpfahmjnaaP11
import Derived.Test.YtcjiabpfahmjnaaP13
import Derived.Test.YtcjiabpfahmjnaaP6
import Derived.Test.YtcjiabpfahmjnaaProg
import Derived.KernelRfl
import Derived.ChangeArms
import Derived.Carry
import Derived.OpenShut
import Derived.SizedLaws
set_option linter.unusedVariables false
set_option linter.unusedSimpArgs false
set_option maxRecDepth 20000
set_option maxHeartbeats 8000000
namespace Gv.Try
open Go Gv Go.Proofs

theorem pick_bounds (n : Int) (m : Int) (h : 0 < m) : 0 ≤ n % m ∧ n % m < m := ⟨Int.emod_nonneg _ (by omega), Int.emod_lt_of_pos _ h⟩

theorem spec6 (x y : List Int) (size : Int) (c22 : GPure Try.prog 22 [] (.bool true)) : GPure Try.prog 6 [.agg [.slice (ints x) .none, .slice (ints y) .none], .int .i64 size] (.bool true) := by
  refine h6.pure mixS (by simp) ?_
  simp only [gstart, s6, List.cons_append, List.nil_append, List.length_cons, List.length_nil, Nat.reduceAdd, Nat.reduceSub, List.replicate_succ, List.replicate_zero]
  simp +contextual -implicitDefEqProofs (maxSteps := 2000000) (disch := omega) only [drawC, ↓lenV, binV, ↓unV, ↓loadV, ↓storeV, ↓fieldAddrV, ↓indexAddrV, ↓allocV, ↓boxV, GVal.cells, grp, GVal.ofConst, ↓resV, resG, List.map, List.headD, List.take, List.drop, ↓reduceIte, Nat.reduceEqDiff, Nat.reduceAdd, Nat.reduceSub, Nat.reduceLeDiff, reduceCtorEq, implies_true, ne_eq, aggV, Tag.cap, List.replicate, allSolid, GVal.solid, Nat.reduceBEq, Nat.reduceMul, Nat.reduceLT, List.length_map, List.length_range, splice, vcA, ↓vcB, vcC, fbA, e6]
  refine (spec11 x y .none .none).then ?_
  have hm := tabM_len x
  have ho := tabO_len x y
  have hr := raw_right x y
  have hrow := okRow_len hr
  generalize tabM x = m at *
  generalize tabO x y = o at *
  simp +contextual -implicitDefEqProofs (maxSteps := 2000000) (disch := omega) only [drawC, ↓lenV, binV, ↓unV, ↓loadV, ↓storeV, ↓fieldAddrV, ↓indexAddrV, ↓allocV, ↓boxV, GVal.cells, grp, GVal.ofConst, ↓resV, resG, List.map, List.headD, List.take, List.drop, ↓reduceIte, Nat.reduceEqDiff, Nat.reduceAdd, Nat.reduceSub, Nat.reduceLeDiff, reduceCtorEq, implies_true, ne_eq, aggV, Tag.cap, List.replicate, allSolid, GVal.solid, Nat.reduceBEq, Nat.reduceMul, Nat.reduceLT, List.length_map, List.length_range, splice, vcA, ↓vcB, vcC, fbA, e6]
  refine (rel24 m o (by omega) hrow).then ?_
  rintro g ⟨l, rfl, hl1, hl2, hl3⟩
  have hpk := pick_bounds size 6 (by omega)
  simp +contextual -implicitDefEqProofs (maxSteps := 2000000) (disch := omega) only [drawC, ↓lenV, binV, ↓unV, ↓loadV, ↓storeV, ↓fieldAddrV, ↓indexAddrV, ↓allocV, ↓boxV, GVal.cells, grp, GVal.ofConst, ↓resV, resG, List.map, List.headD, List.take, List.drop, ↓reduceIte, Nat.reduceEqDiff, Nat.reduceAdd, Nat.reduceSub, Nat.reduceLeDiff, reduceCtorEq, implies_true, ne_eq, aggV, Tag.cap, List.replicate, allSolid, GVal.solid, Nat.reduceBEq, Nat.reduceMul, Nat.reduceLT, List.length_map, List.length_range, splice, vcA, ↓vcB, vcC, fbA, e6]
  refine (spec25 size 6 (by omega) (by omega)).then ?_
  generalize size % 6 = q at *
  simp +contextual -implicitDefEqProofs (maxSteps := 2000000) (disch := omega) only [drawC, ↓lenV, binV, ↓unV, ↓loadV, ↓storeV, ↓fieldAddrV, ↓indexAddrV, ↓allocV, ↓boxV, GVal.cells, grp, GVal.ofConst, ↓resV, resG, List.map, List.headD, List.take, List.drop, ↓reduceIte, Nat.reduceEqDiff, Nat.reduceAdd, Nat.reduceSub, Nat.reduceLeDiff, reduceCtorEq, implies_true, ne_eq, aggV, Tag.cap, List.replicate, allSolid, GVal.solid, Nat.reduceBEq, Nat.reduceMul, Nat.reduceLT, List.length_map, List.length_range, splice, vcA, ↓vcB, vcC, fbA, e6]
  refine (rel21 l (2 + q) (by omega) (by omega) (by omega)).then ?_
  rintro g ⟨L, rfl, hL⟩
  have hsegs := hL.segs hl1
  obtain ⟨L1, L2, L3, L4, L5⟩ := hL
  simp +contextual -implicitDefEqProofs (maxSteps := 2000000) (disch := omega) only [drawC, ↓lenV, binV, ↓unV, ↓loadV, ↓storeV, ↓fieldAddrV, ↓indexAddrV, ↓allocV, ↓boxV, GVal.cells, grp, GVal.ofConst, ↓resV, resG, List.map, List.headD, List.take, List.drop, ↓reduceIte, Nat.reduceEqDiff, Nat.reduceAdd, Nat.reduceSub, Nat.reduceLeDiff, reduceCtorEq, implies_true, ne_eq, aggV, Tag.cap, List.replicate, allSolid, GVal.solid, Nat.reduceBEq, Nat.reduceMul, Nat.reduceLT, List.length_map, List.length_range, splice, vcA, ↓vcB, vcC, fbA, e6]
  refine c22.then ?_
  simp +contextual -implicitDefEqProofs (maxSteps := 2000000) (disch := omega) only [drawC, ↓lenV, binV, ↓unV, ↓loadV, ↓storeV, ↓fieldAddrV, ↓indexAddrV, ↓allocV, ↓boxV, GVal.cells, grp, GVal.ofConst, ↓resV, resG, List.map, List.headD, List.take, List.drop, ↓reduceIte, Nat.reduceEqDiff, Nat.reduceAdd, Nat.reduceSub, Nat.reduceLeDiff, reduceCtorEq, implies_true, ne_eq, aggV, Tag.cap, List.replicate, allSolid, GVal.solid, Nat.reduceBEq, Nat.reduceMul, Nat.reduceLT, List.length_map, List.length_range, splice, vcA, ↓vcB, vcC, fbA, e6, levsG_length]
  refine ⟨fun h => absurd h (by omega), fun _ => ?_⟩
  refine vcSLoop_by (ι := { i : Nat // 1 ≤ i ∧ i ≤ L.length }) (fun i => ⟨[.any, .int .i64 (2 + q), .any, .any, .any, .any, .slice (levsG L) .none, .int .i64 (i.1 : Nat)] ++ List.replicate 155 .any, []⟩) (fun i => L.length - i.1) ?_ ?_
  · exact Into.first ⟨1, by omega, by omega⟩ ⟨[], by simp⟩ (by simp [WL, leG_self, leG_any])
  · rintro ⟨i, hi1, hi2⟩
    simp +contextual -implicitDefEqProofs (maxSteps := 2000000) (disch := omega) only [drawC, ↓lenV, binV, ↓unV, ↓loadV, ↓storeV, ↓fieldAddrV, ↓indexAddrV, ↓allocV, ↓boxV, GVal.cells, grp, GVal.ofConst, ↓resV, resG, List.map, List.headD, List.take, List.drop, ↓reduceIte, Nat.reduceEqDiff, Nat.reduceAdd, Nat.reduceSub, Nat.reduceLeDiff, reduceCtorEq, implies_true, ne_eq, aggV, Tag.cap, List.replicate, allSolid, GVal.solid, Nat.reduceBEq, Nat.reduceMul, Nat.reduceLT, List.length_map, List.length_range, splice, vcA, ↓vcB, vcC, fbA, e6, levsG_length]
    intro h
    · have hup := (L4 (i - 1) (by omega)).1
      rw [show i - 1 + 1 = i by omega] at hup
      have so := hsegs (i - 1) (by omega)
      have bo := L5 (i - 1)
      have bo2 := L5 i
      have eA : (levsG L).getD i [] = [.slice (segsG (L.getD i [])) .none] := levsG_at L i (by omega)
      have eB : (levsG L).getD (i - 1) [] = [.slice (segsG (L.getD (i - 1) [])) .none] := levsG_at L (i - 1) (by omega)
      have ei : ((i : Int) - 1).toNat = i - 1 := by omega
      generalize L.getD (i - 1) [] = a at *
      generalize L.getD i [] = u at *
      refine vcSLoop_by (ι := { p : Nat × Nat // p.1 ≤ a.length ∧ p.2 ≤ u.length ∧ UpOK (2 + q) (a.drop p.1) (u.drop p.2) }) (fun p => ⟨[.any, .int .i64 (2 + q), .any, .any, .any, .any, .slice (levsG L) .none, .int .i64 (i : Nat), .int .i64 (p.1.1 : Nat), .int .i64 (p.1.2 : Nat)] ++ List.replicate 153 .any, []⟩) (fun p => u.length - p.1.2) ?_ ?_
      · exact Into.first ⟨(0, 0), by omega, by omega, by simpa using hup⟩ ⟨[], by simp⟩ (by simp [WL, leG_self, leG_any])
      · rintro ⟨⟨k, j⟩, hk, hj, hpq⟩
        change k ≤ a.length at hk
        change j ≤ u.length at hj
        change UpOK (2 + q) (a.drop k) (u.drop j) at hpq
        simp +contextual -implicitDefEqProofs (maxSteps := 2000000) (disch := omega) only [drawC, ↓lenV, binV, ↓unV, ↓loadV, ↓storeV, ↓fieldAddrV, ↓indexAddrV, ↓allocV, ↓boxV, GVal.cells, grp, GVal.ofConst, ↓resV, resG, List.map, List.headD, List.take, List.drop, ↓reduceIte, Nat.reduceEqDiff, Nat.reduceAdd, Nat.reduceSub, Nat.reduceLeDiff, reduceCtorEq, implies_true, ne_eq, aggV, Tag.cap, List.replicate, allSolid, GVal.solid, Nat.reduceBEq, Nat.reduceMul, Nat.reduceLT, List.length_map, List.length_range, splice, vcA, ↓vcB, vcC, fbA, e6, levsG_length, eA, eB, ei, segsG_length, segsG_at, segG]
        refine ⟨by omega, by omega, fun h2 => ⟨by omega, by omega, by omega, fun st => ?_⟩, fun h2 => ⟨by omega, by omega, fun h3 => absurd (UpOK.end_ hpq (by omega) hk) (by omega), fun h3 => ?_⟩⟩
        · obtain ⟨n, n1, n2, n3, slo, shi, shd, srt, sgrp, hnext⟩ := UpOK.at_ so hpq (by omega)
          have hsp : split = 1099511627776 := rfl
          generalize u.getD j default = s at *
          have okA := fun i (hi : i < a.length) => so.okAt hi
          refine vcSLoop_by (ι := { t : Nat // t ≤ n }) (fun t => ⟨[.any, .int .i64 (2 + q), .any, .any, .any, .any, .slice (levsG L) .none, .int .i64 (i : Nat), .int .i64 ((k + t.1 : Nat) : Int), .int .i64 (j : Nat), .ptr 0 st 0 0, .int .i64 (t.1 : Nat), .bool (anyR ((a.drop k).take t.1))] ++ List.replicate 150 .any, [.row st 5 [segG s]]⟩) (fun t => n - t.1) ?_ ?_
          · exact Into.first ⟨0, by omega⟩ ⟨[], by simp [segG]⟩ (by simp [WL, leG_self, leG_any, anyR])
          · rintro ⟨t, ht⟩
            have eT : ((k : Int) + (t : Int)).toNat = k + t := by omega
            by_cases htn : t < n
            · have hR := anyR_take (a.drop k) t (by rw [List.length_drop]; omega)
              rw [getD_drop'] at hR
              have g1 : s.lo ≤ (a.getD (k + t) default).lo := by
                rw [slo]
                by_cases e : t = 0
                · subst e; exact Int.le_refl _
                · have := so.lt (i := k) (j := k + t) (by omega) (by omega)
                  have := (okA k (by omega)).2.1
                  simp only at this; omega
              have g2 : (a.getD (k + t) default).hi ≤ s.hi := by
                rw [shi]
                by_cases e : t = n - 1
                · rw [e, show k + (n - 1) = k + n - 1 by omega]; exact Int.le_refl _
                · have := so.lt (i := k + t) (j := k + n - 1) (by omega) (by omega)
                  have := (okA (k + n - 1) (by omega)).2.1
                  simp only at this; omega
              have g3 : k + t < a.length := by omega
              have hC : (segsG a).getD (k + t) [] = segG (a.getD (k + t) default) := segsG_at _ _ g3
              have g4 := (okA (k + t) g3).2.1
              simp only at g4
              generalize a.getD (k + t) default = c at *
              have d0 : decide ((k : Int) + (t : Int) < (a.length : Int)) = true := decide_eq_true (by omega)
              have d1 : decide (s.lo ≤ c.lo) = true := decide_eq_true g1
              have d2 : decide (c.hi ≤ s.hi) = true := decide_eq_true g2
              cases hb : anyR ((a.drop k).take t)
              · rw [hb, Bool.false_or] at hR
                simp +contextual -implicitDefEqProofs (maxSteps := 2000000) (disch := omega) only [drawC, ↓lenV, binV, ↓unV, ↓loadV, ↓storeV, ↓fieldAddrV, ↓indexAddrV, ↓allocV, ↓boxV, GVal.cells, grp, GVal.ofConst, ↓resV, resG, List.map, List.headD, List.take, List.drop, ↓reduceIte, Nat.reduceEqDiff, Nat.reduceAdd, Nat.reduceSub, Nat.reduceLeDiff, reduceCtorEq, implies_true, ne_eq, aggV, Tag.cap, List.replicate, allSolid, GVal.solid, Nat.reduceBEq, Nat.reduceMul, Nat.reduceLT, List.length_map, List.length_range, splice, vcA, ↓vcB, vcC, fbA, e6, levsG_length, eA, eB, ei, segsG_length, hC, segG, eT, hb, d0, d1, d2]
                repeat (refine ⟨by omega, ?_⟩)
                exact Into.at ⟨t + 1, by omega⟩ (by show n - (t + 1) < n - t; omega) ⟨[], by simp [segG]⟩ (by simp [WL, leG_self, leG_any, leG_int, leG_bool, hR] <;> omega)
              · rw [hb, Bool.true_or] at hR
                simp +contextual -implicitDefEqProofs (maxSteps := 2000000) (disch := omega) only [drawC, ↓lenV, binV, ↓unV, ↓loadV, ↓storeV, ↓fieldAddrV, ↓indexAddrV, ↓allocV, ↓boxV, GVal.cells, grp, GVal.ofConst, ↓resV, resG, List.map, List.headD, List.take, List.drop, ↓reduceIte, Nat.reduceEqDiff, Nat.reduceAdd, Nat.reduceSub, Nat.reduceLeDiff, reduceCtorEq, implies_true, ne_eq, aggV, Tag.cap, List.replicate, allSolid, GVal.solid, Nat.reduceBEq, Nat.reduceMul, Nat.reduceLT, List.length_map, List.length_range, splice, vcA, ↓vcB, vcC, fbA, e6, levsG_length, eA, eB, ei, segsG_length, hC, segG, eT, hb, d0, d1, d2]
                repeat (refine ⟨by omega, ?_⟩)
                exact Into.at ⟨t + 1, by omega⟩ (by show n - (t + 1) < n - t; omega) ⟨[], by simp [segG]⟩ (by simp [WL, leG_self, leG_any, leG_int, leG_bool, hR] <;> omega)
            · have e : t = n := by omega
              subst e
              have eT1 : ((k : Int) + (t : Int) - 1).toNat = k + t - 1 := by omega
              have f1 : decide ((t : Int) < 1) = false := decide_eq_false (by omega)
              have f2 : decide (2 + q < (t : Int)) = false := decide_eq_false (by omega)
              have f3 : decide (s.hi < 1099511627776) = decide (s.lo < 1099511627776) := by rw [Bool.eq_iff_iff, decide_eq_true_iff, decide_eq_true_iff]; omega
              have hi' := shi.symm
              have hd' := shd.symm
              by_cases hlt : k + t < a.length
              · have h1 := so.lt (i := k + t - 1) (j := k + t) (by omega) hlt
                have h3 := (okA (k + t) hlt).2.1
                have h4 := so.lt (i := k) (j := k + t) (by omega) hlt
                have h5 := (okA k (by omega)).2.1
                simp only at h3 h5
                have d0 : decide ((k : Int) + (t : Int) < (a.length : Int)) = true := decide_eq_true (by omega)
                have d1 : decide (s.lo ≤ (a.getD (k + t) default).lo) = true := decide_eq_true (by omega)
                have d2 : decide ((a.getD (k + t) default).hi ≤ s.hi) = false := decide_eq_false (by omega)
                simp +contextual -implicitDefEqProofs (maxSteps := 2000000) (disch := omega) only [drawC, ↓lenV, binV, ↓unV, ↓loadV, ↓storeV, ↓fieldAddrV, ↓indexAddrV, ↓allocV, ↓boxV, GVal.cells, grp, GVal.ofConst, ↓resV, resG, List.map, List.headD, List.take, List.drop, ↓reduceIte, Nat.reduceEqDiff, Nat.reduceAdd, Nat.reduceSub, Nat.reduceLeDiff, reduceCtorEq, implies_true, ne_eq, aggV, Tag.cap, List.replicate, allSolid, GVal.solid, Nat.reduceBEq, Nat.reduceMul, Nat.reduceLT, List.length_map, List.length_range, splice, vcA, ↓vcB, vcC, fbA, e6, levsG_length, eA, eB, ei, segsG_length, segsG_at, segG, eT, eT1, d0, d1, d2, f1, f2, f3, hi', hd', srt, bne_self_eq_false]
                repeat (refine ⟨by omega, ?_⟩)
                exact Into.at ⟨(k + t, j + 1), by show k + t ≤ _; omega, by show j + 1 ≤ _; omega, hnext⟩ (by show u.length - (j + 1) < u.length - j; omega) ⟨_, rfl⟩ (by simp [WL, leG_self, leG_any, leG_int] <;> omega)
              · have d0 : decide ((k : Int) + (t : Int) < (a.length : Int)) = false := decide_eq_false (by omega)
                simp +contextual -implicitDefEqProofs (maxSteps := 2000000) (disch := omega) only [drawC, ↓lenV, binV, ↓unV, ↓loadV, ↓storeV, ↓fieldAddrV, ↓indexAddrV, ↓allocV, ↓boxV, GVal.cells, grp, GVal.ofConst, ↓resV, resG, List.map, List.headD, List.take, List.drop, ↓reduceIte, Nat.reduceEqDiff, Nat.reduceAdd, Nat.reduceSub, Nat.reduceLeDiff, reduceCtorEq, implies_true, ne_eq, aggV, Tag.cap, List.replicate, allSolid, GVal.solid, Nat.reduceBEq, Nat.reduceMul, Nat.reduceLT, List.length_map, List.length_range, splice, vcA, ↓vcB, vcC, fbA, e6, levsG_length, eA, eB, ei, segsG_length, segsG_at, segG, eT, eT1, d0, f1, f2, f3, hi', hd', srt, bne_self_eq_false]
                repeat (refine ⟨by omega, ?_⟩)
                exact Into.at ⟨(k + t, j + 1), by show k + t ≤ _; omega, by show j + 1 ≤ _; omega, hnext⟩ (by show u.length - (j + 1) < u.length - j; omega) ⟨_, rfl⟩ (by simp [WL, leG_self, leG_any, leG_int] <;> omega)
        · exact Into.at ⟨i + 1, by omega, by omega⟩ (by show _ < _; simp; omega) ⟨[], by simp⟩ (by simp [WL, leG_self, leG_any, leG_int])

end Gv.Try
/- The law FlatBuilds gives true. -/
set_option linter.unusedVariables false
set_option linter.unusedSimpArgs false
set_option maxRecDepth 20000
set_option maxHeartbeats 16000000
namespace Gv.Try
open Go Gv Go.Proofs

/-- a table of few rows -/
def fewT (m o : List (List Int)) : Prop := m.length ≤ 25 ∧ o.length ≤ 25 ∧ (∀ p ∈ m, p.length ≤ 1000) ∧ ∀ p ∈ o, p.length ≤ 1000
theorem right_few {m o : List (List Int)} (hm : m.length ≤ 25) (ho : o.length ≤ 25) (hr : rightI m o = true) : fewT m o := by
  rw [rightI, Bool.and_eq_true] at hr
  exact ⟨hm, ho, fun p hp => by have := okG_row hr.1 p hp; omega, fun p hp => by have := okG_row hr.2 p hp; omega⟩
theorem rows_at {m : List (List Int)} {n : Nat} (h : ∀ p ∈ m, p.length ≤ n) (i : Nat) : (m.getD i []).length ≤ n := by
  by_cases hi : i < m.length
  · rw [List.getD_eq_getElem?_getD, List.getElem?_eq_getElem hi]; exact h _ (List.getElem_mem hi)
  · rw [List.getD_eq_getElem?_getD, List.getElem?_eq_none (by omega)]; simp
theorem bent_few {m o : List (List Int)} (how : Int) (h : fewT m o) (h4 : ∀ p ∈ m, p.length ≤ 4) : fewT (bentM m how) o := by
  obtain ⟨h1, h2, h3, h5⟩ := h
  refine ⟨?_, h2, fun p hp => ?_, h5⟩
  · rw [bentM]; split
    · simp
    · rw [List.length_set]; exact h1
  · rw [bentM] at hp
    split at hp
    · simp at hp; subst hp; simp
    · rcases List.mem_or_eq_of_mem_set hp with hp | hp
      · exact h3 p hp
      · have := rows_at h4 (bentK m how)
        rw [hp, bentR]
        repeat' split
        all_goals first | (simp; done) | (rw [List.length_append]; omega)

theorem spec10 (x y : List Int) (id how : Int) (c15 : GPure Try.prog 15 [] (.bool true)) : GPure Try.prog 10 [.agg [.slice (ints x) .none, .slice (ints y) .none], .int .i64 id, .int .i64 how] (.bool true) := by
  refine h10.pure mixS (by simp) ?_
  simp only [gstart, s10, List.cons_append, List.nil_append, List.length_cons, List.length_nil, Nat.reduceAdd, Nat.reduceSub, List.replicate_succ, List.replicate_zero]
  simp +contextual -implicitDefEqProofs (maxSteps := 2000000) (disch := omega) only [drawC, ↓lenV, binV, ↓unV, ↓loadV, ↓storeV, ↓allocV, ↓boxV, GVal.cells, grp, GVal.ofConst, ↓resV, resG, List.map, List.headD, List.take, List.drop, ↓reduceIte, Nat.reduceEqDiff, Nat.reduceAdd, Nat.reduceSub, Nat.reduceLeDiff, reduceCtorEq, implies_true, ne_eq, aggV, Tag.cap, List.replicate, allSolid, GVal.solid, Nat.reduceBEq, Nat.reduceMul, Nat.reduceLT, List.length_map, List.length_range, splice, vcA, ↓vcB, vcC, fbA, fbE, fbG, e10]
  refine (spec11 x y .none .none).then ?_
  have hr0 := raw_right x y
  have f0 := right_few (tabM_len x) (tabO_len x y) hr0
  have h4 : ∀ p ∈ tabM x, p.length ≤ 4 := fun p hp => by
    rw [rightI, Bool.and_eq_true] at hr0; exact okG_row hr0.1 p hp
  have f1 := fun how => bent_few how f0 h4
  have c36 := fun how => spec36 (tabM x) (tabO x y) how (by have := f0.1; omega) (rows_at f0.2.2.1)
  clear hr0 h4
  generalize tabM x = m0 at *
  generalize tabO x y = o at *
  simp +contextual -implicitDefEqProofs (maxSteps := 2000000) (disch := omega) only [drawC, ↓lenV, binV, ↓unV, ↓loadV, ↓storeV, ↓allocV, ↓boxV, GVal.cells, grp, GVal.ofConst, ↓resV, resG, List.map, List.headD, List.take, List.drop, ↓reduceIte, Nat.reduceEqDiff, Nat.reduceAdd, Nat.reduceSub, Nat.reduceLeDiff, reduceCtorEq, implies_true, ne_eq, aggV, Tag.cap, List.replicate, allSolid, GVal.solid, Nat.reduceBEq, Nat.reduceMul, Nat.reduceLT, List.length_map, List.length_range, splice, vcA, ↓vcB, vcC, fbA, fbE, fbG, e10]
  intro st
  refine (spec25 how 9 (by omega) (by omega)).then ?_
  simp +contextual -implicitDefEqProofs (maxSteps := 2000000) (disch := omega) only [drawC, ↓lenV, binV, ↓unV, ↓loadV, ↓storeV, ↓allocV, ↓boxV, GVal.cells, grp, GVal.ofConst, ↓resV, resG, List.map, List.headD, List.take, List.drop, ↓reduceIte, Nat.reduceEqDiff, Nat.reduceAdd, Nat.reduceSub, Nat.reduceLeDiff, reduceCtorEq, implies_true, ne_eq, aggV, Tag.cap, List.replicate, allSolid, GVal.solid, Nat.reduceBEq, Nat.reduceMul, Nat.reduceLT, List.length_map, List.length_range, splice, vcA, ↓vcB, vcC, fbA, fbE, fbG, e10]
  refine ⟨fun hb => ⟨by omega, (c36 _).then ?_⟩, fun hb => ?_⟩
  have f := f1 (norm .i64 (how.tdiv 9))
  generalize bentM m0 (norm .i64 (how.tdiv 9)) = m at *
  simp +contextual -implicitDefEqProofs (maxSteps := 2000000) (disch := omega) only [drawC, ↓lenV, binV, ↓unV, ↓loadV, ↓storeV, ↓allocV, ↓boxV, GVal.cells, grp, GVal.ofConst, ↓resV, resG, List.map, List.headD, List.take, List.drop, ↓reduceIte, Nat.reduceEqDiff, Nat.reduceAdd, Nat.reduceSub, Nat.reduceLeDiff, reduceCtorEq, implies_true, ne_eq, aggV, Tag.cap, List.replicate, allSolid, GVal.solid, Nat.reduceBEq, Nat.reduceMul, Nat.reduceLT, List.length_map, List.length_range, splice, vcA, ↓vcB, vcC, fbA, fbE, fbG, e10]
  clear f0
  rotate_left
  have f := f0
  generalize m0 = m at *
  clear f0
  all_goals
    clear f1 c36
    obtain ⟨f1, f2, f3, f4⟩ := f
    have f3' : ∀ p ∈ m, p.length ≤ 17592186044416 := fun p hp => by have := f3 p hp; omega
    have f4' : ∀ p ∈ o, p.length ≤ 17592186044416 := fun p hp => by have := f4 p hp; omega
    have c34 := spec34 m o .none .none (by omega) (by omega) f3' f4'
    have c37 := spec37 m o .none .none (by omega) (by omega)
    have c12 := spec12 m o .none .none (by omega) (by omega) f3' f4'
    refine (spec13 (tabG m) (tabG o) .none .none).then ?_
    simp +contextual -implicitDefEqProofs (maxSteps := 2000000) (disch := omega) only [drawC, ↓lenV, binV, ↓unV, ↓loadV, ↓storeV, ↓allocV, ↓boxV, GVal.cells, grp, GVal.ofConst, ↓resV, resG, List.map, List.headD, List.take, List.drop, ↓reduceIte, Nat.reduceEqDiff, Nat.reduceAdd, Nat.reduceSub, Nat.reduceLeDiff, reduceCtorEq, implies_true, ne_eq, aggV, Tag.cap, List.replicate, allSolid, GVal.solid, Nat.reduceBEq, Nat.reduceMul, Nat.reduceLT, List.length_map, List.length_range, splice, vcA, ↓vcB, vcC, fbA, fbE, fbG, e10]
    intro st2
    cases hr : rightI m o
    · rw [hr] at c34 c37
      have eb : buildI m o = [] := by rw [buildI, hr, if_neg (by simp)]
      rw [eb] at c12
      refine c34.then ?_
      simp +contextual -implicitDefEqProofs (maxSteps := 2000000) (disch := omega) only [drawC, ↓lenV, binV, ↓unV, ↓loadV, ↓storeV, ↓allocV, ↓boxV, GVal.cells, grp, GVal.ofConst, ↓resV, resG, List.map, List.headD, List.take, List.drop, ↓reduceIte, Nat.reduceEqDiff, Nat.reduceAdd, Nat.reduceSub, Nat.reduceLeDiff, reduceCtorEq, implies_true, ne_eq, aggV, Tag.cap, List.replicate, allSolid, GVal.solid, Nat.reduceBEq, Nat.reduceMul, Nat.reduceLT, List.length_map, List.length_range, splice, vcA, ↓vcB, vcC, fbA, fbE, fbG, e10]
      refine ⟨⟨[], by simp⟩, ?_⟩
      refine c37.then ?_
      simp +contextual -implicitDefEqProofs (maxSteps := 2000000) (disch := omega) only [drawC, ↓lenV, binV, ↓unV, ↓loadV, ↓storeV, ↓allocV, ↓boxV, GVal.cells, grp, GVal.ofConst, ↓resV, resG, List.map, List.headD, List.take, List.drop, ↓reduceIte, Nat.reduceEqDiff, Nat.reduceAdd, Nat.reduceSub, Nat.reduceLeDiff, reduceCtorEq, implies_true, ne_eq, aggV, Tag.cap, List.replicate, allSolid, GVal.solid, Nat.reduceBEq, Nat.reduceMul, Nat.reduceLT, List.length_map, List.length_range, splice, vcA, ↓vcB, vcC, fbA, fbE, fbG, e10]
      refine c12.then ?_
      simp +contextual -implicitDefEqProofs (maxSteps := 2000000) (disch := omega) only [drawC, ↓lenV, binV, ↓unV, ↓loadV, ↓storeV, ↓allocV, ↓boxV, GVal.cells, grp, GVal.ofConst, ↓resV, resG, List.map, List.headD, List.take, List.drop, ↓reduceIte, Nat.reduceEqDiff, Nat.reduceAdd, Nat.reduceSub, Nat.reduceLeDiff, reduceCtorEq, implies_true, ne_eq, aggV, Tag.cap, List.replicate, allSolid, GVal.solid, Nat.reduceBEq, Nat.reduceMul, Nat.reduceLT, List.length_map, List.length_range, splice, vcA, ↓vcB, vcC, fbA, fbE, fbG, e10]
      refine c37.then ?_
      simp +contextual -implicitDefEqProofs (maxSteps := 2000000) (disch := omega) only [drawC, ↓lenV, binV, ↓unV, ↓loadV, ↓storeV, ↓allocV, ↓boxV, GVal.cells, grp, GVal.ofConst, ↓resV, resG, List.map, List.headD, List.take, List.drop, ↓reduceIte, Nat.reduceEqDiff, Nat.reduceAdd, Nat.reduceSub, Nat.reduceLeDiff, reduceCtorEq, implies_true, ne_eq, aggV, Tag.cap, List.replicate, allSolid, GVal.solid, Nat.reduceBEq, Nat.reduceMul, Nat.reduceLT, List.length_map, List.length_range, splice, vcA, ↓vcB, vcC, fbA, fbE, fbG, e10]
      refine c15.then ?_
      simp +contextual -implicitDefEqProofs (maxSteps := 2000000) (disch := omega) only [drawC, ↓lenV, binV, ↓unV, ↓loadV, ↓storeV, ↓allocV, ↓boxV, GVal.cells, grp, GVal.ofConst, ↓resV, resG, List.map, List.headD, List.take, List.drop, ↓reduceIte, Nat.reduceEqDiff, Nat.reduceAdd, Nat.reduceSub, Nat.reduceLeDiff, reduceCtorEq, implies_true, ne_eq, aggV, Tag.cap, List.replicate, allSolid, GVal.solid, Nat.reduceBEq, Nat.reduceMul, Nat.reduceLT, List.length_map, List.length_range, splice, vcA, ↓vcB, vcC, fbA, fbE, fbG, e10, segsG_length]
    · rw [hr] at c34 c37
      refine c34.then ?_
      simp +contextual -implicitDefEqProofs (maxSteps := 2000000) (disch := omega) only [drawC, ↓lenV, binV, ↓unV, ↓loadV, ↓storeV, ↓allocV, ↓boxV, GVal.cells, grp, GVal.ofConst, ↓resV, resG, List.map, List.headD, List.take, List.drop, ↓reduceIte, Nat.reduceEqDiff, Nat.reduceAdd, Nat.reduceSub, Nat.reduceLeDiff, reduceCtorEq, implies_true, ne_eq, aggV, Tag.cap, List.replicate, allSolid, GVal.solid, Nat.reduceBEq, Nat.reduceMul, Nat.reduceLT, List.length_map, List.length_range, splice, vcA, ↓vcB, vcC, fbA, fbE, fbG, e10]
      refine ⟨⟨[], by simp⟩, ?_⟩
      refine c37.then ?_
      simp +contextual -implicitDefEqProofs (maxSteps := 2000000) (disch := omega) only [drawC, ↓lenV, binV, ↓unV, ↓loadV, ↓storeV, ↓allocV, ↓boxV, GVal.cells, grp, GVal.ofConst, ↓resV, resG, List.map, List.headD, List.take, List.drop, ↓reduceIte, Nat.reduceEqDiff, Nat.reduceAdd, Nat.reduceSub, Nat.reduceLeDiff, reduceCtorEq, implies_true, ne_eq, aggV, Tag.cap, List.replicate, allSolid, GVal.solid, Nat.reduceBEq, Nat.reduceMul, Nat.reduceLT, List.length_map, List.length_range, splice, vcA, ↓vcB, vcC, fbA, fbE, fbG, e10]
      refine c12.then ?_
      simp +contextual -implicitDefEqProofs (maxSteps := 2000000) (disch := omega) only [drawC, ↓lenV, binV, ↓unV, ↓loadV, ↓storeV, ↓allocV, ↓boxV, GVal.cells, grp, GVal.ofConst, ↓resV, resG, List.map, List.headD, List.take, List.drop, ↓reduceIte, Nat.reduceEqDiff, Nat.reduceAdd, Nat.reduceSub, Nat.reduceLeDiff, reduceCtorEq, implies_true, ne_eq, aggV, Tag.cap, List.replicate, allSolid, GVal.solid, Nat.reduceBEq, Nat.reduceMul, Nat.reduceLT, List.length_map, List.length_range, splice, vcA, ↓vcB, vcC, fbA, fbE, fbG, e10]
      refine c37.then ?_
      have hrow := okRow_len hr
      have bs := build_segs m o (by omega) (by omega) hr
      have c24 := spec24 m o (by omega) hr hrow (fun s hs => by
        obtain ⟨i, hi, rfl⟩ := List.getElem_of_mem hs
        have := bs i
        rw [List.getD_eq_getElem?_getD, List.getElem?_eq_getElem hi] at this
        exact ⟨this.1, this.2.1, this.2.2.1⟩)
      have bl := build_len m o
      have bsr := build_sorted (m := m) (o := o) (by omega) (by omega) hr
      have bp := fun id => build_par (m := m) (o := o) (by omega) (by omega) hr id
      have c27 := spec27 (buildI m o) .none (by omega) (fun i => by have := (bs i).2.2.2; omega) (fun i => by have := (bs i).2.2.1; have hs : split = 1099511627776 := rfl; omega)
      rw [back_build (by omega) hr] at c27
      have c29 := spec29 m o m o .none .none .none .none (by omega) (by omega) (rows_at f3') (rows_at f4')
      have c16 := fun id => spec16 m o .none .none id (by omega) (by omega)
      generalize buildI m o = l at *
      simp +contextual -implicitDefEqProofs (maxSteps := 2000000) (disch := omega) only [drawC, ↓lenV, binV, ↓unV, ↓loadV, ↓storeV, ↓allocV, ↓boxV, GVal.cells, grp, GVal.ofConst, ↓resV, resG, List.map, List.headD, List.take, List.drop, ↓reduceIte, Nat.reduceEqDiff, Nat.reduceAdd, Nat.reduceSub, Nat.reduceLeDiff, reduceCtorEq, implies_true, ne_eq, aggV, Tag.cap, List.replicate, allSolid, GVal.solid, Nat.reduceBEq, Nat.reduceMul, Nat.reduceLT, List.length_map, List.length_range, splice, vcA, ↓vcB, vcC, fbA, fbE, fbG, e10]
      refine c24.then ?_
      simp +contextual -implicitDefEqProofs (maxSteps := 2000000) (disch := omega) only [drawC, ↓lenV, binV, ↓unV, ↓loadV, ↓storeV, ↓allocV, ↓boxV, GVal.cells, grp, GVal.ofConst, ↓resV, resG, List.map, List.headD, List.take, List.drop, ↓reduceIte, Nat.reduceEqDiff, Nat.reduceAdd, Nat.reduceSub, Nat.reduceLeDiff, reduceCtorEq, implies_true, ne_eq, aggV, Tag.cap, List.replicate, allSolid, GVal.solid, Nat.reduceBEq, Nat.reduceMul, Nat.reduceLT, List.length_map, List.length_range, splice, vcA, ↓vcB, vcC, fbA, fbE, fbG, e10]
      refine (spec25 id 60 (by omega) (by omega)).then ?_
      have hpk := pick_bounds id 60 (by omega)
      generalize id % 60 = q at *
      simp +contextual -implicitDefEqProofs (maxSteps := 2000000) (disch := omega) only [drawC, ↓lenV, binV, ↓unV, ↓loadV, ↓storeV, ↓allocV, ↓boxV, GVal.cells, grp, GVal.ofConst, ↓resV, resG, List.map, List.headD, List.take, List.drop, ↓reduceIte, Nat.reduceEqDiff, Nat.reduceAdd, Nat.reduceSub, Nat.reduceLeDiff, reduceCtorEq, implies_true, ne_eq, aggV, Tag.cap, List.replicate, allSolid, GVal.solid, Nat.reduceBEq, Nat.reduceMul, Nat.reduceLT, List.length_map, List.length_range, splice, vcA, ↓vcB, vcC, fbA, fbE, fbG, e10]
      refine ⟨by omega, fun hq => ?_, fun hq => ?_⟩
      generalize hid : q - 3 + 1099511627776 = id' at *
      rotate_left
      generalize hid : q - 3 = id' at *
      all_goals
        have c33 := spec33 l .none id' (fnd id' l 0) (by omega) (fun k hk => ends_fnd bsr id' k hk)
        have c38 := spec38 l .none id' (by omega)
        have c35 := spec35 l .none id' (fnd id' l 0) (by omega) (fun i => by have := (bs i).2.2.2; omega) (fun k hk => ends_fnd bsr id' k hk) (bp id').2 (by omega)
        have c39 := spec39 l l .none .none (by omega) (fun i => by have := (bs i).2.2.2; omega)
        rw [(bp id').1] at c35
        rw [decide_eq_true rfl] at c39
        rw [decide_eq_true ⟨rfl, rfl⟩] at c29
        have c16 := c16 id'
        have hrow := hrow id'
        generalize parI m o id' = p at *
        have c17 := spec17 p p .none .none (by omega)
        rw [beq_self_eq_true] at c17
        clear bsr bp bs
        generalize fnd id' l 0 = r at *
        obtain ⟨rk, rb⟩ := r
        refine c33.then ?_
        simp +contextual -implicitDefEqProofs (maxSteps := 2000000) (disch := omega) only [drawC, ↓lenV, binV, ↓unV, ↓loadV, ↓storeV, ↓allocV, ↓boxV, GVal.cells, grp, GVal.ofConst, ↓resV, resG, List.map, List.headD, List.take, List.drop, ↓reduceIte, Nat.reduceEqDiff, Nat.reduceAdd, Nat.reduceSub, Nat.reduceLeDiff, reduceCtorEq, implies_true, ne_eq, aggV, Tag.cap, List.replicate, allSolid, GVal.solid, Nat.reduceBEq, Nat.reduceMul, Nat.reduceLT, List.length_map, List.length_range, splice, vcA, ↓vcB, vcC, fbA, fbE, fbG, e10]
        refine c38.then ?_
        simp +contextual -implicitDefEqProofs (maxSteps := 2000000) (disch := omega) only [drawC, ↓lenV, binV, ↓unV, ↓loadV, ↓storeV, ↓allocV, ↓boxV, GVal.cells, grp, GVal.ofConst, ↓resV, resG, List.map, List.headD, List.take, List.drop, ↓reduceIte, Nat.reduceEqDiff, Nat.reduceAdd, Nat.reduceSub, Nat.reduceLeDiff, reduceCtorEq, implies_true, ne_eq, aggV, Tag.cap, List.replicate, allSolid, GVal.solid, Nat.reduceBEq, Nat.reduceMul, Nat.reduceLT, List.length_map, List.length_range, splice, vcA, ↓vcB, vcC, fbA, fbE, fbG, e10]
        refine c16.then ?_
        simp +contextual -implicitDefEqProofs (maxSteps := 2000000) (disch := omega) only [drawC, ↓lenV, binV, ↓unV, ↓loadV, ↓storeV, ↓allocV, ↓boxV, GVal.cells, grp, GVal.ofConst, ↓resV, resG, List.map, List.headD, List.take, List.drop, ↓reduceIte, Nat.reduceEqDiff, Nat.reduceAdd, Nat.reduceSub, Nat.reduceLeDiff, reduceCtorEq, implies_true, ne_eq, aggV, Tag.cap, List.replicate, allSolid, GVal.solid, Nat.reduceBEq, Nat.reduceMul, Nat.reduceLT, List.length_map, List.length_range, splice, vcA, ↓vcB, vcC, fbA, fbE, fbG, e10]
        refine c27.then ?_
        simp only [pairTG, tabOf, tgOf, Option.isSome_some]
        simp +contextual -implicitDefEqProofs (maxSteps := 2000000) (disch := omega) only [drawC, ↓lenV, binV, ↓unV, ↓loadV, ↓storeV, ↓allocV, ↓boxV, GVal.cells, grp, GVal.ofConst, ↓resV, resG, List.map, List.headD, List.take, List.drop, ↓reduceIte, Nat.reduceEqDiff, Nat.reduceAdd, Nat.reduceSub, Nat.reduceLeDiff, reduceCtorEq, implies_true, ne_eq, aggV, Tag.cap, List.replicate, allSolid, GVal.solid, Nat.reduceBEq, Nat.reduceMul, Nat.reduceLT, List.length_map, List.length_range, splice, vcA, ↓vcB, vcC, fbA, fbE, fbG, e10]
        intro st3
        refine c15.then ?_
        simp +contextual -implicitDefEqProofs (maxSteps := 2000000) (disch := omega) only [drawC, ↓lenV, binV, ↓unV, ↓loadV, ↓storeV, ↓allocV, ↓boxV, GVal.cells, grp, GVal.ofConst, ↓resV, resG, List.map, List.headD, List.take, List.drop, ↓reduceIte, Nat.reduceEqDiff, Nat.reduceAdd, Nat.reduceSub, Nat.reduceLeDiff, reduceCtorEq, implies_true, ne_eq, aggV, Tag.cap, List.replicate, allSolid, GVal.solid, Nat.reduceBEq, Nat.reduceMul, Nat.reduceLT, List.length_map, List.length_range, splice, vcA, ↓vcB, vcC, fbA, fbE, fbG, e10]
        refine c39.then ?_
        simp +contextual -implicitDefEqProofs (maxSteps := 2000000) (disch := omega) only [drawC, ↓lenV, binV, ↓unV, ↓loadV, ↓storeV, ↓allocV, ↓boxV, GVal.cells, grp, GVal.ofConst, ↓resV, resG, List.map, List.headD, List.take, List.drop, ↓reduceIte, Nat.reduceEqDiff, Nat.reduceAdd, Nat.reduceSub, Nat.reduceLeDiff, reduceCtorEq, implies_true, ne_eq, aggV, Tag.cap, List.replicate, allSolid, GVal.solid, Nat.reduceBEq, Nat.reduceMul, Nat.reduceLT, List.length_map, List.length_range, splice, vcA, ↓vcB, vcC, fbA, fbE, fbG, e10]
        refine c35.then ?_
        simp +contextual -implicitDefEqProofs (maxSteps := 2000000) (disch := omega) only [drawC, ↓lenV, binV, ↓unV, ↓loadV, ↓storeV, ↓allocV, ↓boxV, GVal.cells, grp, GVal.ofConst, ↓resV, resG, List.map, List.headD, List.take, List.drop, ↓reduceIte, Nat.reduceEqDiff, Nat.reduceAdd, Nat.reduceSub, Nat.reduceLeDiff, reduceCtorEq, implies_true, ne_eq, aggV, Tag.cap, List.replicate, allSolid, GVal.solid, Nat.reduceBEq, Nat.reduceMul, Nat.reduceLT, List.length_map, List.length_range, splice, vcA, ↓vcB, vcC, fbA, fbE, fbG, e10]
        refine c17.then ?_
        simp +contextual -implicitDefEqProofs (maxSteps := 2000000) (disch := omega) only [drawC, ↓lenV, binV, ↓unV, ↓loadV, ↓storeV, ↓allocV, ↓boxV, GVal.cells, grp, GVal.ofConst, ↓resV, resG, List.map, List.headD, List.take, List.drop, ↓reduceIte, Nat.reduceEqDiff, Nat.reduceAdd, Nat.reduceSub, Nat.reduceLeDiff, reduceCtorEq, implies_true, ne_eq, aggV, Tag.cap, List.replicate, allSolid, GVal.solid, Nat.reduceBEq, Nat.reduceMul, Nat.reduceLT, List.length_map, List.length_range, splice, vcA, ↓vcB, vcC, fbA, fbE, fbG, e10]
        refine c29.then ?_
        simp +contextual -implicitDefEqProofs (maxSteps := 2000000) (disch := omega) only [drawC, ↓lenV, binV, ↓unV, ↓loadV, ↓storeV, ↓allocV, ↓boxV, GVal.cells, grp, GVal.ofConst, ↓resV, resG, List.map, List.headD, List.take, List.drop, ↓reduceIte, Nat.reduceEqDiff, Nat.reduceAdd, Nat.reduceSub, Nat.reduceLeDiff, reduceCtorEq, implies_true, ne_eq, aggV, Tag.cap, List.replicate, allSolid, GVal.solid, Nat.reduceBEq, Nat.reduceMul, Nat.reduceLT, List.length_map, List.length_range, splice, vcA, ↓vcB, vcC, fbA, fbE, fbG, e10]

end Gv.Try
/- The law FlatBack gives true. -/
set_option linter.unusedVariables false
set_option linter.unusedSimpArgs false
set_option maxRecDepth 20000
set_option maxHeartbeats 8000000
namespace Gv.Try
open Go Gv Go.Proofs

theorem bfold_len {t' : Tab} : ∀ (l : List Seg) (t : Tab), t.1.length + t.2.length ≤ 1000 → bfold t l = some t' → t'.1.length + t'.2.length ≤ 1000
  | [], t, h, e => by simp only [bfold, Option.some.injEq] at e; subst e; exact h
  | s :: r, t, h, e => by
    rw [bfold] at e
    cases hb : bstep t s with
    | none => rw [hb] at e; cases e
    | some t2 =>
      rw [hb] at e
      refine bfold_len r t2 ?_ e
      unfold bstep at hb
      have hr : roomT t = 1000 - (t.1.length : Int) - (t.2.length : Int) := rfl
      have hl := rowsS_len s
      split at hb
      · split at hb
        · rename_i hp; simp only [Option.some.injEq] at hb; subst hb
          have hp := of_decide_eq_true hp
          show (t.1 ++ rowsS s).length + t.2.length ≤ _
          rw [List.length_append]; omega
        · cases hb
      · split at hb
        · rename_i hp; simp only [Option.some.injEq] at hb; subst hb
          have hp := of_decide_eq_true hp
          show t.1.length + (t.2 ++ rowsS s).length ≤ _
          rw [List.length_append]; omega
        · cases hb
/-- a master segment behind another one's -/
def late : Bool → List Seg → Prop
  | _, [] => False
  | b, s :: r => (b = true ∧ s.lo < 1099511627776) ∨ late (b || decide (1099511627776 ≤ s.lo)) r
theorem late_sorted : ∀ (l : List Seg) (b : Bool), (b = true → ∀ s ∈ l, 1099511627776 ≤ s.lo) → SortedS l → ¬ late b l
  | [], b, _, _ => fun h => h
  | s :: r, b, hb, hp => by
    rw [late]
    rintro (⟨h1, h2⟩ | h)
    · have := hb h1 s (by simp); omega
    · refine late_sorted r _ (fun e q hq => ?_) hp.2.2 h
      rw [Bool.or_eq_true] at e
      rcases e with e | e
      · exact hb e q (by simp [hq])
      · have := hp.2.1 q hq; have := hp.1; have e := of_decide_eq_true e; omega
theorem fold_same : ∀ (l : List Seg) (t : Tab), t.1.length + t.2.length ≤ 1000 → rfold t l = bfold t l ∨ late (decide (t.2 ≠ [])) l
  | [], t, _ => .inl rfl
  | s :: r, t, h => by
    by_cases hl : t.2 ≠ [] ∧ s.lo < 1099511627776
    · exact .inr (by rw [late]; exact .inl ⟨decide_eq_true hl.1, hl.2⟩)
    have e : rstep t s = bstep t s := by
      unfold rstep bstep
      by_cases c : s.lo < 1099511627776
      · have h2 : t.2 = [] := by
          by_cases q : t.2 = []
          · exact q
          · exact absurd ⟨q, c⟩ hl
        rw [if_pos c]
        by_cases q : putOK s (t.1.length : Int) (roomT t) = true
        · rw [if_pos q]
          have q := of_decide_eq_true q
          rw [if_pos q.2, if_pos ⟨q.1, h2⟩]
        · rw [if_neg q]
          split
          · rename_i q2
            rw [if_neg (fun h3 => q (decide_eq_true ⟨h3.1, q2⟩)), if_neg (by omega)]
          · rfl
      · rw [if_neg c]
        by_cases q : putOK s (1099511627776 + (t.2.length : Int)) (roomT t) = true
        · rw [if_pos q]
          have q := of_decide_eq_true q
          rw [if_pos q.2, if_neg (fun h3 => by have := h3.1; omega), if_pos q.1]
        · rw [if_neg q]
          split
          · rename_i q2
            rw [if_neg (fun h3 => by have := h3.1; omega), if_neg (fun h3 => q (decide_eq_true ⟨h3, q2⟩))]
          · rfl
    rw [rfold, bfold, e]
    cases hb : bstep t s with
    | none => exact .inl rfl
    | some t2 =>
      have h2 := bfold_len [s] t (t' := t2) h (by rw [bfold, hb]; rfl)
      rcases fold_same r t2 h2 with q | q
      · exact .inl q
      · refine .inr ?_
        rw [late]
        refine .inr ?_
        have : decide (t2.2 ≠ []) = (decide (t.2 ≠ []) || decide (1099511627776 ≤ s.lo)) := by
          unfold bstep at hb
          split at hb
          · rename_i c
            split at hb
            · simp only [Option.some.injEq] at hb; subst hb
              simp only
              rw [decide_eq_false (by omega : ¬ 1099511627776 ≤ s.lo), Bool.or_false]
            · cases hb
          · rename_i c
            split at hb
            · simp only [Option.some.injEq] at hb; subst hb
              rw [decide_eq_true (by omega : 1099511627776 ≤ s.lo), Bool.or_true]
              exact decide_eq_true (by simp [rowsS])
            · cases hb
        rw [← this]; exact q
theorem rfold_b {t' : Tab} : ∀ (l : List Seg) (t : Tab), t.1.length + t.2.length ≤ 1000 → rfold t l = some t' → bfold t l = some t'
  | [], t, h, e => e
  | s :: r, t, h, e => by
    rw [rfold] at e
    rw [bfold]
    cases hb : rstep t s with
    | none => rw [hb] at e; cases e
    | some t2 =>
      rw [hb] at e
      have hb2 := rstep_b (by omega) hb
      rw [hb2]
      exact rfold_b r t2 (bfold_len [s] t (t' := t2) h (by rw [bfold, hb2]; rfl)) e
theorem back_same (l : List Seg) : rbackI l = backI l := by
  unfold rbackI backI
  rcases fold_same l ([], []) (by simp) with h | h
  · rw [h]; cases bfold ([], []) l <;> rfl
  · have no : ∀ t, bfold ([], []) l = some t → ¬ (rightI t.1 t.2 = true ∧ buildI t.1 t.2 = l) := fun t e ⟨h1, h2⟩ => by
      have hl := bfold_len l ([], []) (by simp) e
      have := build_sorted (m := t.1) (o := t.2) (by omega) (by omega) h1
      rw [h2] at this
      exact late_sorted l _ (fun e => by simp at e) this h
    cases hr : rfold ([], []) l with
    | none =>
      cases hb : bfold ([], []) l with
      | none => rfl
      | some t => simp only; rw [if_neg (no t hb)]
    | some t =>
      have hb := rfold_b l ([], []) (by simp) hr
      rw [hb]

theorem norm_bd (n : Int) : -9223372036854775808 ≤ norm .i64 n ∧ norm .i64 n ≤ 9223372036854775807 := by
  simp only [norm, IntKind.wrap, IntKind.bits, IntKind.signed]
  by_cases h : n % 2 ^ 64 ≥ 2 ^ (64 - 1)
  · simp only [h, decide_true, Bool.and_self, if_true]; omega
  · simp only [h, decide_false, Bool.and_false, Bool.false_eq_true, if_false]; omega
theorem turn_bounds (l : List Seg) (how at_ by_ : Int) (hl : l.length ≤ 1000) (hb : ∀ i, 0 ≤ (l.getD i default).lo ∧ (l.getD i default).lo ≤ 2000000000000 ∧ 0 ≤ (l.getD i default).hi ∧ (l.getD i default).hi ≤ 2000000000000 ∧ (l.getD i default).par.length ≤ 4) :
    (turnI l how at_ by_).length ≤ 1001 ∧ ∀ i, ((turnI l how at_ by_).getD i default).par.length ≤ 17592186044416 ∧ ((turnI l how at_ by_).getD i default).hi ≤ 9223372036854775807 := by
  have hd : ∀ (u : List Seg), (∀ s ∈ u, s.par.length ≤ 5 ∧ s.hi ≤ 9223372036854775807) → ∀ i, (u.getD i default).par.length ≤ 17592186044416 ∧ (u.getD i default).hi ≤ 9223372036854775807 := fun u h i => by
    by_cases hi : i < u.length
    · rw [List.getD_eq_getElem?_getD, List.getElem?_eq_getElem hi]
      have := h _ (List.getElem_mem hi)
      exact ⟨Nat.le_trans this.1 (by omega), this.2⟩
    · rw [List.getD_eq_getElem?_getD, List.getElem?_eq_none (by omega)]
      exact ⟨Nat.zero_le _, by show (0 : Int) ≤ _; omega⟩
  have hl1 : ∀ s ∈ l, s.par.length ≤ 4 ∧ s.hi ≤ 2000000000000 ∧ s.lo ≤ 2000000000000 ∧ 0 ≤ s.lo := fun s hs => by
    obtain ⟨i, hi, rfl⟩ := List.getElem_of_mem hs
    have := hb i
    rw [List.getD_eq_getElem?_getD, List.getElem?_eq_getElem hi] at this
    exact ⟨this.2.2.2.2, this.2.2.2.1, this.2.1, this.1⟩
  have hq := hb (turnK l at_)
  have hc : (chgS (l.getD (turnK l at_) default) (how % 12) by_).par.length ≤ 5 ∧ (chgS (l.getD (turnK l at_) default) (how % 12) by_).hi ≤ 9223372036854775807 := by
    generalize l.getD (turnK l at_) default = q at *
    obtain ⟨lo, hi, par, root, head⟩ := q
    simp only at hq
    have hn := (norm_bd (lo + by_)).2
    unfold chgS
    repeat' split
    all_goals first | (simp only [List.length_append, List.length_cons, List.length_nil]; omega)
  have ho : (turnO l how at_ by_).length ≤ 1001 ∧ ∀ s ∈ turnO l how at_ by_, s.par.length ≤ 5 ∧ s.hi ≤ 9223372036854775807 := by
    unfold turnO
    refine ⟨?_, fun s hs => ?_⟩
    · rw [List.length_set]
      split
      · rw [List.length_append]; simp; omega
      · omega
    · rcases List.mem_or_eq_of_mem_set hs with hs | rfl
      · split at hs
        · rcases List.mem_append.1 hs with hs | hs
          · have := hl1 s hs; omega
          · simp at hs; subst hs
            simp only [List.getD_eq_getElem?_getD] at hq
            omega
        · have := hl1 s hs; omega
      · exact hc
  unfold turnI
  split
  · refine ⟨by omega, hd l fun s hs => ?_⟩
    have := hl1 s hs; omega
  · split
    · refine ⟨?_, hd _ fun s hs => ?_⟩
      · rw [List.length_append, List.length_take, List.length_drop]; omega
      · rcases List.mem_append.1 hs with hs | hs
        · exact ho.2 s (List.mem_of_mem_take hs)
        · exact ho.2 s (List.mem_of_mem_drop hs)
    · exact ⟨ho.1, hd _ ho.2⟩

theorem bfold_ok {t' : Tab} : ∀ (l : List Seg) (t : Tab), okT t → (∀ s ∈ l, s.par.length ≤ 17592186044416) → bfold t l = some t' → okT t'
  | [], t, h, _, e => by simp only [bfold, Option.some.injEq] at e; subst e; exact h
  | s :: r, t, h, hs, e => by
    rw [bfold] at e
    cases hb : bstep t s with
    | none => rw [hb] at e; cases e
    | some t2 =>
      rw [hb] at e
      exact bfold_ok r t2 (bstep_ok h (hs s (by simp)) hb) (fun q hq => hs q (by simp [hq])) e
theorem back_ok {l : List Seg} {t : Tab} (hs : ∀ i, (l.getD i default).par.length ≤ 17592186044416) (h : backI l = some t) : okT t := by
  unfold backI at h
  cases hb : bfold ([], []) l with
  | none => rw [hb] at h; cases h
  | some t2 =>
    rw [hb] at h
    simp only at h
    split at h
    · simp only [Option.some.injEq] at h; subst h
      refine bfold_ok l ([], []) (by simp [okT]) (fun s hs' => ?_) hb
      obtain ⟨i, hi, rfl⟩ := List.getElem_of_mem hs'
      have := hs i
      rwa [List.getD_eq_getElem?_getD, List.getElem?_eq_getElem hi] at this
    · cases h

theorem spec7 (x y : List Int) (how at_ by_ : Int) (raw : List Seg) (any : Bool) (hl : raw.length ≤ 17592186044416) (hp : ∀ i, (raw.getD i default).par.length ≤ 17592186044416) (hh : ∀ i, (raw.getD i default).hi ≤ 9223372036854775807) (c15 : GPure Try.prog 15 [] (.bool true)) :
    GPure Try.prog 7 [.agg [.slice (ints x) .none, .slice (ints y) .none], .int .i64 how, .int .i64 at_, .int .i64 by_, .slice (segsG raw) .none, .bool any] (.bool true) := by
  refine h7.pure mixS (by simp) ?_
  simp only [gstart, s7, List.cons_append, List.nil_append, List.length_cons, List.length_nil, Nat.reduceAdd, Nat.reduceSub, List.replicate_succ, List.replicate_zero]
  simp +contextual -implicitDefEqProofs (maxSteps := 2000000) (disch := omega) only [↓lenV, binV, ↓unV, ↓loadV, ↓storeV, ↓fieldAddrV, ↓allocV, ↓boxV, GVal.cells, grp, GVal.ofConst, ↓resV, resG, List.map, List.headD, List.take, List.drop, ↓reduceIte, Nat.reduceEqDiff, Nat.reduceAdd, Nat.reduceSub, Nat.reduceLeDiff, reduceCtorEq, implies_true, ne_eq, aggV, Tag.cap, List.replicate, allSolid, GVal.solid, Nat.reduceBEq, Nat.reduceMul, Nat.reduceLT, List.length_map, List.length_range, splice, vcA, ↓vcB, vcC, fbA, fbE, fbG, e7]
  refine (spec11 x y .none .none).then ?_
  have hm := tabM_len x
  have ho := tabO_len x y
  have hr := raw_right x y
  have hrow := okRow_len hr
  have bs := build_segs (tabM x) (tabO x y) (by omega) (by omega) hr
  have bl := build_len (tabM x) (tabO x y)
  have c24 := spec24 (tabM x) (tabO x y) (by omega) hr hrow (fun s hs => by
    obtain ⟨i, hi, rfl⟩ := List.getElem_of_mem hs
    have := bs i
    rw [List.getD_eq_getElem?_getD, List.getElem?_eq_getElem hi] at this
    exact ⟨this.1, this.2.1, this.2.2.1⟩)
  have hs : split = 1099511627776 := rfl
  generalize tabM x = m at *
  generalize tabO x y = o at *
  have hb : ∀ i, 0 ≤ ((buildI m o).getD i default).lo ∧ ((buildI m o).getD i default).lo ≤ 2000000000000 ∧ 0 ≤ ((buildI m o).getD i default).hi ∧ ((buildI m o).getD i default).hi ≤ 2000000000000 ∧ ((buildI m o).getD i default).par.length ≤ 4 := fun i => by have := bs i; omega
  have c26 := spec26 (buildI m o) how at_ by_ (by omega) hb
  have tb := turn_bounds (buildI m o) how at_ by_ (by omega) hb
  generalize turnI (buildI m o) how at_ by_ = l1 at *
  simp +contextual -implicitDefEqProofs (maxSteps := 2000000) (disch := omega) only [↓lenV, binV, ↓unV, ↓loadV, ↓storeV, ↓fieldAddrV, ↓allocV, ↓boxV, GVal.cells, grp, GVal.ofConst, ↓resV, resG, List.map, List.headD, List.take, List.drop, ↓reduceIte, Nat.reduceEqDiff, Nat.reduceAdd, Nat.reduceSub, Nat.reduceLeDiff, reduceCtorEq, implies_true, ne_eq, aggV, Tag.cap, List.replicate, allSolid, GVal.solid, Nat.reduceBEq, Nat.reduceMul, Nat.reduceLT, List.length_map, List.length_range, splice, vcA, ↓vcB, vcC, fbA, fbE, fbG, e7]
  refine c24.then ?_
  simp +contextual -implicitDefEqProofs (maxSteps := 2000000) (disch := omega) only [↓lenV, binV, ↓unV, ↓loadV, ↓storeV, ↓fieldAddrV, ↓allocV, ↓boxV, GVal.cells, grp, GVal.ofConst, ↓resV, resG, List.map, List.headD, List.take, List.drop, ↓reduceIte, Nat.reduceEqDiff, Nat.reduceAdd, Nat.reduceSub, Nat.reduceLeDiff, reduceCtorEq, implies_true, ne_eq, aggV, Tag.cap, List.replicate, allSolid, GVal.solid, Nat.reduceBEq, Nat.reduceMul, Nat.reduceLT, List.length_map, List.length_range, splice, vcA, ↓vcB, vcC, fbA, fbE, fbG, e7]
  refine c26.then ?_
  have key : ∀ (l : List Seg), l.length ≤ 17592186044416 → (∀ i, (l.getD i default).par.length ≤ 17592186044416 ∧ (l.getD i default).hi ≤ 9223372036854775807) →
      GPure Try.prog 27 [.slice (segsG l) .none] (pairTG (backI l)) ∧ GPure Try.prog 28 [.slice (segsG l) .none] (pairTG (backI l)) := fun l h1 h2 =>
    ⟨spec27 l .none h1 (fun i => (h2 i).1) (fun i => (h2 i).2), by rw [← back_same]; exact spec28 l .none h1 (fun i => (h2 i).1) (fun i => (h2 i).2)⟩
  cases any
  · obtain ⟨k1, k2⟩ := key l1 (by omega) tb.2
    have kb := fun t => back_ok (l := l1) (t := t) (fun i => (tb.2 i).1)
    clear key tb hb bs c24 c26
    simp +contextual -implicitDefEqProofs (maxSteps := 2000000) (disch := omega) only [↓lenV, binV, ↓unV, ↓loadV, ↓storeV, ↓fieldAddrV, ↓allocV, ↓boxV, GVal.cells, grp, GVal.ofConst, ↓resV, resG, List.map, List.headD, List.take, List.drop, ↓reduceIte, Nat.reduceEqDiff, Nat.reduceAdd, Nat.reduceSub, Nat.reduceLeDiff, reduceCtorEq, implies_true, ne_eq, aggV, Tag.cap, List.replicate, allSolid, GVal.solid, Nat.reduceBEq, Nat.reduceMul, Nat.reduceLT, List.length_map, List.length_range, splice, vcA, ↓vcB, vcC, fbA, fbE, fbG, e7]
    cases hB : backI l1 with
    | none =>
      rw [hB] at k1 k2
      simp only [pairTG, tabOf, tgOf, Option.isSome_none, tabG_nil] at k1 k2
      refine k1.then ?_
      simp +contextual -implicitDefEqProofs (maxSteps := 2000000) (disch := omega) only [↓lenV, binV, ↓unV, ↓loadV, ↓storeV, ↓fieldAddrV, ↓allocV, ↓boxV, GVal.cells, grp, GVal.ofConst, ↓resV, resG, List.map, List.headD, List.take, List.drop, ↓reduceIte, Nat.reduceEqDiff, Nat.reduceAdd, Nat.reduceSub, Nat.reduceLeDiff, reduceCtorEq, implies_true, ne_eq, aggV, Tag.cap, List.replicate, allSolid, GVal.solid, Nat.reduceBEq, Nat.reduceMul, Nat.reduceLT, List.length_map, List.length_range, splice, vcA, ↓vcB, vcC, fbA, fbE, fbG, e7]
      intro s1
      refine k2.then ?_
      simp +contextual -implicitDefEqProofs (maxSteps := 2000000) (disch := omega) only [↓lenV, binV, ↓unV, ↓loadV, ↓storeV, ↓fieldAddrV, ↓allocV, ↓boxV, GVal.cells, grp, GVal.ofConst, ↓resV, resG, List.map, List.headD, List.take, List.drop, ↓reduceIte, Nat.reduceEqDiff, Nat.reduceAdd, Nat.reduceSub, Nat.reduceLeDiff, reduceCtorEq, implies_true, ne_eq, aggV, Tag.cap, List.replicate, allSolid, GVal.solid, Nat.reduceBEq, Nat.reduceMul, Nat.reduceLT, List.length_map, List.length_range, splice, vcA, ↓vcB, vcC, fbA, fbE, fbG, e7]
      intro s2
      refine c15.then ?_
      simp +contextual -implicitDefEqProofs (maxSteps := 2000000) (disch := omega) only [↓lenV, binV, ↓unV, ↓loadV, ↓storeV, ↓fieldAddrV, ↓allocV, ↓boxV, GVal.cells, grp, GVal.ofConst, ↓resV, resG, List.map, List.headD, List.take, List.drop, ↓reduceIte, Nat.reduceEqDiff, Nat.reduceAdd, Nat.reduceSub, Nat.reduceLeDiff, reduceCtorEq, implies_true, ne_eq, aggV, Tag.cap, List.replicate, allSolid, GVal.solid, Nat.reduceBEq, Nat.reduceMul, Nat.reduceLT, List.length_map, List.length_range, splice, vcA, ↓vcB, vcC, fbA, fbE, fbG, e7]
    | some t =>
      obtain ⟨q1, q2, q3⟩ := kb t hB
      have c29 := spec29 t.1 t.2 t.1 t.2 .none .none .none .none (by omega) (by omega) (rows_at q2) (rows_at q3)
      rw [decide_eq_true ⟨rfl, rfl⟩] at c29
      rw [hB] at k1 k2
      simp only [pairTG, tabOf, tgOf, Option.isSome_some] at k1 k2
      refine k1.then ?_
      simp +contextual -implicitDefEqProofs (maxSteps := 2000000) (disch := omega) only [↓lenV, binV, ↓unV, ↓loadV, ↓storeV, ↓fieldAddrV, ↓allocV, ↓boxV, GVal.cells, grp, GVal.ofConst, ↓resV, resG, List.map, List.headD, List.take, List.drop, ↓reduceIte, Nat.reduceEqDiff, Nat.reduceAdd, Nat.reduceSub, Nat.reduceLeDiff, reduceCtorEq, implies_true, ne_eq, aggV, Tag.cap, List.replicate, allSolid, GVal.solid, Nat.reduceBEq, Nat.reduceMul, Nat.reduceLT, List.length_map, List.length_range, splice, vcA, ↓vcB, vcC, fbA, fbE, fbG, e7]
      intro s1
      refine k2.then ?_
      simp +contextual -implicitDefEqProofs (maxSteps := 2000000) (disch := omega) only [↓lenV, binV, ↓unV, ↓loadV, ↓storeV, ↓fieldAddrV, ↓allocV, ↓boxV, GVal.cells, grp, GVal.ofConst, ↓resV, resG, List.map, List.headD, List.take, List.drop, ↓reduceIte, Nat.reduceEqDiff, Nat.reduceAdd, Nat.reduceSub, Nat.reduceLeDiff, reduceCtorEq, implies_true, ne_eq, aggV, Tag.cap, List.replicate, allSolid, GVal.solid, Nat.reduceBEq, Nat.reduceMul, Nat.reduceLT, List.length_map, List.length_range, splice, vcA, ↓vcB, vcC, fbA, fbE, fbG, e7]
      intro s2
      refine c15.then ?_
      simp +contextual -implicitDefEqProofs (maxSteps := 2000000) (disch := omega) only [↓lenV, binV, ↓unV, ↓loadV, ↓storeV, ↓fieldAddrV, ↓allocV, ↓boxV, GVal.cells, grp, GVal.ofConst, ↓resV, resG, List.map, List.headD, List.take, List.drop, ↓reduceIte, Nat.reduceEqDiff, Nat.reduceAdd, Nat.reduceSub, Nat.reduceLeDiff, reduceCtorEq, implies_true, ne_eq, aggV, Tag.cap, List.replicate, allSolid, GVal.solid, Nat.reduceBEq, Nat.reduceMul, Nat.reduceLT, List.length_map, List.length_range, splice, vcA, ↓vcB, vcC, fbA, fbE, fbG, e7]
      refine c29.then ?_
      simp +contextual -implicitDefEqProofs (maxSteps := 2000000) (disch := omega) only [↓lenV, binV, ↓unV, ↓loadV, ↓storeV, ↓fieldAddrV, ↓allocV, ↓boxV, GVal.cells, grp, GVal.ofConst, ↓resV, resG, List.map, List.headD, List.take, List.drop, ↓reduceIte, Nat.reduceEqDiff, Nat.reduceAdd, Nat.reduceSub, Nat.reduceLeDiff, reduceCtorEq, implies_true, ne_eq, aggV, Tag.cap, List.replicate, allSolid, GVal.solid, Nat.reduceBEq, Nat.reduceMul, Nat.reduceLT, List.length_map, List.length_range, splice, vcA, ↓vcB, vcC, fbA, fbE, fbG, e7]
  · obtain ⟨k1, k2⟩ := key raw hl fun i => ⟨hp i, hh i⟩
    have kb := fun t => back_ok (l := raw) (t := t) hp
    clear key tb hb bs c24 c26
    simp +contextual -implicitDefEqProofs (maxSteps := 2000000) (disch := omega) only [↓lenV, binV, ↓unV, ↓loadV, ↓storeV, ↓fieldAddrV, ↓allocV, ↓boxV, GVal.cells, grp, GVal.ofConst, ↓resV, resG, List.map, List.headD, List.take, List.drop, ↓reduceIte, Nat.reduceEqDiff, Nat.reduceAdd, Nat.reduceSub, Nat.reduceLeDiff, reduceCtorEq, implies_true, ne_eq, aggV, Tag.cap, List.replicate, allSolid, GVal.solid, Nat.reduceBEq, Nat.reduceMul, Nat.reduceLT, List.length_map, List.length_range, splice, vcA, ↓vcB, vcC, fbA, fbE, fbG, e7]
    cases hB : backI raw with
    | none =>
      rw [hB] at k1 k2
      simp only [pairTG, tabOf, tgOf, Option.isSome_none, tabG_nil] at k1 k2
      refine k1.then ?_
      simp +contextual -implicitDefEqProofs (maxSteps := 2000000) (disch := omega) only [↓lenV, binV, ↓unV, ↓loadV, ↓storeV, ↓fieldAddrV, ↓allocV, ↓boxV, GVal.cells, grp, GVal.ofConst, ↓resV, resG, List.map, List.headD, List.take, List.drop, ↓reduceIte, Nat.reduceEqDiff, Nat.reduceAdd, Nat.reduceSub, Nat.reduceLeDiff, reduceCtorEq, implies_true, ne_eq, aggV, Tag.cap, List.replicate, allSolid, GVal.solid, Nat.reduceBEq, Nat.reduceMul, Nat.reduceLT, List.length_map, List.length_range, splice, vcA, ↓vcB, vcC, fbA, fbE, fbG, e7]
      intro s1
      refine k2.then ?_
      simp +contextual -implicitDefEqProofs (maxSteps := 2000000) (disch := omega) only [↓lenV, binV, ↓unV, ↓loadV, ↓storeV, ↓fieldAddrV, ↓allocV, ↓boxV, GVal.cells, grp, GVal.ofConst, ↓resV, resG, List.map, List.headD, List.take, List.drop, ↓reduceIte, Nat.reduceEqDiff, Nat.reduceAdd, Nat.reduceSub, Nat.reduceLeDiff, reduceCtorEq, implies_true, ne_eq, aggV, Tag.cap, List.replicate, allSolid, GVal.solid, Nat.reduceBEq, Nat.reduceMul, Nat.reduceLT, List.length_map, List.length_range, splice, vcA, ↓vcB, vcC, fbA, fbE, fbG, e7]
      intro s2
      refine c15.then ?_
      simp +contextual -implicitDefEqProofs (maxSteps := 2000000) (disch := omega) only [↓lenV, binV, ↓unV, ↓loadV, ↓storeV, ↓fieldAddrV, ↓allocV, ↓boxV, GVal.cells, grp, GVal.ofConst, ↓resV, resG, List.map, List.headD, List.take, List.drop, ↓reduceIte, Nat.reduceEqDiff, Nat.reduceAdd, Nat.reduceSub, Nat.reduceLeDiff, reduceCtorEq, implies_true, ne_eq, aggV, Tag.cap, List.replicate, allSolid, GVal.solid, Nat.reduceBEq, Nat.reduceMul, Nat.reduceLT, List.length_map, List.length_range, splice, vcA, ↓vcB, vcC, fbA, fbE, fbG, e7]
    | some t =>
      obtain ⟨q1, q2, q3⟩ := kb t hB
      have c29 := spec29 t.1 t.2 t.1 t.2 .none .none .none .none (by omega) (by omega) (rows_at q2) (rows_at q3)
      rw [decide_eq_true ⟨rfl, rfl⟩] at c29
      rw [hB] at k1 k2
      simp only [pairTG, tabOf, tgOf, Option.isSome_some] at k1 k2
      refine k1.then ?_
      simp +contextual -implicitDefEqProofs (maxSteps := 2000000) (disch := omega) only [↓lenV, binV, ↓unV, ↓loadV, ↓storeV, ↓fieldAddrV, ↓allocV, ↓boxV, GVal.cells, grp, GVal.ofConst, ↓resV, resG, List.map, List.headD, List.take, List.drop, ↓reduceIte, Nat.reduceEqDiff, Nat.reduceAdd, Nat.reduceSub, Nat.reduceLeDiff, reduceCtorEq, implies_true, ne_eq, aggV, Tag.cap, List.replicate, allSolid, GVal.solid, Nat.reduceBEq, Nat.reduceMul, Nat.reduceLT, List.length_map, List.length_range, splice, vcA, ↓vcB, vcC, fbA, fbE, fbG, e7]
      intro s1
      refine k2.then ?_
      simp +contextual -implicitDefEqProofs (maxSteps := 2000000) (disch := omega) only [↓lenV, binV, ↓unV, ↓loadV, ↓storeV, ↓fieldAddrV, ↓allocV, ↓boxV, GVal.cells, grp, GVal.ofConst, ↓resV, resG, List.map, List.headD, List.take, List.drop, ↓reduceIte, Nat.reduceEqDiff, Nat.reduceAdd, Nat.reduceSub, Nat.reduceLeDiff, reduceCtorEq, implies_true, ne_eq, aggV, Tag.cap, List.replicate, allSolid, GVal.solid, Nat.reduceBEq, Nat.reduceMul, Nat.reduceLT, List.length_map, List.length_range, splice, vcA, ↓vcB, vcC, fbA, fbE, fbG, e7]
      intro s2
      refine c15.then ?_
      simp +contextual -implicitDefEqProofs (maxSteps := 2000000) (disch := omega) only [↓lenV, binV, ↓unV, ↓loadV, ↓storeV, ↓fieldAddrV, ↓allocV, ↓boxV, GVal.cells, grp, GVal.ofConst, ↓resV, resG, List.map, List.headD, List.take, List.drop, ↓reduceIte, Nat.reduceEqDiff, Nat.reduceAdd, Nat.reduceSub, Nat.reduceLeDiff, reduceCtorEq, implies_true, ne_eq, aggV, Tag.cap, List.replicate, allSolid, GVal.solid, Nat.reduceBEq, Nat.reduceMul, Nat.reduceLT, List.length_map, List.length_range, splice, vcA, ↓vcB, vcC, fbA, fbE, fbG, e7]
      refine c29.then ?_
      simp +contextual -implicitDefEqProofs (maxSteps := 2000000) (disch := omega) only [↓lenV, binV, ↓unV, ↓loadV, ↓storeV, ↓fieldAddrV, ↓allocV, ↓boxV, GVal.cells, grp, GVal.ofConst, ↓resV, resG, List.map, List.headD, List.take, List.drop, ↓reduceIte, Nat.reduceEqDiff, Nat.reduceAdd, Nat.reduceSub, Nat.reduceLeDiff, reduceCtorEq, implies_true, ne_eq, aggV, Tag.cap, List.replicate, allSolid, GVal.solid, Nat.reduceBEq, Nat.reduceMul, Nat.reduceLT, List.length_map, List.length_range, splice, vcA, ↓vcB, vcC, fbA, fbE, fbG, e7]
end Gv.Try
set_option maxRecDepth 100000
set_option linter.unusedVariables false
namespace Gv.Try
open Go Gv Go.Proofs
noncomputable def x9 : FnX := fnx Try.f9 [] []
theorem x9_ok : FnOk Try.prog 9 x9 := .mk Try.func9 (by kernel_rfl) (by kernel_rfl) (by kernel_rfl)
noncomputable def x12 : FnX := fnx Try.f12 [1] [(3, [(0, 0), (1, 0), (3, 0), (4, 0), (2, 2), (5, 1), (6, 1), (7, 0)])]
theorem x12_ok : FnOk Try.prog 12 x12 := .mk Try.func12 (by kernel_rfl) (by kernel_rfl) (by kernel_rfl)
noncomputable def x15 : FnX := fnx Try.f15 [] []
theorem x15_ok : FnOk Try.prog 15 x15 := .mk Try.func15 (by kernel_rfl) (by kernel_rfl) (by kernel_rfl)
noncomputable def x17 : FnX := fnx Try.f17 [] [(6, [(0, 0), (1, 0), (2, 0), (3, 0), (4, 0), (5, 0), (6, 0), (7, 0), (8, 0)])]
theorem x17_ok : FnOk Try.prog 17 x17 := .mk Try.func17 (by kernel_rfl) (by kernel_rfl) (by kernel_rfl)
noncomputable def x27 : FnX := fnx Try.f27 [] []
theorem x27_ok : FnOk Try.prog 27 x27 := .mk Try.func27 (by kernel_rfl) (by kernel_rfl) (by kernel_rfl)
noncomputable def x33 : FnX := fnx Try.f33 [] [(2, [(0, 0), (1, 0), (2, 0), (3, 0), (4, 0), (5, 0), (6, 0), (7, 0), (8, 0), (9, 0), (10, 0), (11, 0), (12, 0)])]
theorem x33_ok : FnOk Try.prog 33 x33 := .mk Try.func33 (by kernel_rfl) (by kernel_rfl) (by kernel_rfl)
noncomputable def x34 : FnX := fnx Try.f34 [1] []
theorem x34_ok : FnOk Try.prog 34 x34 := .mk Try.func34 (by kernel_rfl) (by kernel_rfl) (by kernel_rfl)
noncomputable def x35 : FnX := fnx Try.f35 [] []
theorem x35_ok : FnOk Try.prog 35 x35 := .mk Try.func35 (by kernel_rfl) (by kernel_rfl) (by kernel_rfl)
noncomputable def x41 : FnX := fnx Try.f41 [78] []
theorem x41_ok : FnOk Try.prog 41 x41 := .mk Try.func41 (by kernel_rfl) (by kernel_rfl) (by kernel_rfl)
noncomputable def x47 : FnX := fnx Try.f47 [] []
theorem x47_ok : FnOk Try.prog 47 x47 := .mk Try.func47 (by kernel_rfl) (by kernel_rfl) (by kernel_rfl)
noncomputable def x49 : FnX := fnx Try.f49 [5] []
theorem x49_ok : FnOk Try.prog 49 x49 := .mk Try.func49 (by kernel_rfl) (by kernel_rfl) (by kernel_rfl)
noncomputable def x50 : FnX := fnx Try.f50 [] []
theorem x50_ok : FnOk Try.prog 50 x50 := .mk Try.func50 (by kernel_rfl) (by kernel_rfl) (by kernel_rfl)
noncomputable def x51 : FnX := fnx Try.f51 [2, 3] []
theorem x51_ok : FnOk Try.prog 51 x51 := .mk Try.func51 (by kernel_rfl) (by kernel_rfl) (by kernel_rfl)
noncomputable def x55 : FnX := fnx Try.f55 [] []
theorem x55_ok : FnOk Try.prog 55 x55 := .mk Try.func55 (by kernel_rfl) (by kernel_rfl) (by kernel_rfl)
noncomputable def x56 : FnX := fnx Try.f56 [] [(1, [(0, 0), (1, 0), (2, 0), (3, 0), (4, 0), (5, 0), (6, 0), (7, 0)])]
theorem x56_ok : FnOk Try.prog 56 x56 := .mk Try.func56 (by kernel_rfl) (by kernel_rfl) (by kernel_rfl)
noncomputable def x57 : FnX := fnx Try.f57 [4] []
theorem x57_ok : FnOk Try.prog 57 x57 := .mk Try.func57 (by kernel_rfl) (by kernel_rfl) (by kernel_rfl)
noncomputable def x58 : FnX := fnx Try.f58 [] []
theorem x58_ok : FnOk Try.prog 58 x58 := .mk Try.func58 (by kernel_rfl) (by kernel_rfl) (by kernel_rfl)
noncomputable def x61 : FnX := fnx Try.f61 [] []
theorem x61_ok : FnOk Try.prog 61 x61 := .mk Try.func61 (by kernel_rfl) (by kernel_rfl) (by kernel_rfl)
noncomputable def x63 : FnX := fnx Try.f63 [] [(6, [(0, 0), (1, 0), (2, 0), (3, 0), (4, 0), (5, 0), (6, 0), (7, 0), (8, 0)])]
theorem x63_ok : FnOk Try.prog 63 x63 := .mk Try.func63 (by kernel_rfl) (by kernel_rfl) (by kernel_rfl)
noncomputable def x65 : FnX := fnx Try.f65 [2] []
theorem x65_ok : FnOk Try.prog 65 x65 := .mk Try.func65 (by kernel_rfl) (by kernel_rfl) (by kernel_rfl)
noncomputable def fns : List (Nat × FnX) := [(9, x9), (12, x12), (15, x15), (17, x17), (27, x27), (33, x33), (34, x34), (35, x35), (41, x41), (47, x47), (49, x49), (50, x50), (51, x51), (55, x55), (56, x56), (57, x57), (58, x58), (61, x61), (63, x63), (65, x65)]
noncomputable def T : Tabs := tabsOf Try.prog fns
theorem T_ok : T.Ok Try.prog := tabsOf_ok (by
  simp only [fns, List.forall_mem_cons]
  exact ⟨x9_ok, x12_ok, x15_ok, x17_ok, x27_ok, x33_ok, x34_ok, x35_ok, x41_ok, x47_ok, x49_ok, x50_ok, x51_ok, x55_ok, x56_ok, x57_ok, x58_ok, x61_ok, x63_ok, x65_ok, by simp⟩)
theorem mix : Try.prog.follows .mixedOrders = true := by kernel_rfl
end Gv.Try
namespace Gv.Try
open Go Gv
set_option maxRecDepth 1000000
theorem k15 : comes T 400 15 [] = some (.bool true) := by kernel_rfl
end Gv.Try
/- From a reading of plain data (numbers, bools, strings, slices, structs) to what it is without memory. -/
set_option linter.unusedVariables false
namespace Gv
open Go Go.RowKit Go.WideShapes Go.ChangeShapes

/-- all cells that are there are known -/
def Env.all (w : World) : Env := ⟨fun b o => match w.cell? ⟨b, o, none⟩ with
  | some v => if v.oneCell' = true then some v else none
  | none => none, fun _ => none⟩
theorem Env.all_at {w : World} {b o : Nat} {v : Value} (h : w.cell? ⟨b, o, none⟩ = some v) (hv : v.oneCell' = true) : (Env.all w).snap b o = some v := by
  simp [Env.all, h, hv]
theorem HSim.all (w : World) : HSim (Env.all w) [] w := by
  have key : ∀ b o v, (Env.all w).snap b o = some v → w.cell? ⟨b, o, none⟩ = some v ∧ v.oneCell' = true := by
    intro b o v h
    simp only [Env.all] at h
    split at h
    · rename_i x hx
      split at h
      · rename_i hv
        simp only [Option.some.injEq] at h
        subst h
        exact ⟨hx, hv⟩
      · cases h
    · cases h
  exact ⟨⟨0, (fun c hc => by cases hc), fun _ _ => rfl⟩, fun b o v h => (key b o v h).1, fun b o v h => (key b o v h).2, fun i x hx => by simp at hx, fun i j oi oj b _ hi => by simp at hi⟩

/-- a type's shape -/
inductive Sh where
  | int (k : IntKind)
  | bool
  | str
  | slice (e : Sh)
  | agg (l : List Sh)
mutual
def Sh.size : Sh → Nat
  | .agg l => Sh.sizes l
  | _ => 1
def Sh.sizes : List Sh → Nat
  | [] => 0
  | s :: r => s.size + Sh.sizes r
end
mutual
def shB (P : Program) : Sh → TypeId → Bool
  | .int k, t => match P.underlying t with
    | some (.int k') => k = k'
    | _ => false
  | .bool, t => match P.underlying t with
    | some .bool => true
    | _ => false
  | .str, t => match P.underlying t with
    | some .string => true
    | _ => false
  | .slice e, t => match P.underlying t with
    | some (.slice et) => shB P e et && P.cellsOf et == e.size && decide (0 < e.size)
    | _ => false
  | .agg l, t => match P.underlying t with
    | some (.struct fs) => shBs P l fs.toList 0 && P.cellsOf t == Sh.sizes l
    | _ => false
def shBs (P : Program) : List Sh → List Field → Nat → Bool
  | [], [], _ => true
  | s :: r, f :: fs, o => f.offset == o && P.cellsOf f.type == s.size && shB P s f.type && shBs P r fs (o + s.size)
  | _, _, _ => false
end
mutual
/-- what a reading's cells are -/
def Den : Sh → List GVal → Prop
  | .int k, gs => ∃ n, gs = [.int k n] ∧ (Lit.int k n).wf = true
  | .bool, gs => ∃ b, gs = [.bool b]
  | .str, gs => ∃ s, gs = [.str s] ∧ s.length ≤ maxLen
  | .slice e, gs => ∃ xs, gs = [.slice xs .none] ∧ xs.length ≤ maxLen ∧ ∀ x ∈ xs, Den e x
  | .agg l, gs => ∃ ps, gs = ps.flatten ∧ Dens l ps
def Dens : List Sh → List (List GVal) → Prop
  | [], ps => ps = []
  | s :: r, ps => ∃ p q, ps = p :: q ∧ Den s p ∧ Dens r q
end

/-- cells that read as such -/
def CellsOK (w : World) (cs : List Value) (gs : List GVal) : Prop :=
  cs.length = gs.length ∧ (∀ c ∈ cs, c.oneCell' = true) ∧ ∀ (j : Nat) c g, cs[j]? = some c → gs[j]? = some g → VR (Env.all w) c g
theorem CellsOK.one {w : World} {v : Value} {g : GVal} (hv : v.oneCell' = true) (h : VR (Env.all w) v g) : CellsOK w [v] [g] :=
  ⟨rfl, by simpa using hv, fun j c g' h1 h2 => by
    cases j with
    | zero => simp at h1 h2; subst h1; subst h2; exact h
    | succ j => simp at h1⟩
theorem CellsOK.append {w : World} {a b : List Value} {x y : List GVal} (h : CellsOK w a x) (k : CellsOK w b y) : CellsOK w (a ++ b) (x ++ y) := by
  refine ⟨by simp [h.1, k.1], fun c hc => ?_, fun j c g h1 h2 => ?_⟩
  · rcases List.mem_append.1 hc with hc | hc
    · exact h.2.1 c hc
    · exact k.2.1 c hc
  · by_cases hj : j < a.length
    · rw [List.getElem?_append_left hj] at h1
      rw [List.getElem?_append_left (by rw [← h.1]; exact hj)] at h2
      exact h.2.2 j c g h1 h2
    · rw [List.getElem?_append_right (by omega)] at h1
      rw [List.getElem?_append_right (by rw [← h.1]; omega), ← h.1] at h2
      exact k.2.2 _ c g h1 h2

section
variable {H : Type} {enc : TypeId × Value → H} {P : Program} {w : World} {spare : Nat → Bool} {held : Bool}

theorem cells_at {base : Nat} {a : Addr} {n : Nat} {cs : List Value} (h : w.cells? base a n = some cs) : cs.length = n ∧ ∀ j, j < n → w.cell? (a.add j) = cs[j]? := by
  unfold World.cells? at h
  split at h
  · have hl := mapM_some_length h
    refine ⟨by simpa using hl, fun j hj => ?_⟩
    exact mapM_some_get h j j (by simp [hj])
  · cases h

theorem flat_len {α : Type} {sz : Nat} : ∀ {xs : List (List α)}, (∀ x ∈ xs, x.length = sz) → xs.flatten.length = xs.length * sz
  | [], _ => by simp
  | x :: xs, h => by
    rw [List.flatten_cons, List.length_append, h x (by simp), flat_len fun y hy => h y (by simp [hy])]
    simp [Nat.succ_mul, Nat.add_comm]

mutual
theorem rd : ∀ (S : Sh) (n : Nat) (t : TypeId) (cs : List Value) (x : DataW H × List MemPlace), shB P S t = true → DataW.trod enc P w 0 spare held n t cs = some x → ∃ gs, CellsOK w cs gs ∧ Den S gs ∧ cs.length = S.size
  | .int k, n, t, cs, x, hs, h => by
    unfold shB at hs
    split at hs
    · rename_i k' hu
      have hs : k = k' := by simpa using hs
      subst hs
      obtain ⟨m, rfl, _, hwf⟩ := DataW.trod_int hu h
      exact ⟨[.int k m], .one rfl (.int _ _), ⟨m, rfl, hwf⟩, rfl⟩
    · cases hs
  | .bool, n, t, cs, x, hs, h => by
    unfold shB at hs
    split at hs
    · rename_i hu
      obtain ⟨b, rfl, _⟩ := DataW.trod_bool hu h
      exact ⟨[.bool b], .one rfl (.bool _), ⟨b, rfl⟩, rfl⟩
    · cases hs
  | .str, n, t, cs, x, hs, h => by
    unfold shB at hs
    split at hs
    · rename_i hu
      cases n with
      | zero => simp [DataW.trod] at h
      | succ n =>
        unfold DataW.trod at h
        rw [hu] at h
        match cs, h with
        | [.string b], h =>
          simp only at h
          split at h
          · rename_i hl
            refine ⟨[.str b.data.toList], .one rfl ?_, ⟨_, rfl, ?_⟩, rfl⟩
            · exact VR.str (E := Env.all w) b.data.toList
            · simpa using hl
          · cases h
    · cases hs
  | .slice e, n, t, cs, x, hs, h => by
    unfold shB at hs
    split at hs
    · rename_i et hu
      simp only [Bool.and_eq_true, beq_iff_eq] at hs
      obtain ⟨⟨hs, hsz⟩, hpos⟩ := hs
      have hpos : 0 < e.size := by simpa using hpos
      rcases DataW.trod_slice hu h with ⟨rfl, _⟩ | ⟨a, len, cap, elems, rest, m, rfl, rfl, _, _, hlc, hcm, hel, helem, _, _⟩
      · exact ⟨[.slice [] .none], .one rfl (.slice none 0 0 [] .none 0 (fun _ => .bool true) rfl (Nat.le_refl _) (by simp) (fun hx => absurd rfl hx) (by simp) trivial), ⟨[], rfl, by simp, by simp⟩, rfl⟩
      · have each : ∀ i : Nat, ∃ cs gs, i < len → (w.cells? 0 (a.add (i * P.cellsOf et)) (P.cellsOf et)) = some cs ∧ CellsOK w cs gs ∧ Den e gs ∧ cs.length = e.size := by
          intro i
          by_cases hi : i < len
          · have := helem i hi
            rw [← hel] at hi
            rw [List.getElem?_eq_getElem hi, Option.bind_eq_some_iff] at this
            obtain ⟨cs, h1, h2⟩ := this
            obtain ⟨gs, h3, h4, h5⟩ := rd e m et cs _ hs h2
            exact ⟨cs, gs, fun _ => ⟨h1, h3, h4, h5⟩⟩
          · exact ⟨[], [], fun h => absurd h hi⟩
        obtain ⟨C, hC⟩ := Classical.axiomOfChoice each
        obtain ⟨G, hCG⟩ := Classical.axiomOfChoice hC
        refine ⟨[.slice ((List.range len).map G) .none], .one rfl ?_, ⟨_, rfl, by simp; omega, fun x hx => ?_⟩, rfl⟩
        · have hG : ∀ i, i < len → (G i).length = e.size := fun i hi => by rw [← (hCG i hi).2.1.1]; exact (hCG i hi).2.2.2
          have cell : ∀ i, i < len → ∀ j, j < e.size → w.cell? ((a.add (i * e.size)).add j) = (C i)[j]? := fun i hi j hj => by
            have := cells_at (hCG i hi).1
            rw [hsz] at this
            exact this.2 j hj
          have dm : ∀ k, k < len * e.size → k / e.size < len ∧ k % e.size < e.size ∧ k / e.size * e.size + k % e.size = k := fun k hk =>
            ⟨(Nat.div_lt_iff_lt_mul hpos).2 hk, Nat.mod_lt _ hpos, by rw [Nat.mul_comm]; exact Nat.div_add_mod k e.size⟩
          have hszs : ∀ x ∈ (List.range len).map G, x.length = e.size := fun x hx => by
            obtain ⟨i, hi, rfl⟩ := List.mem_map.1 hx
            exact hG i (by simpa using hi)
          refine .slice (some a) len cap _ .none e.size (fun k => ((C (k / e.size))[k % e.size]?).getD (.bool true)) (by simp) hlc hszs (fun hx => ?_) (fun k g hk => ?_) trivial
          · have hlen : 0 < len := by
              rcases Nat.eq_zero_or_pos len with h0 | h0
              · subst h0; simp at hx
              · exact h0
            have in_ : ∀ i, i < len → ∀ j, j < e.size → ∃ v, (C i)[j]? = some v ∧ v.oneCell' = true := fun i hi j hj => by
              have hl : j < (C i).length := by rw [(hCG i hi).2.2.2]; exact hj
              exact ⟨_, List.getElem?_eq_getElem hl, (hCG i hi).2.1.2.1 _ (List.getElem_mem hl)⟩
            obtain ⟨b, off, spot⟩ := a
            have hspot : spot = none := by
              obtain ⟨v, hv, _⟩ := in_ 0 hlen 0 hpos
              have := cell 0 hlen 0 hpos
              rw [hv] at this
              simpa [Addr.add] using World.cell?_spot this
            subst hspot
            refine ⟨b, off, rfl, fun k hk => ?_⟩
            obtain ⟨d1, d2, d3⟩ := dm k hk
            obtain ⟨v, hv, hv2⟩ := in_ _ d1 _ d2
            have := cell _ d1 _ d2
            rw [hv] at this
            rw [hv]
            refine Env.all_at ?_ hv2
            rw [add_at, add_at, Nat.add_assoc, d3] at this
            exact this
          · have hk' : k < len * e.size := by
              have := (List.getElem?_eq_some_iff.1 hk).1
              rw [flat_len hszs] at this
              simpa using this
            obtain ⟨d1, d2, d3⟩ := dm k hk'
            have hx : ((List.range len).map G)[k / e.size]? = some (G (k / e.size)) := by simp [d1]
            have e1 := flatten_at _ hszs (k / e.size) (k % e.size) _ hx d2
            rw [d3, hk] at e1
            have hl : k % e.size < (C (k / e.size)).length := by rw [(hCG _ d1).2.2.2]; exact d2
            rw [List.getElem?_eq_getElem hl]
            exact (hCG _ d1).2.1.2.2 _ _ _ (List.getElem?_eq_getElem hl) e1.symm
        · obtain ⟨i, hi, rfl⟩ := List.mem_map.1 hx
          exact (hCG i (by simpa using hi)).2.2.1
    · cases hs
  | .agg l, n, t, cs, x, hs, h => by
    unfold shB at hs
    split at hs
    · rename_i fs hu
      simp only [Bool.and_eq_true, beq_iff_eq] at hs
      obtain ⟨hs, hsz⟩ := hs
      obtain ⟨xs, m, rfl, rfl, hcl, hxl, hf⟩ := DataW.trod_struct hu h
      obtain ⟨ps, h1, h2⟩ := rds l m fs.toList cs 0 hs (by simpa [hsz] using hcl) (fun f hf' => by
        obtain ⟨i, hi⟩ := List.getElem?_of_mem hf'
        have := hf i f (by simpa using hi)
        have hlt : i < xs.length := by rw [hxl]; simpa using (List.getElem?_eq_some_iff.1 hi).1
        rw [List.getElem?_eq_getElem hlt] at this
        exact ⟨_, this⟩)
      exact ⟨ps.flatten, by simpa using h1, ⟨ps, rfl, h2⟩, by rw [hcl, hsz]; rfl⟩
    · cases hs
theorem rds : ∀ (l : List Sh) (n : Nat) (fs : List Field) (cs : List Value) (o : Nat), shBs P l fs o = true → cs.length = o + Sh.sizes l →
    (∀ f ∈ fs, ∃ x, DataW.trod enc P w 0 spare held n f.type ((cs.drop f.offset).take (P.cellsOf f.type)) = some x) → ∃ ps, CellsOK w (cs.drop o) ps.flatten ∧ Dens l ps
  | [], n, fs, cs, o, hs, hl, h => by
    refine ⟨[], ?_, rfl⟩
    rw [List.drop_eq_nil_of_le (by rw [hl]; simp [Sh.sizes])]
    exact ⟨rfl, by simp, fun j c g h1 => by simp at h1⟩
  | s :: r, n, fs, cs, o, hs, hl, h => by
    match fs, hs, h with
    | f :: fs, hs, h =>
      unfold shBs at hs
      simp only [Bool.and_eq_true, beq_iff_eq] at hs
      obtain ⟨⟨⟨h1, h2⟩, h3⟩, h4⟩ := hs
      obtain ⟨x, hx⟩ := h f (by simp)
      obtain ⟨gs, q1, q2, q3⟩ := rd s n f.type _ _ h3 hx
      simp only [Sh.sizes] at hl
      obtain ⟨ps, k1, k2⟩ := rds r n fs cs (o + s.size) h4 (by rw [hl]; omega) (fun f' hf' => h f' (by simp [hf']))
      refine ⟨gs :: ps, ?_, ⟨gs, ps, rfl, q2, k2⟩⟩
      rw [List.flatten_cons]
      have e : cs.drop o = (cs.drop f.offset).take (P.cellsOf f.type) ++ cs.drop (o + s.size) := by
        rw [h1, h2, ← List.drop_drop]; exact (List.take_append_drop _ _).symm
      rw [e]
      exact q1.append k1
    | [], hs, h => simp [shBs] at hs
end

def Sh.val : Sh → List GVal → GVal
  | .agg _, gs => .agg gs
  | _, gs => gs.headD .any

/-- an argument, from its reading -/
theorem arg_read {S : Sh} {t : TypeId} {r : Reach} {base : Nat} {v : Value} {d : DataW H} {ps : List MemPlace} (hs : shB P S t = true) (hval : Value.okWide P w r base t v) (h : DataW.Trod enc P w 0 spare held t v d ps) :
    ∃ gs, Den S gs ∧ VR (Env.all w) v (S.val gs) := by
  obtain ⟨n, h⟩ := h
  obtain ⟨gs, h1, h2, h3⟩ := rd S n t _ _ hs h
  refine ⟨gs, h2, ?_⟩
  have single : ∀ x : Value, v = x → x.cells.toList = [x] → (∃ g, gs = [g]) → S.val gs = gs.headD .any → VR (Env.all w) v (S.val gs) := by
    intro x hx hc ⟨g, hg⟩ hv
    subst hx; subst hg
    rw [hv]
    rw [hc] at h1
    exact h1.2.2 0 _ _ rfl rfl
  cases S with
  | int k =>
    unfold shB at hs
    split at hs
    · rename_i k' hu
      obtain ⟨n, rfl⟩ := okWide_int hu hval
      obtain ⟨m, e, _⟩ := h2
      exact single _ rfl rfl ⟨_, e⟩ rfl
    · cases hs
  | bool =>
    unfold shB at hs
    split at hs
    · rename_i hu
      obtain ⟨n, rfl⟩ := okWide_bool hu hval
      obtain ⟨m, e⟩ := h2
      exact single _ rfl rfl ⟨_, e⟩ rfl
    · cases hs
  | str =>
    unfold shB at hs
    split at hs
    · rename_i hu
      obtain ⟨n, rfl⟩ := okWide_string hu hval
      obtain ⟨m, e, _⟩ := h2
      exact single _ rfl rfl ⟨_, e⟩ rfl
    · cases hs
  | slice e =>
    unfold shB at hs
    split at hs
    · rename_i et hu
      obtain ⟨a, len, cap, rfl⟩ := okWide_slice hu hval
      obtain ⟨m, e, _⟩ := h2
      exact single _ rfl rfl ⟨_, e⟩ rfl
    · cases hs
  | agg l =>
    unfold shB at hs
    split at hs
    · rename_i fs hu
      obtain ⟨cs, rfl, _⟩ := okWide_struct hu hval
      refine .agg cs gs (by have := h1.1; simpa [Value.cells] using this) (fun j g hj => ?_)
      have hl : j < cs.size := by
        have := (List.getElem?_eq_some_iff.1 hj).1
        rw [← h1.1] at this; simpa [Value.cells] using this
      have := h1.2.2 j cs[j] g (by simp [Value.cells, hl]) hj
      simpa [Array.getD, hl] using this
    · cases hs

/-- the call of a law whose arguments are read -/
theorem GPure.lawAt {P : Program} {f : FuncId} {args : Array Value} {gs : List GVal} {w : World} (h : GPure P f gs (.bool true)) (ha : ArgsR (Env.all w) args gs) :
    Calls P f args w fun e w' => e = .returned (.bool true) ∧ Old w w' := by
  refine (h.2 (Env.all w) w args (HSim.all w) ha).mono ?_
  rintro e w' ⟨v, E', O', g, rfl, h1, h2, h3, rfl, rfl⟩
  cases h3
  exact ⟨rfl, h2.old⟩
theorem ArgsR.nil {E : Env} : ArgsR E #[] [] := ⟨rfl, fun i g h => by simp at h⟩
theorem ArgsR.one {E : Env} {v : Value} {g : GVal} (h : VR E v g) : ArgsR E #[v] [g] := ⟨rfl, fun i g' hg => by
  cases i with
  | zero => simp at hg; subst hg; exact h
  | succ i => simp at hg⟩

/-- what was read reads so behind the call -/
theorem Old.trod {W W' : World} {t : TypeId} {v : Value} {d : DataW H} {ps : List MemPlace} (hl : laidOutB P = true) (hr : P.readableRec t = true) (hrow : t < P.types.size) (hb : Old W W') {sp : Nat → Bool}
    (h : DataW.Trod enc P W 0 (fun _ => true) true t v d ps) (hlt : ∀ x ∈ ps, x.block < W.heap.size) (hs : ∀ x ∈ ps, sp x.block = true) : DataW.Trod enc P W' 0 sp true t v d ps :=
  WideElems.Trod_stays hl hr hrow h (fun x hx => by
    have hp := hlt x hx
    cases x with
    | cell b o => exact World.cell?_of_block (w := W) (hb.block b hp)
    | map b => exact hb.block b hp) hs
end
end Gv
/- From a reading of plain data to what it is without memory: with arrays, and how long slices can be at most. -/
set_option linter.unusedVariables false
namespace Gv
open Go Go.RowKit Go.WideShapes Go.ChangeShapes
namespace Z

/-- a type's shape -/
inductive Sh where
  | int (k : IntKind)
  | bool
  | str
  | slice (e : Sh)
  | agg (l : List Sh)
  | arr (n : Nat) (e : Sh)
mutual
def Sh.size : Sh → Nat
  | .agg l => Sh.sizes l
  | .arr n e => n * e.size
  | _ => 1
def Sh.sizes : List Sh → Nat
  | [] => 0
  | s :: r => s.size + Sh.sizes r
end
mutual
/-- a value takes as many bytes at least -/
def Sh.low : Sh → Nat
  | .int .i64 => 8
  | .int .u64 => 8
  | .int _ => 1
  | .bool => 1
  | .str => 16
  | .slice _ => 24
  | .agg l => Sh.lows l
  | .arr n e => n * e.low
def Sh.lows : List Sh → Nat
  | [] => 0
  | s :: r => s.low + Sh.lows r
end
mutual
def shB (P : Program) : Sh → TypeId → Bool
  | .int k, t => match P.underlying t with
    | some (.int k') => k = k'
    | _ => false
  | .bool, t => match P.underlying t with
    | some .bool => true
    | _ => false
  | .str, t => match P.underlying t with
    | some .string => true
    | _ => false
  | .slice e, t => match P.underlying t with
    | some (.slice et) => shB P e et && P.cellsOf et == e.size && decide (0 < e.size) && decide (e.low ≤ P.bytesOf et)
    | _ => false
  | .agg l, t => match P.underlying t with
    | some (.struct fs) => shBs P l fs.toList 0 && P.cellsOf t == Sh.sizes l
    | _ => false
  | .arr n e, t => match P.underlying t with
    | some (.array n' et) => n == n' && shB P e et && P.cellsOf et == e.size && P.cellsOf t == n * e.size
    | _ => false
def shBs (P : Program) : List Sh → List Field → Nat → Bool
  | [], [], _ => true
  | s :: r, f :: fs, o => f.offset == o && P.cellsOf f.type == s.size && shB P s f.type && shBs P r fs (o + s.size)
  | _, _, _ => false
end
mutual
/-- what a reading's cells are -/
def Den : Sh → List GVal → Prop
  | .int k, gs => ∃ n, gs = [.int k n] ∧ (Lit.int k n).wf = true
  | .bool, gs => ∃ b, gs = [.bool b]
  | .str, gs => ∃ s, gs = [.str s] ∧ s.length ≤ reachBytes
  | .slice e, gs => ∃ xs, gs = [.slice xs .none] ∧ (xs.length ≤ maxLen ∧ xs.length * e.low ≤ reachBytes) ∧ ∀ x ∈ xs, Den e x
  | .agg l, gs => ∃ ps, gs = ps.flatten ∧ Dens l ps
  | .arr n e, gs => ∃ ps : List (List GVal), gs = ps.flatten ∧ ps.length = n ∧ ∀ p ∈ ps, Den e p ∧ p.length = e.size
def Dens : List Sh → List (List GVal) → Prop
  | [], ps => ps = []
  | s :: r, ps => ∃ p q, ps = p :: q ∧ Den s p ∧ Dens r q
end

theorem mem_all {H : Type} {P : Program} {e : TypeId} : ∀ {ds : List (DataW H)} {d : DataW H}, d ∈ ds → ∀ n ∈ d.weights P e, n ∈ DataW.weightsAll P e ds
  | a :: r, d, hd, n, hn => by
    simp only [DataW.weightsAll, List.mem_append]
    rcases List.mem_cons.1 hd with rfl | hd
    · exact .inl hn
    · exact .inr (mem_all hd n hn)
  | [], d, hd, n, hn => by simp at hd
section
variable {H : Type} {enc : TypeId × Value → H} {P : Program} {w : World} {spare : Nat → Bool} {held : Bool}

mutual
theorem rd : ∀ (S : Sh) (n : Nat) (t : TypeId) (cs : List Value) (x : DataW H × List MemPlace), shB P S t = true → DataW.trod enc P w 0 spare held n t cs = some x → (∀ k ∈ x.1.weights P t, k ≤ reachBytes) → ∃ gs, CellsOK w cs gs ∧ Den S gs ∧ cs.length = S.size
  | .int k, n, t, cs, x, hs, h, hw => by
    unfold shB at hs
    split at hs
    · rename_i k' hu
      have hs : k = k' := by simpa using hs
      subst hs
      obtain ⟨m, rfl, _, hwf⟩ := DataW.trod_int hu h
      exact ⟨[.int k m], .one rfl (.int _ _), ⟨m, rfl, hwf⟩, rfl⟩
    · cases hs
  | .bool, n, t, cs, x, hs, h, hw => by
    unfold shB at hs
    split at hs
    · rename_i hu
      obtain ⟨b, rfl, _⟩ := DataW.trod_bool hu h
      exact ⟨[.bool b], .one rfl (.bool _), ⟨b, rfl⟩, rfl⟩
    · cases hs
  | .str, n, t, cs, x, hs, h, hw => by
    unfold shB at hs
    split at hs
    · rename_i hu
      cases n with
      | zero => simp [DataW.trod] at h
      | succ n =>
        unfold DataW.trod at h
        rw [hu] at h
        match cs, h with
        | [.string b], h =>
          simp only at h
          split at h
          · rename_i hl
            simp only [Option.some.injEq] at h
            subst h
            refine ⟨[.str b.data.toList], .one rfl ?_, ⟨_, rfl, ?_⟩, rfl⟩
            · exact VR.str (E := Env.all w) b.data.toList
            · exact hw _ (by simp [DataW.weights])
          · cases h
    · cases hs
  | .slice e, n, t, cs, x, hs, h, hw => by
    unfold shB at hs
    split at hs
    · rename_i et hu
      simp only [Bool.and_eq_true, beq_iff_eq] at hs
      obtain ⟨⟨⟨hs, hsz⟩, hpos⟩, hlow⟩ := hs
      have hpos : 0 < e.size := by simpa using hpos
      have hlow : e.low ≤ P.bytesOf et := by simpa using hlow
      rcases DataW.trod_slice hu h with ⟨rfl, _⟩ | ⟨a, len, cap, elems, rest, m, rfl, rfl, rfl, _, hlc, hcm, hel, helem, _, _⟩
      · exact ⟨[.slice [] .none], .one rfl (.slice none 0 0 [] .none 0 (fun _ => .bool true) rfl (Nat.le_refl _) (by simp) (fun hx => absurd rfl hx) (by simp) trivial), ⟨[], rfl, ⟨by simp, by simp⟩, by simp⟩, rfl⟩
      · have hw0 : (elems.length + rest.length) * P.bytesOf et ≤ reachBytes := by
          have := hw ((elems.length + rest.length) * P.bytesOf et) (by show _ ∈ DataW.weights P t (.slice _ _); rw [DataW.weights]; simp only [hu, List.length_map]; exact List.mem_cons_self)
          exact this
        have hwE : ∀ d ∈ elems.map (·.1), ∀ k ∈ d.weights P et, k ≤ reachBytes := fun d hd k hk =>
          hw k (by show k ∈ DataW.weights P t (.slice _ _); rw [DataW.weights]; simp only [hu]; exact List.mem_cons_of_mem _ (List.mem_append_left _ (mem_all hd k hk)))
        have each : ∀ i : Nat, ∃ cs gs, i < len → (w.cells? 0 (a.add (i * P.cellsOf et)) (P.cellsOf et)) = some cs ∧ CellsOK w cs gs ∧ Den e gs ∧ cs.length = e.size := by
          intro i
          by_cases hi : i < len
          · have := helem i hi
            rw [← hel] at hi
            rw [List.getElem?_eq_getElem hi, Option.bind_eq_some_iff] at this
            obtain ⟨cs, h1, h2⟩ := this
            obtain ⟨gs, h3, h4, h5⟩ := rd e m et cs _ hs h2 (fun k hk => hwE _ (List.mem_map_of_mem (List.getElem_mem hi)) k hk)
            exact ⟨cs, gs, fun _ => ⟨h1, h3, h4, h5⟩⟩
          · exact ⟨[], [], fun h => absurd h hi⟩
        obtain ⟨C, hC⟩ := Classical.axiomOfChoice each
        obtain ⟨G, hCG⟩ := Classical.axiomOfChoice hC
        refine ⟨[.slice ((List.range len).map G) .none], .one rfl ?_, ⟨_, rfl, ⟨by simp; omega, ?_⟩, fun x hx => ?_⟩, rfl⟩
        · have hG : ∀ i, i < len → (G i).length = e.size := fun i hi => by rw [← (hCG i hi).2.1.1]; exact (hCG i hi).2.2.2
          have cell : ∀ i, i < len → ∀ j, j < e.size → w.cell? ((a.add (i * e.size)).add j) = (C i)[j]? := fun i hi j hj => by
            have := cells_at (hCG i hi).1
            rw [hsz] at this
            exact this.2 j hj
          have dm : ∀ k, k < len * e.size → k / e.size < len ∧ k % e.size < e.size ∧ k / e.size * e.size + k % e.size = k := fun k hk =>
            ⟨(Nat.div_lt_iff_lt_mul hpos).2 hk, Nat.mod_lt _ hpos, by rw [Nat.mul_comm]; exact Nat.div_add_mod k e.size⟩
          have hszs : ∀ x ∈ (List.range len).map G, x.length = e.size := fun x hx => by
            obtain ⟨i, hi, rfl⟩ := List.mem_map.1 hx
            exact hG i (by simpa using hi)
          refine .slice (some a) len cap _ .none e.size (fun k => ((C (k / e.size))[k % e.size]?).getD (.bool true)) (by simp) hlc hszs (fun hx => ?_) (fun k g hk => ?_) trivial
          · have hlen : 0 < len := by
              rcases Nat.eq_zero_or_pos len with h0 | h0
              · subst h0; simp at hx
              · exact h0
            have in_ : ∀ i, i < len → ∀ j, j < e.size → ∃ v, (C i)[j]? = some v ∧ v.oneCell' = true := fun i hi j hj => by
              have hl : j < (C i).length := by rw [(hCG i hi).2.2.2]; exact hj
              exact ⟨_, List.getElem?_eq_getElem hl, (hCG i hi).2.1.2.1 _ (List.getElem_mem hl)⟩
            obtain ⟨b, off, spot⟩ := a
            have hspot : spot = none := by
              obtain ⟨v, hv, _⟩ := in_ 0 hlen 0 hpos
              have := cell 0 hlen 0 hpos
              rw [hv] at this
              simpa [Addr.add] using World.cell?_spot this
            subst hspot
            refine ⟨b, off, rfl, fun k hk => ?_⟩
            obtain ⟨d1, d2, d3⟩ := dm k hk
            obtain ⟨v, hv, hv2⟩ := in_ _ d1 _ d2
            have := cell _ d1 _ d2
            rw [hv] at this
            rw [hv]
            refine Env.all_at ?_ hv2
            rw [add_at, add_at, Nat.add_assoc, d3] at this
            exact this
          · have hk' : k < len * e.size := by
              have := (List.getElem?_eq_some_iff.1 hk).1
              rw [flat_len hszs] at this
              simpa using this
            obtain ⟨d1, d2, d3⟩ := dm k hk'
            have hx : ((List.range len).map G)[k / e.size]? = some (G (k / e.size)) := by simp [d1]
            have e1 := flatten_at _ hszs (k / e.size) (k % e.size) _ hx d2
            rw [d3, hk] at e1
            have hl : k % e.size < (C (k / e.size)).length := by rw [(hCG _ d1).2.2.2]; exact d2
            rw [List.getElem?_eq_getElem hl]
            exact (hCG _ d1).2.1.2.2 _ _ _ (List.getElem?_eq_getElem hl) e1.symm
        · rw [List.length_map, List.length_range]
          refine Nat.le_trans (Nat.mul_le_mul (by omega : len ≤ elems.length + rest.length) hlow) hw0
        · obtain ⟨i, hi, rfl⟩ := List.mem_map.1 hx
          exact (hCG i (by simpa using hi)).2.2.1
    · cases hs
  | .agg l, n, t, cs, x, hs, h, hw => by
    unfold shB at hs
    split at hs
    · rename_i fs hu
      simp only [Bool.and_eq_true, beq_iff_eq] at hs
      obtain ⟨hs, hsz⟩ := hs
      obtain ⟨xs, m, rfl, rfl, hcl, hxl, hf⟩ := DataW.trod_struct hu h
      obtain ⟨ps, h1, h2⟩ := rds l m fs.toList cs 0 hs (by simpa [hsz] using hcl) (fun f hf' => by
        obtain ⟨i, hi⟩ := List.getElem?_of_mem hf'
        have := hf i f (by simpa using hi)
        have hlt : i < xs.length := by rw [hxl]; simpa using (List.getElem?_eq_some_iff.1 hi).1
        rw [List.getElem?_eq_getElem hlt] at this
        refine ⟨_, this, fun k hk => hw k ?_⟩
        simp only [DataW.weights, hu]
        exact DataW.weights_mem_each (j := i) (t := f.type) (d := xs[i].1) (by rw [List.getElem?_map, hi]; rfl) (by rw [List.getElem?_map, List.getElem?_eq_getElem hlt]; rfl) k hk)
      exact ⟨ps.flatten, by simpa using h1, ⟨ps, rfl, h2⟩, by rw [hcl, hsz]; rfl⟩
    · cases hs
  | .arr c e, n, t, cs, x, hs, h, hw => by
    unfold shB at hs
    split at hs
    · rename_i n' et hu
      simp only [Bool.and_eq_true, beq_iff_eq] at hs
      obtain ⟨⟨⟨rfl, hs⟩, hsz⟩, hct⟩ := hs
      obtain ⟨xs, m, rfl, rfl, hcl, hxl, hf⟩ := DataW.trod_array hu h
      have key : ∀ k, k ≤ c → ∃ ps : List (List GVal), CellsOK w (cs.take (k * e.size)) ps.flatten ∧ ps.length = k ∧ ∀ p ∈ ps, Den e p ∧ p.length = e.size := by
        intro k
        induction k with
        | zero => exact fun _ => ⟨[], by simp [CellsOK], rfl, by simp⟩
        | succ k ih =>
          intro hk
          obtain ⟨ps, h1, h2, h3⟩ := ih (by omega)
          have := hf k (by omega)
          have hlt : k < xs.length := by omega
          rw [List.getElem?_eq_getElem hlt] at this
          obtain ⟨gs, q1, q2, q3⟩ := rd e m et _ _ hs this (fun z hz => hw z (by
            simp only [DataW.weights, hu]
            exact mem_all (List.mem_map_of_mem (List.getElem_mem hlt)) z hz))
          refine ⟨ps ++ [gs], ?_, by simp [h2], fun p hp => ?_⟩
          · rw [List.flatten_append, List.flatten_cons, List.flatten_nil, List.append_nil, Nat.succ_mul, List.take_add]
            rw [hsz] at q1
            exact h1.append q1
          · rcases List.mem_append.1 hp with hp | hp
            · exact h3 p hp
            · simp at hp; subst hp
              exact ⟨q2, by rw [← q1.1, q3]⟩
      obtain ⟨ps, h1, h2, h3⟩ := key c (Nat.le_refl _)
      rw [List.take_of_length_le (by omega)] at h1
      exact ⟨ps.flatten, h1, ⟨ps, rfl, h2, h3⟩, by rw [hcl, hct]; rfl⟩
    · cases hs
theorem rds : ∀ (l : List Sh) (n : Nat) (fs : List Field) (cs : List Value) (o : Nat), shBs P l fs o = true → cs.length = o + Sh.sizes l →
    (∀ f ∈ fs, ∃ x, DataW.trod enc P w 0 spare held n f.type ((cs.drop f.offset).take (P.cellsOf f.type)) = some x ∧ ∀ k ∈ x.1.weights P f.type, k ≤ reachBytes) → ∃ ps, CellsOK w (cs.drop o) ps.flatten ∧ Dens l ps
  | [], n, fs, cs, o, hs, hl, h => by
    refine ⟨[], ?_, rfl⟩
    rw [List.drop_eq_nil_of_le (by rw [hl]; simp [Sh.sizes])]
    exact ⟨rfl, by simp, fun j c g h1 => by simp at h1⟩
  | s :: r, n, fs, cs, o, hs, hl, h => by
    match fs, hs, h with
    | f :: fs, hs, h =>
      unfold shBs at hs
      simp only [Bool.and_eq_true, beq_iff_eq] at hs
      obtain ⟨⟨⟨h1, h2⟩, h3⟩, h4⟩ := hs
      obtain ⟨x, hx, hxw⟩ := h f (by simp)
      obtain ⟨gs, q1, q2, q3⟩ := rd s n f.type _ _ h3 hx hxw
      simp only [Sh.sizes] at hl
      obtain ⟨ps, k1, k2⟩ := rds r n fs cs (o + s.size) h4 (by rw [hl]; omega) (fun f' hf' => h f' (by simp [hf']))
      refine ⟨gs :: ps, ?_, ⟨gs, ps, rfl, q2, k2⟩⟩
      rw [List.flatten_cons]
      have e : cs.drop o = (cs.drop f.offset).take (P.cellsOf f.type) ++ cs.drop (o + s.size) := by
        rw [h1, h2, ← List.drop_drop]; exact (List.take_append_drop _ _).symm
      rw [e]
      exact q1.append k1
    | [], hs, h => simp [shBs] at hs
end

def Sh.val : Sh → List GVal → GVal
  | .agg _, gs => .agg gs
  | .arr _ _, gs => .agg gs
  | _, gs => gs.headD .any

/-- an argument, from its reading -/
theorem arg_read {S : Sh} {t : TypeId} {r : Reach} {base : Nat} {v : Value} {d : DataW H} {ps : List MemPlace} (hs : shB P S t = true) (hval : Value.okWide P w r base t v) (h : DataW.Trod enc P w 0 spare held t v d ps) (hw : ∀ k ∈ d.weights P t, k ≤ reachBytes) :
    ∃ gs, Den S gs ∧ VR (Env.all w) v (S.val gs) := by
  obtain ⟨n, h⟩ := h
  obtain ⟨gs, h1, h2, h3⟩ := rd S n t _ _ hs h hw
  refine ⟨gs, h2, ?_⟩
  have single : ∀ x : Value, v = x → x.cells.toList = [x] → (∃ g, gs = [g]) → S.val gs = gs.headD .any → VR (Env.all w) v (S.val gs) := by
    intro x hx hc ⟨g, hg⟩ hv
    subst hx; subst hg
    rw [hv]
    rw [hc] at h1
    exact h1.2.2 0 _ _ rfl rfl
  cases S with
  | int k =>
    unfold shB at hs
    split at hs
    · rename_i k' hu
      obtain ⟨n, rfl⟩ := okWide_int hu hval
      obtain ⟨m, e, _⟩ := h2
      exact single _ rfl rfl ⟨_, e⟩ rfl
    · cases hs
  | bool =>
    unfold shB at hs
    split at hs
    · rename_i hu
      obtain ⟨n, rfl⟩ := okWide_bool hu hval
      obtain ⟨m, e⟩ := h2
      exact single _ rfl rfl ⟨_, e⟩ rfl
    · cases hs
  | str =>
    unfold shB at hs
    split at hs
    · rename_i hu
      obtain ⟨n, rfl⟩ := okWide_string hu hval
      obtain ⟨m, e, _⟩ := h2
      exact single _ rfl rfl ⟨_, e⟩ rfl
    · cases hs
  | slice e =>
    unfold shB at hs
    split at hs
    · rename_i et hu
      obtain ⟨a, len, cap, rfl⟩ := okWide_slice hu hval
      obtain ⟨m, e, _⟩ := h2
      exact single _ rfl rfl ⟨_, e⟩ rfl
    · cases hs
  | agg l =>
    unfold shB at hs
    split at hs
    · rename_i fs hu
      obtain ⟨cs, rfl, _⟩ := okWide_struct hu hval
      refine .agg cs gs (by have := h1.1; simpa [Value.cells] using this) (fun j g hj => ?_)
      have hl : j < cs.size := by
        have := (List.getElem?_eq_some_iff.1 hj).1
        rw [← h1.1] at this; simpa [Value.cells] using this
      have := h1.2.2 j cs[j] g (by simp [Value.cells, hl]) hj
      simpa [Array.getD, hl] using this
    · cases hs
  | arr c e =>
    unfold shB at hs
    split at hs
    · rename_i n' et hu
      have hval' := hval
      simp only [Value.okWide, hu] at hval'
      obtain ⟨cs, rfl, hcs, _⟩ := hval'
      refine .agg cs gs (by have := h1.1; simpa [Value.cells] using this) (fun j g hj => ?_)
      have hl : j < cs.size := by
        have := (List.getElem?_eq_some_iff.1 hj).1
        rw [← h1.1] at this; simpa [Value.cells] using this
      have := h1.2.2 j cs[j] g (by simp [Value.cells, hl]) hj
      simpa [Array.getD, hl] using this
    · cases hs
end
end Z
end Gv
/- FlatBack: from the readings. -/
set_option linter.unusedVariables false
namespace Gv.Try
open Go Gv Go.Proofs
abbrev intZ : Z.Sh := .int .i64
theorem denZ_ints {gs : List GVal} (h : Z.Den (.slice intZ) gs) : ∃ l : List Int, gs = [.slice (ints l) .none] ∧ l.length ≤ 17592186044416 ∧ ∀ n ∈ l, (Lit.int .i64 n).wf = true := by
  obtain ⟨xs, rfl, ⟨_, hl⟩, hx⟩ := h
  have : ∀ xs : List (List GVal), (∀ x ∈ xs, Z.Den intZ x) → ∃ l : List Int, xs = ints l ∧ ∀ n ∈ l, (Lit.int .i64 n).wf = true := by
    intro xs
    induction xs with
    | nil => exact fun _ => ⟨[], rfl, by simp⟩
    | cons a r ih =>
      intro h
      obtain ⟨l, rfl, hl⟩ := ih fun x hx => h x (by simp [hx])
      obtain ⟨n, rfl, hn⟩ := h a (by simp)
      exact ⟨n :: l, rfl, by simpa using ⟨hn, hl⟩⟩
  obtain ⟨l, rfl, h2⟩ := this xs hx
  refine ⟨l, rfl, ?_, h2⟩
  have e : (ints l).length * 8 ≤ reachBytes := hl
  unfold reachBytes at e
  rw [ints_length] at e
  omega
abbrev rawZ : Z.Sh := .agg [.slice intZ, .slice intZ]
theorem denZ_raw {gs : List GVal} (h : Z.Den rawZ gs) : ∃ x y : List Int, gs = [.slice (ints x) .none, .slice (ints y) .none] := by
  obtain ⟨ps, rfl, p, q, rfl, h1, p2, q2, rfl, h2, rfl⟩ := h
  obtain ⟨x, rfl, l1, w1⟩ := denZ_ints h1
  obtain ⟨y, rfl, l2, w2⟩ := denZ_ints h2
  exact ⟨x, y, rfl⟩
abbrev segZ : Z.Sh := .agg [intZ, intZ, .slice intZ, .bool, .bool]
theorem wf_le {n : Int} (h : (Lit.int .i64 n).wf = true) : n ≤ 9223372036854775807 := by
  simp [Lit.wf] at h
  exact h.2
theorem denZ_seg {gs : List GVal} (h : Z.Den segZ gs) : ∃ s : Seg, gs = segG s ∧ s.par.length ≤ 17592186044416 ∧ s.hi ≤ 9223372036854775807 := by
  obtain ⟨ps, rfl, p1, q1, rfl, h1, p2, q2, rfl, h2, p3, q3, rfl, h3, p4, q4, rfl, h4, p5, q5, rfl, h5, rfl⟩ := h
  obtain ⟨lo, rfl, w1⟩ := h1
  obtain ⟨hi, rfl, w2⟩ := h2
  obtain ⟨par, rfl, l3, _⟩ := denZ_ints h3
  obtain ⟨b1, rfl⟩ := h4
  obtain ⟨b2, rfl⟩ := h5
  exact ⟨⟨lo, hi, par, b1, b2⟩, rfl, l3, wf_le w2⟩
theorem denZ_segs {gs : List GVal} (h : Z.Den (.slice segZ) gs) : ∃ l : List Seg, gs = [.slice (segsG l) .none] ∧ l.length ≤ 17592186044416 ∧ ∀ s ∈ l, s.par.length ≤ 17592186044416 ∧ s.hi ≤ 9223372036854775807 := by
  obtain ⟨xs, rfl, ⟨_, hl⟩, hx⟩ := h
  have : ∀ xs : List (List GVal), (∀ x ∈ xs, Z.Den segZ x) → ∃ l : List Seg, xs = segsG l ∧ ∀ s ∈ l, s.par.length ≤ 17592186044416 ∧ s.hi ≤ 9223372036854775807 := by
    intro xs
    induction xs with
    | nil => exact fun _ => ⟨[], rfl, by simp⟩
    | cons a r ih =>
      intro h
      obtain ⟨l, rfl, hl⟩ := ih fun x hx => h x (by simp [hx])
      obtain ⟨s, rfl, hs⟩ := denZ_seg (h a (by simp))
      refine ⟨s :: l, rfl, fun q hq => ?_⟩
      rcases List.mem_cons.1 hq with rfl | hq
      · exact hs
      · exact hl q hq
  obtain ⟨l, rfl, h2⟩ := this xs hx
  refine ⟨l, rfl, ?_, h2⟩
  have e : (segsG l).length * 42 ≤ reachBytes := hl
  unfold reachBytes at e
  rw [segsG_length] at e
  omega
theorem c15 : GPure Try.prog 15 [] (.bool true) := comes_ok mix T_ok k15
theorem w7 {g0 g1 g2 g3 g4 g5 : List GVal} (h0 : Z.Den rawZ g0) (h1 : Z.Den intZ g1) (h2 : Z.Den intZ g2) (h3 : Z.Den intZ g3) (h4 : Z.Den (.slice segZ) g4) (h5 : Z.Den .bool g5) :
    GPure Try.prog 7 ([rawZ.val g0] ++ [Z.Sh.val intZ g1] ++ [Z.Sh.val intZ g2] ++ [Z.Sh.val intZ g3] ++ [Z.Sh.val (.slice segZ) g4] ++ [Z.Sh.val .bool g5]) (.bool true) := by
  obtain ⟨x, y, rfl⟩ := denZ_raw h0
  obtain ⟨a, rfl, _⟩ := h1
  obtain ⟨b, rfl, _⟩ := h2
  obtain ⟨c, rfl, _⟩ := h3
  obtain ⟨l, rfl, l1, l2⟩ := denZ_segs h4
  obtain ⟨t, rfl⟩ := h5
  refine spec7 x y a b c l t l1 (fun i => ?_) (fun i => ?_) c15
  · by_cases hi : i < l.length
    · rw [List.getD_eq_getElem?_getD, List.getElem?_eq_getElem hi]; exact (l2 _ (List.getElem_mem hi)).1
    · rw [List.getD_eq_getElem?_getD, List.getElem?_eq_none (by omega)]; exact Nat.zero_le _
  · by_cases hi : i < l.length
    · rw [List.getD_eq_getElem?_getD, List.getElem?_eq_getElem hi]; exact (l2 _ (List.getElem_mem hi)).2
    · rw [List.getD_eq_getElem?_getD, List.getElem?_eq_none (by omega)]; show (0 : Int) ≤ _; omega
end Gv.Try
