/- Contracts: taproothand's ahead. -/
import Derived.Test.YtgkglnjmiobdmaaGreatDoorP12
import Derived.Test.YtgkglnjmiobdmaaGreatDoorP5
import Derived.Test.YtgkglnjmiobdmaaGreatDoorP11
import Derived.Test.YtgkglnjmiobdmaaGreatDoorP9
set_option linter.unusedVariables false
set_option linter.unusedSimpArgs false
set_option maxRecDepth 20000
set_option maxHeartbeats 4000000
namespace Gv.Tryz
open Go Gv Go.Proofs
theorem ints_snoc (l : List Int) (x : Int) : ints l ++ [[.int .i64 x]] = ints (l ++ [x]) := by simp [ints]
theorem ints_len (l : List Int) : (ints l).length = l.length := by simp [ints]
theorem all_ints (l : List Int) : (∀ x ∈ ints l, x.length = 1) = True := eq_true fun x hx => by obtain ⟨s, _, rfl⟩ := List.mem_map.1 hx; rfl
theorem frz_ints (O : List GObj) (n : Nat) (l : List Int) : frzLL (Gv.frz O (n + 1)) (ints l) = some (ints l) :=
  frzLL_same fun x hx => by
    obtain ⟨s, _, rfl⟩ := List.mem_map.1 hx
    exact frzL_same fun y hy => by rw [List.mem_singleton.1 hy]; simp only [Gv.frz]
theorem ints_at (l : List Int) (i : Nat) (h : i < l.length) : (ints l).getD i [] = [.int .i64 (l.getD i 0)] := by simp [ints, List.getD, h]
theorem nrm {x : Int} (h : -9223372036854775808 ≤ x) (k : x ≤ 9223372036854775807) : norm .i64 x = x := norm_i64 ⟨h, k⟩
def ahP (n : Int) (j : Nat) : Int := if n.tmod 7 = 2 then n.tdiv 2 else n - 1 - j * (2 + n.tmod 5)
def ahStep (n : Int) (l : List Int) (j : Nat) : List Int := if 0 ≤ ahP n j ∧ ahP n j < n ∧ (l = [] ∨ l.getD 0 0 ≠ ahP n j) then l ++ [ahP n j] else l
def ahL (n : Int) (k : Nat) : List Int := (List.range k).foldl (ahStep n) []
theorem ahL_succ (n : Int) (k : Nat) : ahL n (k + 1) = ahStep n (ahL n k) k := by simp [ahL, List.range_succ]
theorem ahL_len (n : Int) : ∀ k : Nat, (ahL n k).length ≤ k
  | 0 => by simp [ahL]
  | k + 1 => by
    rw [ahL_succ]
    have := ahL_len n k
    unfold ahStep
    split
    · rw [List.length_append, List.length_singleton]; omega
    · omega
def ahK (n : Int) : Nat := if n = 0 ∨ n.tmod 11 = 5 then 0 else if n.tmod 4 = 3 then 2 else 1
def aheadL (n : Int) : List Int := ahL n (ahK n)
theorem aheadL_len (n : Int) : (aheadL n).length ≤ 2 := by
  have := ahL_len n (ahK n)
  unfold aheadL
  have : ahK n ≤ 2 := by unfold ahK; split <;> (try split) <;> omega
  omega
theorem gAhead (n : Int) (h0 : 0 ≤ n) (h1 : n < 60) : GPure Tryz.prog 32 [.int .i64 n] (.slice (ints (aheadL n)) .none) := by
  have m5 := Int.tmod_nonneg 5 h0
  have m5' := Int.tmod_lt_of_pos n (by decide : (0 : Int) < 5)
  have q2 : 0 ≤ n.tdiv 2 := Int.tdiv_nonneg h0 (by decide)
  have q2' : n.tdiv 2 ≤ n := Int.tdiv_le_self 2 h0
  have hP : ∀ j : Nat, ahP n j = if n.tmod 7 = 2 then n.tdiv 2 else n - 1 - j * (2 + n.tmod 5) := fun j => rfl
  refine GCalls.toPure ?_
  by_cases e0 : n = 0
  · have d0 : (n = 0) = True := eq_true e0
    have ek : ahK n = 0 := by unfold ahK; rw [if_pos (.inl e0)]
    refine h32.calls mixS (by simp) ?_
    simp only [gstart, s32, List.cons_append, List.nil_append, List.length_cons, List.length_nil, Nat.reduceAdd, Nat.reduceSub, List.replicate_succ, List.replicate_zero]
    simp +contextual -implicitDefEqProofs (maxSteps := 2000000) (disch := omega) only [binV, GVal.ofConst, ne_eq, vcA, ↓vcB, vcC, e32, d0, not_true_eq_false, false_imp_iff, true_imp_iff]
    refine vcSLoop_by (ι := Unit) (fun p => ⟨[.int .i64 n, .any, .any, .slice [] .nil, .int .i64 0, .int .i64 0] ++ List.replicate 55 .any, []⟩) (fun p => 0) ?_ ?_
    · exact Into.first () ⟨[], by simp⟩ (by simp [WL, leG_self, leG_any])
    · rintro ⟨⟩
      simp +contextual -implicitDefEqProofs (maxSteps := 2000000) (disch := omega) only [↓lenV, binV, ↓buildSliceV, ↓appendV, ↓srcV, fillE, GVal.cells, GVal.ofConst, ↓resV, resG, List.map, ↓reduceIte, Nat.reduceLeDiff, reduceCtorEq, implies_true, ne_eq, ↓asrcV, Tag.cap, List.replicate, allSolid, GVal.solid, Nat.reduceMul, Nat.reduceLT, vcA, ↓vcB, vcC, fbFw, Int.lt_irrefl, false_imp_iff]
      exact ⟨2, .slice [] .nil, by rw [Gv.frz]; rfl, by rw [leA_slice]; unfold aheadL; rw [ek]; rfl⟩
  · have d0 : (n = 0) = False := eq_false e0
    by_cases e1 : n.tmod 11 = 5
    · have d1 : (n.tmod 11 = 5) = True := eq_true e1
      have ek : ahK n = 0 := by unfold ahK; rw [if_pos (.inr e1)]
      refine h32.calls mixS (by simp) ?_
      simp only [gstart, s32, List.cons_append, List.nil_append, List.length_cons, List.length_nil, Nat.reduceAdd, Nat.reduceSub, List.replicate_succ, List.replicate_zero]
      simp +contextual -implicitDefEqProofs (maxSteps := 2000000) (disch := omega) only [binV, GVal.ofConst, ne_eq, vcA, ↓vcB, vcC, e32, d0, d1, not_true_eq_false, false_imp_iff, true_imp_iff]
      refine ⟨by decide, ?_⟩
      refine vcSLoop_by (ι := Unit) (fun p => ⟨[.int .i64 n, .any, .any, .slice [] .nil, .int .i64 0, .int .i64 0] ++ List.replicate 55 .any, []⟩) (fun p => 0) ?_ ?_
      · exact Into.first () ⟨[], by simp⟩ (by simp [WL, leG_self, leG_any])
      · rintro ⟨⟩
        simp +contextual -implicitDefEqProofs (maxSteps := 2000000) (disch := omega) only [↓lenV, binV, ↓buildSliceV, ↓appendV, ↓srcV, fillE, GVal.cells, GVal.ofConst, ↓resV, resG, List.map, ↓reduceIte, Nat.reduceLeDiff, ne_eq, ↓asrcV, Tag.cap, List.replicate, allSolid, GVal.solid, Nat.reduceMul, Nat.reduceLT, vcA, ↓vcB, vcC, fbFw, Int.lt_irrefl, false_imp_iff]
        exact ⟨2, .slice [] .nil, by rw [Gv.frz]; rfl, by rw [leA_slice]; unfold aheadL; rw [ek]; rfl⟩
    · have d1 : (n.tmod 11 = 5) = False := eq_false e1
      by_cases e2 : n.tmod 4 = 3
      · have d2 : (n.tmod 4 = 3) = True := eq_true e2
        have ek : ahK n = 2 := by unfold ahK; rw [if_neg (by simp [e0, e1]), if_pos e2]
        refine h32.calls mixS (by simp) ?_
        simp only [gstart, s32, List.cons_append, List.nil_append, List.length_cons, List.length_nil, Nat.reduceAdd, Nat.reduceSub, List.replicate_succ, List.replicate_zero]
        simp +contextual -implicitDefEqProofs (maxSteps := 2000000) (disch := omega) only [binV, GVal.ofConst, ne_eq, vcA, ↓vcB, vcC, e32, d0, d1, d2, not_true_eq_false, false_imp_iff, true_imp_iff]
        refine ⟨by decide, by decide, ?_⟩
        refine vcSLoop_by (ι := { p : Nat × Nat // p.1 ≤ 2 }) (fun p => ⟨[.int .i64 n, .any, .any, .slice (ints (ahL n p.1.1)) (.tok 0 p.1.2), .int .i64 2, .int .i64 (p.1.1 : Nat)] ++ List.replicate 55 .any, [.tok p.1.2 1]⟩) (fun p => 2 - p.1.1) ?_ ?_
        · refine Into.tok 3 1 [] rfl rfl ?_
          simp +contextual -implicitDefEqProofs (maxSteps := 2000000) (disch := omega) only [List.replicate, vcA, vcC]
          intro t0
          exact Into.first ⟨(0, t0), by show 0 ≤ 2; omega⟩ ⟨[], by simp⟩ (by simp [WL, leG_self, leG_any, ahL, ints])
        · rintro ⟨⟨j, v⟩, hj⟩
          change j ≤ 2 at hj
          have hll := ahL_len n j
          by_cases h : j < 2
          · have dj : ((j : Int) < 2) = True := eq_true (by omega)
            have j01 : (j : Int) = 0 ∨ (j : Int) = 1 := by omega
            have mj : (j : Int) * (2 + n.tmod 5) ≤ 12 ∧ 0 ≤ (j : Int) * (2 + n.tmod 5) := by rcases j01 with e | e <;> rw [e] <;> omega
            have nm1 : norm .i64 ((j : Int) * (2 + n.tmod 5)) = (j : Int) * (2 + n.tmod 5) := nrm (by omega) (by omega)
            have nm2 : norm .i64 (n - 1 - (j : Int) * (2 + n.tmod 5)) = n - 1 - (j : Int) * (2 + n.tmod 5) := nrm (by omega) (by omega)
            simp +contextual -implicitDefEqProofs (maxSteps := 2000000) (disch := omega) only [↓lenV, binV, ↓loadV, ↓indexAddrV, ↓buildSliceV, ↓appendV, ↓srcV, fillE, GVal.cells, grp, GVal.ofConst, List.map, List.headD, List.take, ↓reduceIte, Nat.reduceLeDiff, implies_true, ne_eq, ↓asrcV, Tag.cap, List.replicate, allSolid, GVal.solid, Nat.reduceMul, vcA, ↓vcB, vcC, fbFw, dj, nm1, nm2]
            exact ⟨by decide, by decide, fun e7 => ⟨by decide, fun c1 => ⟨fun c2 => ⟨fun c3 => ⟨by omega, by omega, fun st => by
                        have hE : ahL n (j + 1) = ahL n j ++ [n.tdiv 2] := by rw [ahL_succ]; unfold ahStep; rw [hP, if_pos e7]; exact if_pos ⟨c1, c2, .inl (List.length_eq_zero_iff.1 (by omega))⟩
                        exact Into.at ⟨(j + 1, st), by show j + 1 ≤ 2; omega⟩ (by show 2 - (j + 1) < 2 - j; omega) ⟨[], by simp⟩ (by simp [WL, leG_self, leG_any, hE, ints_snoc])⟩, fun c3 => ⟨by omega, by omega, fun c4 => ⟨by omega, by omega, fun st => by
                        have hE : ahL n (j + 1) = ahL n j ++ [n.tdiv 2] := by rw [ahL_succ]; unfold ahStep; rw [hP, if_pos e7]; exact if_pos ⟨c1, c2, .inr c4⟩
                        exact Into.at ⟨(j + 1, st), by show j + 1 ≤ 2; omega⟩ (by show 2 - (j + 1) < 2 - j; omega) ⟨[], by simp⟩ (by simp [WL, leG_self, leG_any, hE, ints_snoc])⟩, fun c4 => by
                        have hE : ahL n (j + 1) = ahL n j := by rw [ahL_succ]; unfold ahStep; rw [hP, if_pos e7]; exact if_neg (by rintro ⟨_, _, q | q⟩; exact c3 (by rw [q]; rfl); exact q c4)
                        exact Into.at ⟨(j + 1, v), by show j + 1 ≤ 2; omega⟩ (by show 2 - (j + 1) < 2 - j; omega) ⟨[], by simp⟩ (by simp [WL, leG_self, leG_any, hE])⟩⟩, fun c2 => by
                        have hE : ahL n (j + 1) = ahL n j := by rw [ahL_succ]; unfold ahStep; rw [hP, if_pos e7]; exact if_neg (fun q => by omega)
                        exact Into.at ⟨(j + 1, v), by show j + 1 ≤ 2; omega⟩ (by show 2 - (j + 1) < 2 - j; omega) ⟨[], by simp⟩ (by simp [WL, leG_self, leG_any, hE])⟩, fun c1 => by
                        have hE : ahL n (j + 1) = ahL n j := by rw [ahL_succ]; unfold ahStep; rw [hP, if_pos e7]; exact if_neg (fun q => by omega)
                        exact Into.at ⟨(j + 1, v), by show j + 1 ≤ 2; omega⟩ (by show 2 - (j + 1) < 2 - j; omega) ⟨[], by simp⟩ (by simp [WL, leG_self, leG_any, hE])⟩, fun e7 => ⟨fun c1 => ⟨fun c2 => ⟨fun c3 => ⟨by omega, by omega, fun st => by
                        have hE : ahL n (j + 1) = ahL n j ++ [(n - 1 - (j : Int) * (2 + n.tmod 5))] := by rw [ahL_succ]; unfold ahStep; rw [hP, if_neg e7]; exact if_pos ⟨c1, c2, .inl (List.length_eq_zero_iff.1 (by omega))⟩
                        exact Into.at ⟨(j + 1, st), by show j + 1 ≤ 2; omega⟩ (by show 2 - (j + 1) < 2 - j; omega) ⟨[], by simp⟩ (by simp [WL, leG_self, leG_any, hE, ints_snoc])⟩, fun c3 => ⟨by omega, by omega, fun c4 => ⟨by omega, by omega, fun st => by
                        have hE : ahL n (j + 1) = ahL n j ++ [(n - 1 - (j : Int) * (2 + n.tmod 5))] := by rw [ahL_succ]; unfold ahStep; rw [hP, if_neg e7]; exact if_pos ⟨c1, c2, .inr c4⟩
                        exact Into.at ⟨(j + 1, st), by show j + 1 ≤ 2; omega⟩ (by show 2 - (j + 1) < 2 - j; omega) ⟨[], by simp⟩ (by simp [WL, leG_self, leG_any, hE, ints_snoc])⟩, fun c4 => by
                        have hE : ahL n (j + 1) = ahL n j := by rw [ahL_succ]; unfold ahStep; rw [hP, if_neg e7]; exact if_neg (by rintro ⟨_, _, q | q⟩; exact c3 (by rw [q]; rfl); exact q c4)
                        exact Into.at ⟨(j + 1, v), by show j + 1 ≤ 2; omega⟩ (by show 2 - (j + 1) < 2 - j; omega) ⟨[], by simp⟩ (by simp [WL, leG_self, leG_any, hE])⟩⟩, fun c2 => by
                        have hE : ahL n (j + 1) = ahL n j := by rw [ahL_succ]; unfold ahStep; rw [hP, if_neg e7]; exact if_neg (fun q => by omega)
                        exact Into.at ⟨(j + 1, v), by show j + 1 ≤ 2; omega⟩ (by show 2 - (j + 1) < 2 - j; omega) ⟨[], by simp⟩ (by simp [WL, leG_self, leG_any, hE])⟩, fun c1 => by
                        have hE : ahL n (j + 1) = ahL n j := by rw [ahL_succ]; unfold ahStep; rw [hP, if_neg e7]; exact if_neg (fun q => by omega)
                        exact Into.at ⟨(j + 1, v), by show j + 1 ≤ 2; omega⟩ (by show 2 - (j + 1) < 2 - j; omega) ⟨[], by simp⟩ (by simp [WL, leG_self, leG_any, hE])⟩⟩
          · have dj : ((j : Int) < 2) = False := eq_false (by omega)
            have e : ahL n j = ahL n 2 := by rw [show j = 2 by omega]
            simp +contextual -implicitDefEqProofs (maxSteps := 2000000) (disch := omega) only [↓lenV, binV, ↓loadV, ↓indexAddrV, ↓buildSliceV, ↓appendV, ↓srcV, fillE, GVal.cells, grp, GVal.ofConst, ↓resV, resG, List.map, List.headD, List.take, ↓reduceIte, Nat.reduceLeDiff, implies_true, ne_eq, ↓asrcV, Tag.cap, List.replicate, allSolid, GVal.solid, Nat.reduceMul, vcA, ↓vcB, vcC, fbFw, dj, e]
            exact ⟨2, .slice (ints (ahL n 2)) (Tag.frz (.tok 0 v)), by rw [Gv.frz, frz_ints], by rw [leA_slice]; unfold aheadL; rw [ek]⟩
      · have d2 : (n.tmod 4 = 3) = False := eq_false e2
        have ek : ahK n = 1 := by unfold ahK; rw [if_neg (by simp [e0, e1]), if_neg e2]
        refine h32.calls mixS (by simp) ?_
        simp only [gstart, s32, List.cons_append, List.nil_append, List.length_cons, List.length_nil, Nat.reduceAdd, Nat.reduceSub, List.replicate_succ, List.replicate_zero]
        simp +contextual -implicitDefEqProofs (maxSteps := 2000000) (disch := omega) only [binV, GVal.ofConst, ne_eq, vcA, ↓vcB, vcC, e32, d0, d1, d2, false_imp_iff, true_imp_iff]
        refine ⟨by decide, by decide, ?_⟩
        refine vcSLoop_by (ι := { p : Nat × Nat // p.1 ≤ 1 }) (fun p => ⟨[.int .i64 n, .any, .any, .slice (ints (ahL n p.1.1)) (.tok 0 p.1.2), .int .i64 1, .int .i64 (p.1.1 : Nat)] ++ List.replicate 55 .any, [.tok p.1.2 1]⟩) (fun p => 1 - p.1.1) ?_ ?_
        · refine Into.tok 3 1 [] rfl rfl ?_
          simp +contextual -implicitDefEqProofs (maxSteps := 2000000) (disch := omega) only [List.replicate, vcA, vcC]
          intro t0
          exact Into.first ⟨(0, t0), by show 0 ≤ 1; omega⟩ ⟨[], by simp⟩ (by simp [WL, leG_self, leG_any, ahL, ints])
        · rintro ⟨⟨j, v⟩, hj⟩
          change j ≤ 1 at hj
          have hll := ahL_len n j
          by_cases h : j < 1
          · have dj : ((j : Int) < 1) = True := eq_true (by omega)
            have j01 : (j : Int) = 0 ∨ (j : Int) = 1 := by omega
            have mj : (j : Int) * (2 + n.tmod 5) ≤ 12 ∧ 0 ≤ (j : Int) * (2 + n.tmod 5) := by rcases j01 with e | e <;> rw [e] <;> omega
            have nm1 : norm .i64 ((j : Int) * (2 + n.tmod 5)) = (j : Int) * (2 + n.tmod 5) := nrm (by omega) (by omega)
            have nm2 : norm .i64 (n - 1 - (j : Int) * (2 + n.tmod 5)) = n - 1 - (j : Int) * (2 + n.tmod 5) := nrm (by omega) (by omega)
            simp +contextual -implicitDefEqProofs (maxSteps := 2000000) (disch := omega) only [↓lenV, binV, ↓loadV, ↓indexAddrV, ↓buildSliceV, ↓appendV, ↓srcV, fillE, GVal.cells, grp, GVal.ofConst, List.map, List.headD, List.take, ↓reduceIte, Nat.reduceLeDiff, reduceCtorEq, implies_true, ne_eq, ↓asrcV, Tag.cap, List.replicate, allSolid, GVal.solid, Nat.reduceMul, vcA, ↓vcB, vcC, fbFw, dj, nm1, nm2]
            exact ⟨by decide, by decide, fun e7 => ⟨by decide, fun c1 => ⟨fun c2 => ⟨fun c3 => ⟨by omega, by omega, fun st => by
                        have hE : ahL n (j + 1) = ahL n j ++ [n.tdiv 2] := by rw [ahL_succ]; unfold ahStep; rw [hP, if_pos e7]; exact if_pos ⟨c1, c2, .inl (List.length_eq_zero_iff.1 (by omega))⟩
                        exact Into.at ⟨(j + 1, st), by show j + 1 ≤ 1; omega⟩ (by show 1 - (j + 1) < 1 - j; omega) ⟨[], by simp⟩ (by simp [WL, leG_self, leG_any, hE, ints_snoc])⟩, fun c3 => (c3 (by omega)).elim⟩, fun c2 => by
                        have hE : ahL n (j + 1) = ahL n j := by rw [ahL_succ]; unfold ahStep; rw [hP, if_pos e7]; exact if_neg (fun q => by omega)
                        exact Into.at ⟨(j + 1, v), by show j + 1 ≤ 1; omega⟩ (by show 1 - (j + 1) < 1 - j; omega) ⟨[], by simp⟩ (by simp [WL, leG_self, leG_any, hE])⟩, fun c1 => by
                        have hE : ahL n (j + 1) = ahL n j := by rw [ahL_succ]; unfold ahStep; rw [hP, if_pos e7]; exact if_neg (fun q => by omega)
                        exact Into.at ⟨(j + 1, v), by show j + 1 ≤ 1; omega⟩ (by show 1 - (j + 1) < 1 - j; omega) ⟨[], by simp⟩ (by simp [WL, leG_self, leG_any, hE])⟩, fun e7 => ⟨fun c1 => ⟨fun c2 => ⟨fun c3 => ⟨by omega, by omega, fun st => by
                        have hE : ahL n (j + 1) = ahL n j ++ [(n - 1 - (j : Int) * (2 + n.tmod 5))] := by rw [ahL_succ]; unfold ahStep; rw [hP, if_neg e7]; exact if_pos ⟨c1, c2, .inl (List.length_eq_zero_iff.1 (by omega))⟩
                        exact Into.at ⟨(j + 1, st), by show j + 1 ≤ 1; omega⟩ (by show 1 - (j + 1) < 1 - j; omega) ⟨[], by simp⟩ (by simp [WL, leG_self, leG_any, hE, ints_snoc])⟩, fun c3 => (c3 (by omega)).elim⟩, fun c2 => by
                        have hE : ahL n (j + 1) = ahL n j := by rw [ahL_succ]; unfold ahStep; rw [hP, if_neg e7]; exact if_neg (fun q => by omega)
                        exact Into.at ⟨(j + 1, v), by show j + 1 ≤ 1; omega⟩ (by show 1 - (j + 1) < 1 - j; omega) ⟨[], by simp⟩ (by simp [WL, leG_self, leG_any, hE])⟩, fun c1 => by
                        have hE : ahL n (j + 1) = ahL n j := by rw [ahL_succ]; unfold ahStep; rw [hP, if_neg e7]; exact if_neg (fun q => by omega)
                        exact Into.at ⟨(j + 1, v), by show j + 1 ≤ 1; omega⟩ (by show 1 - (j + 1) < 1 - j; omega) ⟨[], by simp⟩ (by simp [WL, leG_self, leG_any, hE])⟩⟩
          · have dj : ((j : Int) < 1) = False := eq_false (by omega)
            have e : ahL n j = ahL n 1 := by rw [show j = 1 by omega]
            simp +contextual -implicitDefEqProofs (maxSteps := 2000000) (disch := omega) only [↓lenV, binV, ↓loadV, ↓indexAddrV, ↓buildSliceV, ↓appendV, ↓srcV, fillE, GVal.cells, grp, GVal.ofConst, ↓resV, resG, List.map, List.headD, List.take, ↓reduceIte, Nat.reduceLeDiff, implies_true, ne_eq, ↓asrcV, Tag.cap, List.replicate, allSolid, GVal.solid, Nat.reduceMul, vcA, ↓vcB, vcC, fbFw, dj, e]
            exact ⟨2, .slice (ints (ahL n 1)) (Tag.frz (.tok 0 v)), by rw [Gv.frz, frz_ints], by rw [leA_slice]; unfold aheadL; rw [ek]⟩
end Gv.Tryz
/- Less is said of a row that the call owns. -/
set_option linter.unusedVariables false
namespace Gv
open Go
theorem Into.rowLe {st : GSt} {N : GSt → Prop} (i : Nat) {t sz : Nat} (xs ys : List (List GVal)) (hO : st.o[i]? = some (.row t sz xs)) (hw : GLess xs ys) (h : Into ⟨st.s, st.o.set i (.row t sz ys)⟩ N) : Into st N := by
  intro E a w hs' ha
  obtain ⟨h1, h2, h3⟩ := hw.flat
  obtain ⟨l, _, _, hz, _⟩ := hs'.real i _ hO
  obtain ⟨q1, q2⟩ := hs'.cells hO (ys := ys) h2.symm (fun y hy => h3 sz hz y hy) (fun j g' hj => by
    obtain ⟨g, hg, hl⟩ := h1.at_ j g' hj
    exact ⟨g, hg, fun v hv => hl _ _ hv⟩)
  obtain ⟨st', E', r1, r2, r3, r4⟩ := h E a w q1 ha
  exact ⟨st', E', r1, r2, q2.trans r3, r4⟩
end Gv
namespace Gv
open Go
end Gv
/- Contracts: taproothand's Request: some request, within bounds. -/
set_option linter.unusedVariables false
set_option linter.unusedSimpArgs false
set_option maxRecDepth 200000
set_option maxHeartbeats 8000000
namespace Gv.Tryz
open Go Gv Go.Proofs
open Nat (reduceEqDiff reduceAdd reduceSub reduceLeDiff reduceMul reduceLT)
abbrev RC := Int × Int × List Int
def rawC (r : RC) : List GVal := [.int .i64 r.1, .int .i64 r.2.1, .slice (ints r.2.2) .none]
def rawsG (l : List RC) : List (List GVal) := l.map rawC
instance : Inhabited RC := ⟨(0, 0, [])⟩
theorem rawsG_len (l : List RC) : (rawsG l).length = l.length := by simp [rawsG]
theorem rawsG_at (l : List RC) (i : Nat) (h : i < l.length) : (rawsG l).getD i [] = rawC (l.getD i default) := by simp [rawsG, List.getD, h]
structure RR where
  l : List RC
  hs : List Int
  g : Int
  how : Int
abbrev rrG (x : RR) : List GVal := [.slice (rawsG x.l) .none, .slice (ints x.hs) .none, .int .i64 x.g, .int .i64 x.how]
structure ReqOK (cs : List Cm) (hs : List Hs) : Prop where
  len : cs.length ≤ 72
  par : ∀ c ∈ cs, c.2.length ≤ 8
  hd : hs.length ≤ 5
theorem at33 (h : Hs) (y : GVal) : (bytesG h.1 ++ [y])[32]? = some y := by rw [List.getElem?_append_right (by rw [len32]; omega), len32]; rfl
theorem set33 (h : Hs) (y z : GVal) : (bytesG h.1 ++ [y]).set 32 z = bytesG h.1 ++ [z] := by rw [List.set_append_right _ _ (by rw [len32]; omega), len32]; rfl
theorem nineH : ([.int .u8 9, .int .u8 0, .int .u8 0, .int .u8 0, .int .u8 0, .int .u8 0, .int .u8 0, .int .u8 0, .int .u8 0, .int .u8 0, .int .u8 0, .int .u8 0, .int .u8 0, .int .u8 0, .int .u8 0, .int .u8 0, .int .u8 0, .int .u8 0, .int .u8 0, .int .u8 0, .int .u8 0, .int .u8 0, .int .u8 0, .int .u8 0, .int .u8 0, .int .u8 0, .int .u8 0, .int .u8 0, .int .u8 0, .int .u8 0, .int .u8 0, .int .u8 0] : List GVal) = bytesG (hq 9 0 0).1 := rfl
theorem nine_snoc (hs : List Hs) : hsG hs ++ [bytesG (hq 9 0 0).1] = hsG (hs ++ [hq 9 0 0]) := by simp [hsG]
theorem fin_le (cs : List Cm) (hs : List Hs) (a b : Tag) (gr : Int) : leA (.agg [.slice (csG cs) a, .slice (hsG hs) b, .int .i64 gr]) (.agg (reqG cs hs .none gr)) := by
  simp [leA, WL, leG_self, leG_none]
def bls (B : List Bool) : List GVal := B.map .bool
theorem bls_len (B : List Bool) : (bls B).length = B.length := by simp [bls]
theorem bls_set (B : List Bool) (k : Nat) (b : Bool) : (bls B).set k (.bool b) = bls (B.set k b) := by simp [bls, List.map_set]
theorem bls_at (B : List Bool) (k : Nat) (h : k < B.length) : List.take 1 (List.drop (k * 1) (bls B)) = [.bool (B.getD k false)] := by
  rw [Nat.mul_one]
  have e : (bls B).drop k = .bool (B.getD k false) :: (bls B).drop (k + 1) := by
    rw [List.drop_eq_getElem_cons (by rw [bls_len]; exact h)]; simp [bls, List.getD, h]
  rw [e]; rfl
theorem bls_put (B : List Bool) (m : Nat) (h : m < B.length) : List.take (m * 1) (bls B) ++ [.bool true] ++ List.drop (m * 1 + 1) (bls B) = bls (B.set m true) := by
  rw [Nat.mul_one, ← bls_set, List.set_eq_take_append_cons_drop, if_pos (by rw [bls_len]; exact h)]; simp
theorem count_set : ∀ (B : List Bool) (m : Nat), m < B.length → B.getD m false = false → (B.set m true).count false + 1 = B.count false
  | [], m, h, _ => by simp at h
  | b :: r, 0, h, e => by
    have : b = false := by simpa using e
    subst this; simp
  | b :: r, m + 1, h, e => by
    have := count_set r m (by simpa using h) (by simpa using e)
    rw [List.set_cons_succ, List.count_cons, List.count_cons]; omega
theorem take_ints (l : List Int) (n : Nat) : (ints l).take n = ints (l.take n) := by simp [ints, List.map_take]
abbrev rqZ : List GVal := [.slice [] .nil, .slice [] .nil, .int .i64 0]
theorem gRequest (x : RR) : GCalls Tryz.prog 7 [.agg (rrG x)] [] (fun g O' => ∃ cs hs gr, ReqOK cs hs ∧ g = .agg (reqG cs hs .none gr) ∧ O' = []) := by
  have g1 := Int.emod_nonneg x.g (by decide : (2 : Int) ≠ 0)
  have g2 := Int.emod_lt_of_pos x.g (by decide : (0 : Int) < 2)
  have cG := sPick x.g 2 (by omega) (by omega)
  refine GCalls.dropTo ?_
  refine h7.calls mixS (by simp) ?_
  simp only [gstart, s7, List.cons_append, List.nil_append, List.length_cons, List.length_nil, reduceAdd, reduceSub, List.replicate_succ, List.replicate_zero]
  simp +contextual -implicitDefEqProofs (maxSteps := 2000000) (disch := omega) only [↓loadV, ↓fieldAddrV, ↓allocV, ↓boxV, GVal.cells, grp, GVal.ofConst, List.map, List.headD, List.take, List.drop, reduceAdd, reduceLeDiff, implies_true, allSolid, GVal.solid, vcA, ↓vcB, vcC, fbFw, e7]
  intro s2
  refine cG.then ?_ (by rfl)
  simp +contextual -implicitDefEqProofs (maxSteps := 2000000) (disch := omega) only [binV, ↓storeV, ↓allocV, ↓buildV, fillG, place, GVal.cells, GVal.ofConst, List.map, List.take, List.drop, ↓reduceIte, reduceAdd, reduceLeDiff, allSolid, GVal.solid, splice, vcA, ↓vcB, vcC, fbFw]
  intro s3
  obtain ⟨gr, hgr⟩ : ∃ gr, 1 + x.g % 2 = gr := ⟨_, rfl⟩
  rw [hgr]
  refine vcSLoop_by (ι := { p : (Nat × List Cm) × Nat // p.1.1 ≤ x.l.length ∧ p.1.1 ≤ 12 ∧ p.1.2.length ≤ p.1.1 ∧ ∀ c ∈ p.1.2, c.2.length ≤ 8 }) (fun p => ⟨[.any, .ref (rrG x), .ptr 0 s2 0 0, .ptr 1 s3 0 0, .int .i64 (p.1.1.1 : Nat)] ++ List.replicate 242 .any, [.row s2 3 [rqZ], .row s3 3 [[.slice (csG p.1.1.2) (.tok 2 p.1.2), .slice [] .nil, .int .i64 gr]], .tok p.1.2 33]⟩) (fun p => 12 - p.1.1.1) ?_ ?_
  · refine Into.cellTok 1 0 33 [] rfl rfl rfl rfl ?_
    simp +contextual -implicitDefEqProofs (maxSteps := 2000000) (disch := omega) only [reduceAdd, List.replicate, vcA, vcC]
    intro sc
    exact Into.first ⟨((0, []), sc), Nat.zero_le _, by show 0 ≤ 12; omega, by simp, by simp⟩ ⟨[], rfl⟩ (by simp [WL, leG_self, leG_any])
  · rintro ⟨⟨⟨i, cs⟩, sc⟩, hil, hi, hcl, hcp⟩
    change i ≤ x.l.length at hil
    change i ≤ 12 at hi
    change cs.length ≤ i at hcl
    have hcp : ∀ c ∈ cs, c.2.length ≤ 8 := hcp
    by_cases h : i < x.l.length ∧ i < 12
    · have hx12 := h
      have d0 : ((i : Int) < (x.l.length : Int)) = True := eq_true (by omega)
      have d1 : ((i : Int) < 12) = True := eq_true (by omega)
      have eR := rawsG_at x.l i h.1
      generalize x.l.getD i default = r at *
      obtain ⟨rn, rh, rp⟩ := r
      have n1 := Int.emod_nonneg rn (by decide : (60 : Int) ≠ 0)
      have n2 := Int.emod_lt_of_pos rn (by decide : (0 : Int) < 60)
      have cN := sPick rn 60 (by omega) (by omega)
      obtain ⟨n, hn⟩ : ∃ n, rn % 60 = n := ⟨_, rfl⟩
      rw [hn] at cN n1 n2
      have cA := gAhead n n1 n2
      have lA := aheadL_len n
      obtain ⟨A, hA⟩ : ∃ A, aheadL n = A := ⟨_, rfl⟩
      rw [hA] at cA lA
      obtain ⟨h, hh⟩ : ∃ h, hashF n = h := ⟨_, rfl⟩
      have cHn := hHashF n
      rw [hh] at cHn
      simp +contextual -implicitDefEqProofs (maxSteps := 2000000) (disch := omega) only [↓lenV, binV, ↓loadV, ↓storeV, ↓fieldAddrV, ↓indexAddrV, ↓allocV, GVal.cells, grp, GVal.ofConst, List.map, List.headD, List.take, List.drop, reduceEqDiff, reduceAdd, reduceLeDiff, reduceCtorEq, implies_true, List.replicate, allSolid, GVal.solid, splice, vcA, ↓vcB, vcC, fbFw, d0, d1, eR, rawC, rawsG_len]
      have k10 : ((1 : Int) = 0) = False := eq_false (by decide)
      have k20 : ((2 : Int) = 0) = False := eq_false (by decide)
      have k21 : ((2 : Int) = 1) = False := eq_false (by decide)
      refine ⟨by omega, fun u => ?_⟩
      refine cN.then ?_ (by rfl)
      simp +contextual -implicitDefEqProofs (maxSteps := 2000000) (disch := omega) only [List.map, vcA, ↓vcB]
      refine cHn.then ?_ (by rfl)
      have q1' := Int.emod_nonneg rh (by decide : (60 : Int) ≠ 0)
      have q2' := Int.emod_lt_of_pos rh (by decide : (0 : Int) < 60)
      have cQ := sPick rh 60 (by omega) (by omega)
      obtain ⟨q, hq⟩ : ∃ q, rh % 60 = q := ⟨_, rfl⟩
      rw [hq] at cQ q1' q2'
      simp +contextual -implicitDefEqProofs (maxSteps := 2000000) (disch := omega) only [↓storeV, ↓allocV, ↓buildV, fillG, place, GVal.cells, List.map, List.take, List.drop, ↓reduceIte, reduceAdd, reduceLeDiff, GVal.solid, splice, vcA, ↓vcB, vcC, fbFw, len33, solid33, solidH, len32]
      intro v
      refine cA.then ?_ (by rfl)
      simp +contextual -implicitDefEqProofs (maxSteps := 2000000) (disch := omega) only [GVal.ofConst, vcA, ↓vcB]
      refine vcSLoop_by (ι := { p : (Nat × List Hs) × Nat // p.1.1 ≤ A.length ∧ p.1.2.length = p.1.1 }) (fun p => ⟨[.any, .ref (rrG x), .ptr 0 s2 0 0, .ptr 1 s3 0 0, .int .i64 (i : Nat), .ptr 3 u 0 0, .int .i64 n, .ptr 4 v 0 0, .slice (ints A) .none, .int .i64 (p.1.1.1 : Nat)] ++ List.replicate 237 .any, [.row s2 3 [rqZ], .row s3 3 [[.slice (csG cs) (.tok 2 sc), .slice [] .nil, .int .i64 gr]], .tok sc 33, .row u 3 [[.int .i64 rn, .int .i64 rh, .slice (ints rp) .none]], .row v 33 [bytesG h.1 ++ [.slice (hsG p.1.1.2) (.tok 5 p.1.2)]], .tok p.1.2 32]⟩) (fun p => A.length - p.1.1.1) ?_ ?_
      · refine Into.cellTok 4 32 32 [] (tg := .nil) rfl (at33 h _) rfl (len33 h _) ?_
        simp +contextual -implicitDefEqProofs (maxSteps := 2000000) (disch := omega) only [reduceAdd, List.replicate, vcA, vcC]
        intro sp
        exact Into.first ⟨((0, []), sp), Nat.zero_le _, rfl⟩ ⟨[], by simp [set33, hsG]⟩ (by simp [WL, leG_self, leG_any])
      · rintro ⟨⟨⟨j, ps⟩, sp⟩, hj, hpl⟩
        change j ≤ A.length at hj
        change ps.length = j at hpl
        by_cases h' : j < A.length
        · have d2 : ((j : Int) < (A.length : Int)) = True := eq_true (by omega)
          have eA := ints_at A j h'
          generalize A.getD j 0 = a at *
          have cHa := hHashF a
          obtain ⟨y, hy⟩ : ∃ y, hashF a = y := ⟨_, rfl⟩
          rw [hy] at cHa
          simp +contextual -implicitDefEqProofs (maxSteps := 2000000) (disch := omega) only [drawC, drawK, ↓lenV, binV, ↓loadV, ↓fieldAddrV, ↓indexAddrV, grp, List.map, List.headD, List.take, reduceAdd, reduceLeDiff, implies_true, List.replicate, vcA, ↓vcB, vcC, fbFw, drop32a, len33, d2, eA]
          refine ⟨by omega, ?_⟩
          refine cHa.then ?_ (by rfl)
          simp +contextual -implicitDefEqProofs (maxSteps := 2000000) (disch := omega) only [drawC, drawK, binV, ↓storeV, ↓fieldAddrV, ↓buildSliceV, ↓appendV, ↓srcV, fillE, GVal.cells, GVal.ofConst, List.map, ↓reduceIte, reduceAdd, reduceLeDiff, ↓asrcV, Tag.cap, List.replicate, allSolid, GVal.solid, reduceMul, splice, vcA, ↓vcB, vcC, fbFw, take32a, drop33a, len33, solidH, len32, hsG_len, all_hsG]
          refine ⟨⟨[], by simp⟩, by omega, by omega, fun sp' => ?_⟩
          exact Into.at ⟨((j + 1, ps ++ [y]), sp'), by show j + 1 ≤ A.length; omega, by show (ps ++ [y]).length = j + 1; rw [List.length_append, List.length_singleton, hpl]⟩ (by show A.length - (j + 1) < A.length - j; omega) ⟨[], by simp [hsG]⟩ (by simp [WL, leG_self, leG_any])
        · have d2 : ((j : Int) < (A.length : Int)) = False := eq_false (by omega)
          by_cases q0 : q = 0
          · subst q0
            simp +contextual -implicitDefEqProofs (maxSteps := 2000000) (disch := omega) only [drawC, drawK, ↓lenV, binV, ↓loadV, ↓fieldAddrV, ↓indexAddrV, grp, GVal.ofConst, List.map, List.headD, List.take, List.drop, ↓reduceIte, reduceAdd, reduceLeDiff, implies_true, List.replicate, vcA, ↓vcB, vcC, fbFw, drop32a, len33, false_imp_iff, true_imp_iff, d2]
            refine cQ.then ?_ (by rfl)
            simp +contextual -implicitDefEqProofs (maxSteps := 2000000) (disch := omega) only [binV, GVal.ofConst, vcA, ↓vcB, vcC]
            refine vcSLoop_by (ι := { p : (Nat × List Hs) × Nat // p.1.1 ≤ rp.length ∧ p.1.1 ≤ 6 ∧ p.1.2.length ≤ 2 + p.1.1 }) (fun p => ⟨[.any, .ref (rrG x), .ptr 0 s2 0 0, .ptr 1 s3 0 0, .int .i64 (i : Nat), .ptr 3 u 0 0, .int .i64 n, .ptr 4 v 0 0, .any, .any, .int .i64 (p.1.1.1 : Nat)] ++ List.replicate 236 .any, [.row s2 3 [rqZ], .row s3 3 [[.slice (csG cs) (.tok 2 sc), .slice [] .nil, .int .i64 gr]], .tok sc 33, .row u 3 [[.int .i64 rn, .int .i64 rh, .slice (ints rp) .none]], .row v 33 [bytesG h.1 ++ [.slice (hsG p.1.1.2) (.tok 5 p.1.2)]], .tok p.1.2 32]⟩) (fun p => 6 - p.1.1.1) ?_ ?_
            · exact Into.first ⟨((0, ps), sp), Nat.zero_le _, Nat.zero_le _, by show ps.length ≤ 2 + 0; omega⟩ ⟨[], by simp⟩ (by simp [WL, leG_self, leG_any])
            · rintro ⟨⟨⟨k, ps⟩, sp⟩, hk, hk6, hpl⟩
              change k ≤ rp.length at hk
              change k ≤ 6 at hk6
              change ps.length ≤ 2 + k at hpl
              by_cases hk' : k < rp.length ∧ k < 6
              · have d3 : ((k : Int) < (rp.length : Int)) = True := eq_true (by omega)
                have d4 : ((k : Int) < 6) = True := eq_true (by omega)
                have eB := ints_at rp k hk'.1
                generalize rp.getD k 0 = a at *
                have cHa := hHashF a
                obtain ⟨y, hy⟩ : ∃ y, hashF a = y := ⟨_, rfl⟩
                rw [hy] at cHa
                simp +contextual -implicitDefEqProofs (maxSteps := 2000000) (disch := omega) only [drawC, drawK, ↓lenV, binV, ↓loadV, ↓fieldAddrV, ↓indexAddrV, grp, GVal.ofConst, List.map, List.headD, List.take, List.drop, reduceAdd, reduceLeDiff, implies_true, List.replicate, vcA, ↓vcB, vcC, fbFw, drop32a, len33, d3, d4, eB]
                refine ⟨by omega, ?_⟩
                refine cHa.then ?_ (by rfl)
                simp +contextual -implicitDefEqProofs (maxSteps := 2000000) (disch := omega) only [drawC, drawK, binV, ↓storeV, ↓fieldAddrV, ↓buildSliceV, ↓appendV, ↓srcV, fillE, GVal.cells, GVal.ofConst, List.map, ↓reduceIte, reduceAdd, reduceLeDiff, ↓asrcV, Tag.cap, List.replicate, allSolid, GVal.solid, reduceMul, splice, vcA, ↓vcB, vcC, fbFw, take32a, drop33a, len33, solidH, len32, hsG_len, all_hsG]
                refine ⟨⟨[], by simp⟩, by omega, by omega, fun sp' => ?_⟩
                exact Into.at ⟨((k + 1, ps ++ [y]), sp'), by show k + 1 ≤ rp.length; omega, by show k + 1 ≤ 6; omega, by show (ps ++ [y]).length ≤ 2 + (k + 1); rw [List.length_append, List.length_singleton]; omega⟩ (by show 6 - (k + 1) < 6 - k; omega) ⟨[], by simp [hsG]⟩ (by simp [WL, leG_self, leG_any])
              · by_cases hk1 : k < rp.length
                · have d3 : ((k : Int) < (rp.length : Int)) = True := eq_true (by omega)
                  have d4 : ((k : Int) < 6) = False := eq_false (by omega)
                  simp +contextual -implicitDefEqProofs (maxSteps := 2000000) (disch := omega) only [drawC, drawK, ↓lenV, binV, ↓loadV, ↓storeV, ↓fieldAddrV, ↓indexAddrV, ↓buildSliceV, ↓appendV, ↓srcV, fillE, GVal.cells, grp, GVal.ofConst, List.map, List.headD, List.take, List.drop, ↓reduceIte, reduceEqDiff, reduceAdd, reduceLeDiff, reduceCtorEq, implies_true, ↓asrcV, Tag.cap, List.replicate, allSolid, GVal.solid, reduceMul, splice, vcA, ↓vcB, vcC, fbFw, drop32a, take33a, len33, solid33, csG_len, all_csG, false_imp_iff, true_imp_iff, d3, d4]
                  refine ⟨by omega, by omega, fun st => ?_⟩
                  refine Into.rowLe (t := s3) (sz := 3) 1 [[.slice (csG cs ++ [bytesG h.1 ++ [.slice (hsG (ps)) (.tok 5 sp)]]) (.tok 2 st), .slice [] .nil, .int .i64 gr]] [[.slice (csG (cs ++ [(h, ps)])) (.tok 2 st), .slice [] .nil, .int .i64 gr]] (by simp [hsG]) ⟨⟨GLe.slice (by rw [csG_app]; exact GLess.app (GLess.refl _) ⟨GLes_com _ _ _, trivial⟩), GLe.refl _, GLe.refl _, trivial⟩, trivial⟩ ?_
                  refine Into.at ⟨((i + 1, cs ++ [(h, ps)]), st), by show i + 1 ≤ x.l.length; omega, by show i + 1 ≤ 12; omega, by show (cs ++ [(h, ps)]).length ≤ i + 1; rw [List.length_append, List.length_singleton]; omega, fun c hc => ?_⟩ (by show 12 - (i + 1) < 12 - i; omega) ⟨[.row u 3 [[.int .i64 rn, .int .i64 rh, .slice (ints rp) .none]], .row v 33 [bytesG h.1 ++ [.slice (hsG ps) (.tok 5 sp)]], .tok sp 32], rfl⟩ (by simp [WL, leG_self, leG_any])
                  rcases List.mem_append.1 hc with q | q
                  · exact hcp c q
                  · rw [List.mem_singleton.1 q]; show ps.length ≤ 8; omega
                · have d3 : ((k : Int) < (rp.length : Int)) = False := eq_false (by omega)
                  simp +contextual -implicitDefEqProofs (maxSteps := 2000000) (disch := omega) only [drawC, drawK, ↓lenV, binV, ↓loadV, ↓storeV, ↓fieldAddrV, ↓indexAddrV, ↓buildSliceV, ↓appendV, ↓srcV, fillE, GVal.cells, grp, GVal.ofConst, List.map, List.headD, List.take, List.drop, ↓reduceIte, reduceEqDiff, reduceAdd, reduceLeDiff, reduceCtorEq, implies_true, ↓asrcV, Tag.cap, List.replicate, allSolid, GVal.solid, reduceMul, splice, vcA, ↓vcB, vcC, fbFw, drop32a, take33a, len33, solid33, csG_len, all_csG, false_imp_iff, true_imp_iff, d3]
                  refine ⟨by omega, by omega, fun st => ?_⟩
                  refine Into.rowLe (t := s3) (sz := 3) 1 [[.slice (csG cs ++ [bytesG h.1 ++ [.slice (hsG (ps)) (.tok 5 sp)]]) (.tok 2 st), .slice [] .nil, .int .i64 gr]] [[.slice (csG (cs ++ [(h, ps)])) (.tok 2 st), .slice [] .nil, .int .i64 gr]] (by simp [hsG]) ⟨⟨GLe.slice (by rw [csG_app]; exact GLess.app (GLess.refl _) ⟨GLes_com _ _ _, trivial⟩), GLe.refl _, GLe.refl _, trivial⟩, trivial⟩ ?_
                  refine Into.at ⟨((i + 1, cs ++ [(h, ps)]), st), by show i + 1 ≤ x.l.length; omega, by show i + 1 ≤ 12; omega, by show (cs ++ [(h, ps)]).length ≤ i + 1; rw [List.length_append, List.length_singleton]; omega, fun c hc => ?_⟩ (by show 12 - (i + 1) < 12 - i; omega) ⟨[.row u 3 [[.int .i64 rn, .int .i64 rh, .slice (ints rp) .none]], .row v 33 [bytesG h.1 ++ [.slice (hsG ps) (.tok 5 sp)]], .tok sp 32], rfl⟩ (by simp [WL, leG_self, leG_any])
                  rcases List.mem_append.1 hc with q | q
                  · exact hcp c q
                  · rw [List.mem_singleton.1 q]; show ps.length ≤ 8; omega
          · have e0 : (q = 0) = False := eq_false q0
            by_cases q1 : q = 1
            · subst q1
              match ps, hpl with
              | [], hpl =>
                simp +contextual -implicitDefEqProofs (maxSteps := 2000000) (disch := omega) only [drawC, drawK, ↓lenV, binV, ↓loadV, ↓fieldAddrV, ↓indexAddrV, grp, GVal.ofConst, List.map, List.headD, List.take, List.drop, ↓reduceIte, reduceAdd, reduceLeDiff, implies_true, List.replicate, vcA, ↓vcB, vcC, fbFw, drop32a, len33, false_imp_iff, true_imp_iff, d2]
                refine cQ.then ?_ (by rfl)
                simp +contextual -implicitDefEqProofs (maxSteps := 2000000) (disch := omega) only [drawC, drawK, ↓lenV, binV, ↓loadV, ↓storeV, ↓fieldAddrV, ↓indexAddrV, ↓buildSliceV, ↓appendV, ↓srcV, fillE, GVal.cells, grp, GVal.ofConst, List.map, List.headD, List.take, List.drop, ↓reduceIte, reduceEqDiff, reduceAdd, reduceLeDiff, reduceCtorEq, implies_true, ne_eq, ↓asrcV, Tag.cap, List.replicate, allSolid, GVal.solid, reduceMul, splice, vcA, ↓vcB, vcC, fbFw, hsG_len, csG_len, all_hsG, all_csG, k10, false_imp_iff, true_imp_iff, Int.lt_irrefl, v33]
                refine ⟨by omega, by omega, fun st => ?_⟩
                refine Into.rowLe (t := s3) (sz := 3) 1 [[.slice (csG cs ++ [bytesG h.1 ++ [.slice (hsG (([] : List Hs))) (.tok 5 sp)]]) (.tok 2 st), .slice [] .nil, .int .i64 gr]] [[.slice (csG (cs ++ [(h, ([] : List Hs))])) (.tok 2 st), .slice [] .nil, .int .i64 gr]] (by simp [hsG]) ⟨⟨GLe.slice (by rw [csG_app]; exact GLess.app (GLess.refl _) ⟨GLes_com _ _ _, trivial⟩), GLe.refl _, GLe.refl _, trivial⟩, trivial⟩ ?_
                refine Into.at ⟨((i + 1, cs ++ [(h, ([] : List Hs))]), st), by show i + 1 ≤ x.l.length; omega, by show i + 1 ≤ 12; omega, by show (cs ++ [(h, ([] : List Hs))]).length ≤ i + 1; rw [List.length_append, List.length_singleton]; omega, fun c hc => ?_⟩ (by show 12 - (i + 1) < 12 - i; omega) ⟨[.row u 3 [[.int .i64 rn, .int .i64 rh, .slice (ints rp) .none]], .row v 33 [bytesG h.1 ++ [.slice (hsG []) (.tok 5 sp)]], .tok sp 32], rfl⟩ (by simp [WL, leG_self, leG_any])
                rcases List.mem_append.1 hc with q | q
                · exact hcp c q
                · rw [List.mem_singleton.1 q]; show 0 ≤ 8; omega
              | y :: pr, hpl =>
                have d3 : ((0 : Int) < ((y :: pr).length : Int)) = True := eq_true (by simp)
                have d4 : ((0 : Int) < (pr.length : Int) + 1) = True := eq_true (by omega)
                have eY : (hsG (y :: pr)).getD 0 [] = bytesG y.1 := rfl
                have hpr : pr.length ≤ 1 := by simp at hpl; omega
                simp +contextual -implicitDefEqProofs (maxSteps := 2000000) (disch := omega) only [drawC, drawK, ↓lenV, binV, ↓loadV, ↓fieldAddrV, ↓indexAddrV, grp, GVal.ofConst, List.map, List.headD, List.take, List.drop, ↓reduceIte, reduceAdd, reduceLeDiff, implies_true, List.replicate, vcA, ↓vcB, vcC, fbFw, drop32a, len33, false_imp_iff, true_imp_iff, d2]
                refine cQ.then ?_ (by rfl)
                simp +contextual -implicitDefEqProofs (maxSteps := 2000000) (disch := omega) only [drawC, drawK, ↓lenV, binV, ↓loadV, ↓storeV, ↓fieldAddrV, ↓indexAddrV, ↓buildSliceV, ↓appendV, ↓srcV, fillE, GVal.cells, grp, GVal.ofConst, List.map, List.headD, List.take, List.drop, ↓reduceIte, reduceEqDiff, reduceAdd, reduceLeDiff, reduceCtorEq, implies_true, ne_eq, ↓asrcV, Tag.cap, List.replicate, allSolid, GVal.solid, reduceMul, splice, vcA, ↓vcB, vcC, fbFw, hsG_len, csG_len, all_hsG, all_csG, k10, false_imp_iff, true_imp_iff, d4, eY, toNat0, v33, v32]
                refine ⟨by omega, by omega, by omega, fun sp' => ?_⟩
                refine ⟨by omega, by omega, fun st => ?_⟩
                refine Into.rowLe (t := s3) (sz := 3) 1 [[.slice (csG cs ++ [bytesG h.1 ++ [.slice (hsG ((y :: pr) ++ [y])) (.tok 5 sp')]]) (.tok 2 st), .slice [] .nil, .int .i64 gr]] [[.slice (csG (cs ++ [(h, (y :: pr) ++ [y])])) (.tok 2 st), .slice [] .nil, .int .i64 gr]] (by simp [hsG]) ⟨⟨GLe.slice (by rw [csG_app]; exact GLess.app (GLess.refl _) ⟨GLes_com _ _ _, trivial⟩), GLe.refl _, GLe.refl _, trivial⟩, trivial⟩ ?_
                refine Into.at ⟨((i + 1, cs ++ [(h, (y :: pr) ++ [y])]), st), by show i + 1 ≤ x.l.length; omega, by show i + 1 ≤ 12; omega, by show (cs ++ [(h, (y :: pr) ++ [y])]).length ≤ i + 1; rw [List.length_append, List.length_singleton]; omega, fun c hc => ?_⟩ (by show 12 - (i + 1) < 12 - i; omega) ⟨[.row u 3 [[.int .i64 rn, .int .i64 rh, .slice (ints rp) .none]], .row v 33 [bytesG h.1 ++ [.slice (hsG (y :: pr) ++ [bytesG y.1]) (.tok 5 sp')]], .tok sp' 32], rfl⟩ (by simp [WL, leG_self, leG_any])
                rcases List.mem_append.1 hc with q | q
                · exact hcp c q
                · rw [List.mem_singleton.1 q]; show ((y :: pr) ++ [y]).length ≤ 8; simp; omega
            · have e1 : (q = 1) = False := eq_false q1
              by_cases q2 : q = 2
              · subst q2
                simp +contextual -implicitDefEqProofs (maxSteps := 2000000) (disch := omega) only [drawC, drawK, ↓lenV, binV, ↓loadV, ↓fieldAddrV, ↓indexAddrV, grp, GVal.ofConst, List.map, List.headD, List.take, List.drop, ↓reduceIte, reduceAdd, reduceLeDiff, implies_true, List.replicate, vcA, ↓vcB, vcC, fbFw, drop32a, len33, false_imp_iff, true_imp_iff, d2]
                refine cQ.then ?_ (by rfl)
                simp +contextual -implicitDefEqProofs (maxSteps := 2000000) (disch := omega) only [drawC, drawK, ↓lenV, binV, ↓loadV, ↓storeV, ↓fieldAddrV, ↓indexAddrV, ↓buildSliceV, ↓appendV, ↓srcV, fillE, GVal.cells, grp, GVal.ofConst, List.map, List.headD, List.take, List.drop, ↓reduceIte, reduceEqDiff, reduceAdd, reduceLeDiff, reduceCtorEq, implies_true, ne_eq, ↓asrcV, Tag.cap, List.replicate, allSolid, GVal.solid, reduceMul, splice, vcA, ↓vcB, vcC, fbFw, hsG_len, csG_len, all_hsG, all_csG, k20, k21, false_imp_iff, true_imp_iff, v33]
                have cH2 := hHashF (n + 1)
                obtain ⟨z, hz⟩ : ∃ z, hashF (n + 1) = z := ⟨_, rfl⟩
                rw [hz] at cH2
                refine cH2.then ?_ (by rfl)
                simp +contextual -implicitDefEqProofs (maxSteps := 2000000) (disch := omega) only [binV, ↓loadV, ↓storeV, ↓fieldAddrV, ↓buildSliceV, ↓appendV, ↓srcV, fillE, GVal.cells, grp, GVal.ofConst, List.map, List.headD, List.take, List.drop, ↓reduceIte, reduceEqDiff, reduceAdd, reduceLeDiff, reduceCtorEq, implies_true, ↓asrcV, Tag.cap, List.replicate, allSolid, GVal.solid, reduceMul, splice, vcA, ↓vcB, vcC, fbFw, take32a, drop33a, take33a, len33, solid33, solidH, len32, csG_len, all_csG, false_imp_iff]
                refine ⟨by omega, by omega, fun st => ?_⟩
                refine Into.rowLe (t := s3) (sz := 3) 1 [[.slice (csG cs ++ [bytesG h.1 ++ [.slice (hsG ([z])) .full]]) (.tok 2 st), .slice [] .nil, .int .i64 gr]] [[.slice (csG (cs ++ [(h, [z])])) (.tok 2 st), .slice [] .nil, .int .i64 gr]] (by simp [hsG]) ⟨⟨GLe.slice (by rw [csG_app]; exact GLess.app (GLess.refl _) ⟨GLes_com _ _ _, trivial⟩), GLe.refl _, GLe.refl _, trivial⟩, trivial⟩ ?_
                refine Into.at ⟨((i + 1, cs ++ [(h, [z])]), st), by show i + 1 ≤ x.l.length; omega, by show i + 1 ≤ 12; omega, by show (cs ++ [(h, [z])]).length ≤ i + 1; rw [List.length_append, List.length_singleton]; omega, fun c hc => ?_⟩ (by show 12 - (i + 1) < 12 - i; omega) ⟨[.row u 3 [[.int .i64 rn, .int .i64 rh, .slice (ints rp) .none]], .row v 33 [bytesG h.1 ++ [.slice [bytesG z.1] .full]], .tok sp 32], rfl⟩ (by simp [WL, leG_self, leG_any])
                rcases List.mem_append.1 hc with q | q
                · exact hcp c q
                · rw [List.mem_singleton.1 q]; show 1 ≤ 8; omega
              · have e2 : (q = 2) = False := eq_false q2
                simp +contextual -implicitDefEqProofs (maxSteps := 2000000) (disch := omega) only [drawC, drawK, ↓lenV, binV, ↓loadV, ↓fieldAddrV, ↓indexAddrV, grp, GVal.ofConst, List.map, List.headD, List.take, List.drop, ↓reduceIte, reduceAdd, reduceLeDiff, implies_true, List.replicate, vcA, ↓vcB, vcC, fbFw, drop32a, len33, false_imp_iff, true_imp_iff, d2]
                refine cQ.then ?_ (by rfl)
                simp +contextual -implicitDefEqProofs (maxSteps := 2000000) (disch := omega) only [drawC, drawK, ↓lenV, binV, ↓loadV, ↓storeV, ↓fieldAddrV, ↓indexAddrV, ↓buildSliceV, ↓appendV, ↓srcV, fillE, GVal.cells, grp, GVal.ofConst, List.map, List.headD, List.take, List.drop, ↓reduceIte, reduceEqDiff, reduceAdd, reduceLeDiff, reduceCtorEq, implies_true, ne_eq, ↓asrcV, Tag.cap, List.replicate, allSolid, GVal.solid, reduceMul, splice, vcA, ↓vcB, vcC, fbFw, hsG_len, csG_len, all_hsG, all_csG, false_imp_iff, true_imp_iff, e0, e1, e2, v33]
                refine ⟨by omega, by omega, fun st => ?_⟩
                refine Into.rowLe (t := s3) (sz := 3) 1 [[.slice (csG cs ++ [bytesG h.1 ++ [.slice (hsG (ps)) (.tok 5 sp)]]) (.tok 2 st), .slice [] .nil, .int .i64 gr]] [[.slice (csG (cs ++ [(h, ps)])) (.tok 2 st), .slice [] .nil, .int .i64 gr]] (by simp [hsG]) ⟨⟨GLe.slice (by rw [csG_app]; exact GLess.app (GLess.refl _) ⟨GLes_com _ _ _, trivial⟩), GLe.refl _, GLe.refl _, trivial⟩, trivial⟩ ?_
                refine Into.at ⟨((i + 1, cs ++ [(h, ps)]), st), by show i + 1 ≤ x.l.length; omega, by show i + 1 ≤ 12; omega, by show (cs ++ [(h, ps)]).length ≤ i + 1; rw [List.length_append, List.length_singleton]; omega, fun c hc => ?_⟩ (by show 12 - (i + 1) < 12 - i; omega) ⟨[.row u 3 [[.int .i64 rn, .int .i64 rh, .slice (ints rp) .none]], .row v 33 [bytesG h.1 ++ [.slice (hsG ps) (.tok 5 sp)]], .tok sp 32], rfl⟩ (by simp [WL, leG_self, leG_any])
                rcases List.mem_append.1 hc with q | q
                · exact hcp c q
                · rw [List.mem_singleton.1 q]; show ps.length ≤ 8; omega
    · have hstop : True := trivial
      have w1 := Int.emod_nonneg x.how (by decide : (50 : Int) ≠ 0)
      have w2 := Int.emod_lt_of_pos x.how (by decide : (0 : Int) < 50)
      have cV := sPick x.how 50 (by omega) (by omega)
      have m1 := Int.emod_nonneg (norm .i64 (x.how.tdiv 50)) (by decide : (4 : Int) ≠ 0)
      have m2 := Int.emod_lt_of_pos (norm .i64 (x.how.tdiv 50)) (by decide : (0 : Int) < 4)
      have cM := sPick (norm .i64 (x.how.tdiv 50)) 4 (by omega) (by omega)
      obtain ⟨w, hw⟩ : ∃ w, x.how % 50 = w := ⟨_, rfl⟩
      obtain ⟨q, hqv⟩ : ∃ q, norm .i64 (x.how.tdiv 50) % 4 = q := ⟨_, rfl⟩
      rw [hw] at cV w1 w2
      rw [hqv] at cM m1 m2
      have k10 : ((1 : Int) = 0) = False := eq_false (by decide)
      have k20 : ((2 : Int) = 0) = False := eq_false (by decide)
      have k21 : ((2 : Int) = 1) = False := eq_false (by decide)
      have h12 : cs.length ≤ 12 := by omega
      have hcase : (∀ k : Nat, k ≤ x.l.length → k ≤ 12 → ¬ (k < x.l.length ∧ k < 12) → ((k : Int) < (x.l.length : Int)) = True ∧ ((k : Int) < 12) = False) ∨ (∀ k : Nat, k ≤ x.l.length → k ≤ 12 → ¬ (k < x.l.length ∧ k < 12) → ((k : Int) < (x.l.length : Int)) = False ∧ (True = True)) := by
        by_cases hh : x.l.length ≤ 12
        · exact .inr fun k h1 h2 h3 => ⟨eq_false (by omega), rfl⟩
        · exact .inl fun k h1 h2 h3 => ⟨eq_true (by omega), eq_false (by omega)⟩
      rcases hcase with hexit | hexit
      all_goals
        obtain ⟨d0, d1⟩ := hexit i hil hi h
        simp +contextual -implicitDefEqProofs (maxSteps := 2000000) (disch := omega) only [↓lenV, binV, ↓loadV, ↓storeV, ↓fieldAddrV, ↓indexAddrV, ↓allocV, GVal.cells, grp, GVal.ofConst, List.map, List.headD, List.take, List.drop, ↓reduceIte, reduceEqDiff, reduceAdd, reduceLeDiff, reduceCtorEq, implies_true, List.replicate, GVal.solid, splice, vcA, ↓vcB, vcC, fbFw, d0, d1, rawsG_len, false_imp_iff, true_imp_iff]
        refine vcSLoop_by (ι := { p : (Nat × List Hs) × Nat // p.1.1 ≤ x.hs.length ∧ p.1.1 ≤ 4 ∧ p.1.2.length = p.1.1 }) (fun p => ⟨[.any, .ref (rrG x), .ptr 0 s2 0 0, .ptr 1 s3 0 0] ++ List.replicate 7 .any ++ [.int .i64 (p.1.1.1 : Nat)] ++ List.replicate 235 .any, [.row s2 3 [rqZ], .row s3 3 [[.slice (csG cs) (.tok 2 sc), .slice (hsG p.1.1.2) (.tok 3 p.1.2), .int .i64 gr]], .tok sc 33, .tok p.1.2 32]⟩) (fun p => 4 - p.1.1.1) ?_ ?_
        · refine Into.cellTok 1 1 32 [] rfl rfl rfl rfl ?_
          simp +contextual -implicitDefEqProofs (maxSteps := 2000000) (disch := omega) only [reduceAdd, List.replicate, vcA, vcC]
          intro sh
          exact Into.first ⟨((0, []), sh), Nat.zero_le _, Nat.zero_le _, rfl⟩ ⟨[], rfl⟩ (by simp [WL, leG_self, leG_any])
        · rintro ⟨⟨⟨j, hs⟩, sh⟩, hj, hj4, hhl⟩
          change j ≤ x.hs.length at hj
          change j ≤ 4 at hj4
          change hs.length = j at hhl
          by_cases h' : j < x.hs.length ∧ j < 4
          · have d2 : ((j : Int) < (x.hs.length : Int)) = True := eq_true (by omega)
            have d3 : ((j : Int) < 4) = True := eq_true (by omega)
            have eA := ints_at x.hs j h'.1
            generalize x.hs.getD j 0 = a at *
            have cHa := hHashF a
            obtain ⟨y, hy⟩ : ∃ y, hashF a = y := ⟨_, rfl⟩
            rw [hy] at cHa
            simp +contextual -implicitDefEqProofs (maxSteps := 2000000) (disch := omega) only [drawC, drawK, ↓lenV, binV, ↓loadV, ↓fieldAddrV, ↓indexAddrV, grp, GVal.ofConst, List.map, List.headD, List.take, List.drop, reduceAdd, reduceLeDiff, implies_true, List.replicate, vcA, ↓vcB, vcC, fbFw, d2, d3, eA]
            refine ⟨by omega, ?_⟩
            refine cHa.then ?_ (by rfl)
            simp +contextual -implicitDefEqProofs (maxSteps := 2000000) (disch := omega) only [drawC, drawK, binV, ↓storeV, ↓fieldAddrV, ↓buildSliceV, ↓appendV, ↓srcV, fillE, GVal.cells, GVal.ofConst, List.map, List.take, List.drop, ↓reduceIte, reduceAdd, reduceLeDiff, ↓asrcV, Tag.cap, List.replicate, allSolid, GVal.solid, reduceMul, splice, vcA, ↓vcB, vcC, fbFw, solidH, len32, hsG_len, all_hsG]
            refine ⟨⟨[], by simp⟩, by omega, by omega, fun sh' => ?_⟩
            exact Into.at ⟨((j + 1, hs ++ [y]), sh'), by show j + 1 ≤ x.hs.length; omega, by show j + 1 ≤ 4; omega, by show (hs ++ [y]).length = j + 1; rw [List.length_append, List.length_singleton, hhl]⟩ (by show 4 - (j + 1) < 4 - j; omega) ⟨[], by simp [hsG]⟩ (by simp [WL, leG_self, leG_any])
          · have hh5 : hs.length ≤ 4 := by omega
            have hcase : (((j : Int) < (x.hs.length : Int)) = True ∧ ((j : Int) < 4) = False) ∨ (((j : Int) < (x.hs.length : Int)) = False ∧ (True = True)) := by
              by_cases hh : j < x.hs.length
              · exact .inl ⟨eq_true (by omega), eq_false (by omega)⟩
              · exact .inr ⟨eq_false (by omega), rfl⟩
            rcases hcase with ⟨d2, d3⟩ | ⟨d2, d3⟩
            all_goals
              simp +contextual -implicitDefEqProofs (maxSteps := 2000000) (disch := omega) only [drawC, drawK, ↓lenV, binV, ↓loadV, ↓fieldAddrV, ↓indexAddrV, grp, GVal.ofConst, List.map, List.headD, List.take, List.drop, ↓reduceIte, reduceAdd, reduceLeDiff, implies_true, ne_eq, List.replicate, vcA, ↓vcB, vcC, fbFw, false_imp_iff, true_imp_iff, d2, d3]
              refine ⟨by decide, ?_⟩
              refine cM.then ?_ (by rfl)
              by_cases hq0 : 0 < q
              · have dq : ((0 : Int) < q) = True := eq_true hq0
                have eMin : (min (x.hs.length : Int) 4).toNat = min x.hs.length 4 := by omega
                have lT : (x.hs.take (min x.hs.length 4)).length ≤ 4 := by rw [List.length_take]; omega
                simp +contextual -implicitDefEqProofs (maxSteps := 2000000) (disch := omega) only [↓lenV, binV, optV, ↓loadV, ↓fieldAddrV, ↓allocV, ↓sliceV, ↓minV, bound, cutTag, grp, GVal.ofConst, List.headD, List.take, List.drop, reduceAdd, reduceLeDiff, implies_true, GVal.solid, vcA, ↓vcB, vcC, fbFw, dq, eMin, take_ints, toNat0]
                refine fun sb => ⟨by omega, by omega, by omega, ?_⟩
                obtain ⟨T0, hT0⟩ : ∃ T, x.hs.take (min x.hs.length 4) = T := ⟨_, rfl⟩
                rw [hT0] at lT ⊢
                refine vcSLoop_by (ι := { p : Nat × (List Bool × List Int) // p.1 ≤ x.l.length ∧ p.1 ≤ 12 ∧ p.2.1.length = 60 ∧ p.2.2.length ≤ 4 + 2 * p.1 }) (fun p => ⟨[.any, .ref (rrG x), .ptr 0 s2 0 0, .ptr 1 s3 0 0] ++ List.replicate 8 .any ++ [.ptr 4 sb 0 0, .slice (ints p.1.2.2) .none, .int .i64 (p.1.1 : Nat)] ++ List.replicate 232 .any, [.row s2 3 [rqZ], .row s3 3 [[.slice (csG cs) (.tok 2 sc), .slice (hsG hs) (.tok 3 sh), .int .i64 gr]], .tok sc 33, .tok sh 32, .row sb 60 [bls p.1.2.1]]⟩) (fun p => 12 - p.1.1) ?_ ?_
                · exact Into.first ⟨(0, (List.replicate 60 false, T0)), Nat.zero_le _, Nat.zero_le _, by simp, by show T0.length ≤ 4 + 2 * 0; omega⟩ ⟨[], rfl⟩ (by simp [WL, leG_self, leG_any])
                · rintro ⟨⟨k, ⟨B, T⟩⟩, hkl, hk, hB, hT⟩
                  change k ≤ x.l.length at hkl
                  change k ≤ 12 at hk
                  have hB : B.length = 60 := hB
                  change T.length ≤ 4 + 2 * k at hT
                  by_cases hk' : k < x.l.length ∧ k < 12
                  · have d4 : ((k : Int) < (x.l.length : Int)) = True := eq_true (by omega)
                    have d5 : ((k : Int) < 12) = True := eq_true (by omega)
                    have eR := rawsG_at x.l k hk'.1
                    generalize x.l.getD k default = r at *
                    obtain ⟨rn, rh, rp⟩ := r
                    have n1 := Int.emod_nonneg rn (by decide : (60 : Int) ≠ 0)
                    have n2 := Int.emod_lt_of_pos rn (by decide : (0 : Int) < 60)
                    have cN := sPick rn 60 (by omega) (by omega)
                    obtain ⟨n, hn⟩ : ∃ n, rn % 60 = n := ⟨_, rfl⟩
                    rw [hn] at cN n1 n2
                    have cA := gAhead n n1 n2
                    have lA := aheadL_len n
                    obtain ⟨A, hA⟩ : ∃ A, aheadL n = A := ⟨_, rfl⟩
                    rw [hA] at cA lA
                    simp +contextual -implicitDefEqProofs (maxSteps := 2000000) (disch := omega) only [↓lenV, binV, ↓loadV, ↓fieldAddrV, ↓indexAddrV, grp, GVal.ofConst, List.map, List.headD, List.take, List.drop, reduceAdd, reduceLeDiff, implies_true, List.replicate, vcA, ↓vcB, vcC, fbFw, rawsG_len, d4, d5, eR, rawC]
                    refine ⟨by omega, ?_⟩
                    refine cN.then ?_ (by rfl)
                    obtain ⟨m, hm⟩ : ∃ m, n.toNat = m := ⟨_, rfl⟩
                    have hm60 : m < 60 := by omega
                    have eB := bls_put B m (by omega)
                    simp +contextual -implicitDefEqProofs (maxSteps := 2000000) (disch := omega) only [drawC, drawK, ↓loadV, ↓storeV, ↓fieldAddrV, ↓indexAddrV, ↓buildSliceV, ↓appendV, ↓srcV, fillE, GVal.cells, grp, GVal.ofConst, List.map, List.headD, List.take, List.drop, reduceAdd, reduceLeDiff, implies_true, ↓asrcV, Tag.cap, List.replicate, allSolid, GVal.solid, Nat.reduceBEq, reduceMul, splice, vcA, ↓vcB, vcC, fbFw, rawsG_len, eR, rawC, hm, eB]
                    refine ⟨by omega, by omega, by rw [bls_len]; omega, by omega, by omega, by omega, by omega, fun st => ⟨⟨[_], rfl⟩, ?_⟩⟩
                    refine cN.then ?_ (by rfl)
                    simp +contextual -implicitDefEqProofs (maxSteps := 2000000) (disch := omega) only [drawC, drawK, List.map, vcA, ↓vcB, vcC]
                    refine cA.then ?_ (by rfl)
                    simp +contextual -implicitDefEqProofs (maxSteps := 2000000) (disch := omega) only [drawC, drawK, binV, ↓appendV, ↓srcV, GVal.ofConst, ↓asrcV, Tag.cap, vcA, ↓vcB, vcC, fbFw]
                    refine ⟨by omega, by omega, fun st2 => ?_⟩
                    exact Into.at ⟨(k + 1, (B.set m true, T ++ A)), by show k + 1 ≤ x.l.length; omega, by show k + 1 ≤ 12; omega, by show (B.set m true).length = 60; rw [List.length_set]; exact hB, by show (T ++ A).length ≤ 4 + 2 * (k + 1); rw [List.length_append]; omega⟩ (by show 12 - (k + 1) < 12 - k; omega) ⟨[.tok st2 1], by simp⟩ (by simp [WL, leG_self, leG_any, leG_none, ints])
                  · obtain ⟨d4, d5⟩ := hexit k hkl hk hk'
                    simp +contextual -implicitDefEqProofs (maxSteps := 2000000) (disch := omega) only [↓lenV, binV, ↓loadV, ↓fieldAddrV, ↓indexAddrV, grp, GVal.ofConst, List.map, List.headD, List.take, List.drop, ↓reduceIte, reduceAdd, reduceLeDiff, implies_true, List.replicate, vcA, ↓vcB, vcC, fbFw, rawsG_len, false_imp_iff, true_imp_iff, d4, d5]
                    refine vcSLoop_by (ι := { p : (List Cm × Nat) × (List Bool × List Int) // p.2.1.length = 60 ∧ p.1.1.length + p.2.1.count false ≤ 72 ∧ (∀ c ∈ p.1.1, c.2.length ≤ 8) ∧ p.2.2.length + 2 * p.2.1.count false ≤ 200 }) (fun p => ⟨[.any, .ref (rrG x), .ptr 0 s2 0 0, .ptr 1 s3 0 0] ++ List.replicate 8 .any ++ [.ptr 4 sb 0 0, .slice (ints p.1.2.2) .none] ++ List.replicate 233 .any, [.row s2 3 [rqZ], .row s3 3 [[.slice (csG p.1.1.1) (.tok 2 p.1.1.2), .slice (hsG hs) (.tok 3 sh), .int .i64 gr]], .tok p.1.1.2 33, .tok sh 32, .row sb 60 [bls p.1.2.1]]⟩) (fun p => 3 * p.1.2.1.count false + p.1.2.2.length) ?_ ?_
                    · have hcB : B.count false ≤ 60 := by have := List.count_le_length (a := false) (l := B); omega
                      exact Into.first ⟨((cs, sc), (B, T)), hB, by show cs.length + B.count false ≤ 72; omega, hcp, by show T.length + 2 * B.count false ≤ 200; omega⟩ ⟨[], by simp⟩ (by simp [WL, leG_self, leG_any])
                    · clear hk' hT hB d4 d5 hkl hk h12 hcp hcl
                      rintro ⟨⟨⟨cs, sc⟩, ⟨B, T⟩⟩, hB, hcl, hcp, hT⟩
                      have hB : B.length = 60 := hB
                      change cs.length + B.count false ≤ 72 at hcl
                      have hcp : ∀ c ∈ cs, c.2.length ≤ 8 := hcp
                      change T.length + 2 * B.count false ≤ 200 at hT
                      match T, hT with
                      | [], hT =>
                        simp +contextual -implicitDefEqProofs (maxSteps := 2000000) (disch := omega) only [↓lenV, binV, ↓loadV, ↓fieldAddrV, ↓indexAddrV, grp, GVal.ofConst, List.map, List.headD, List.take, List.drop, ↓reduceIte, reduceAdd, reduceLeDiff, implies_true, List.replicate, vcA, ↓vcB, vcC, fbFw, false_imp_iff, true_imp_iff, Int.lt_irrefl]
                        refine cV.then ?_ (by rfl)
                        by_cases v0 : w = 0
                        · subst v0
                          simp +contextual -implicitDefEqProofs (maxSteps := 2000000) (disch := omega) only [binV, ↓loadV, ↓storeV, ↓fieldAddrV, GVal.cells, grp, GVal.ofConst, ↓resV, resG, List.headD, List.take, List.drop, reduceEqDiff, reduceAdd, reduceLeDiff, reduceCtorEq, implies_true, allSolid, GVal.solid, splice, vcA, ↓vcB, vcC, fbFw, false_imp_iff]
                          exact ⟨.agg (reqG cs hs .none x.g), [], _, rfl, fin_le _ _ _ _ _, cs, hs, x.g, ⟨by omega, hcp, by omega⟩, rfl, rfl⟩
                        · by_cases v1 : w = 1
                          · subst v1
                            simp +contextual -implicitDefEqProofs (maxSteps := 2000000) (disch := omega) only [binV, ↓loadV, ↓storeV, ↓fieldAddrV, ↓buildV, ↓buildSliceV, ↓appendV, ↓srcV, fillG, fillE, place, GVal.cells, grp, GVal.ofConst, ↓resV, resG, List.map, List.headD, List.take, List.drop, ↓reduceIte, reduceEqDiff, reduceAdd, reduceLeDiff, reduceCtorEq, implies_true, ne_eq, ↓asrcV, Tag.cap, List.replicate, allSolid, GVal.solid, reduceMul, splice, vcA, ↓vcB, vcC, fbFw, solidH, len32, hsG_len, all_hsG, k10, false_imp_iff, true_imp_iff, nineH]
                            refine ⟨by omega, by omega, fun st => ?_⟩
                            exact ⟨.agg (reqG cs (hs ++ [hq 9 0 0]) .none gr), [], _, rfl, by rw [nine_snoc]; exact fin_le _ _ _ _ _, cs, hs ++ [hq 9 0 0], gr, ⟨by omega, hcp, by rw [List.length_append, List.length_singleton]; omega⟩, rfl, rfl⟩
                          · have e0 : (w = 0) = False := eq_false v0
                            have e1 : (w = 1) = False := eq_false v1
                            simp +contextual -implicitDefEqProofs (maxSteps := 2000000) (disch := omega) only [binV, ↓loadV, ↓storeV, ↓fieldAddrV, ↓buildV, ↓buildSliceV, ↓appendV, ↓srcV, fillG, fillE, place, GVal.cells, grp, GVal.ofConst, ↓resV, resG, List.map, List.headD, List.take, List.drop, ↓reduceIte, reduceEqDiff, reduceAdd, reduceLeDiff, reduceCtorEq, implies_true, ne_eq, ↓asrcV, Tag.cap, List.replicate, allSolid, GVal.solid, reduceMul, splice, vcA, ↓vcB, vcC, fbFw, hsG_len, all_hsG, false_imp_iff, true_imp_iff, e0, e1]
                            exact ⟨.agg (reqG cs hs .none gr), [], _, rfl, fin_le _ _ _ _ _, cs, hs, gr, ⟨by omega, hcp, by omega⟩, rfl, rfl⟩

                      | a :: T', hT =>
                        have hT' : T'.length + 1 + 2 * B.count false ≤ 200 := by simpa using hT
                        have dT : ((0 : Int) < (T'.length : Int) + 1) = True := eq_true (by omega)
                        have n1 := Int.emod_nonneg a (by decide : (60 : Int) ≠ 0)
                        have n2 := Int.emod_lt_of_pos a (by decide : (0 : Int) < 60)
                        have cN := sPick a 60 (by omega) (by omega)
                        obtain ⟨n, hn⟩ : ∃ n, a % 60 = n := ⟨_, rfl⟩
                        rw [hn] at cN n1 n2
                        have cA := gAhead n n1 n2
                        have lA := aheadL_len n
                        obtain ⟨A, hA⟩ : ∃ A, aheadL n = A := ⟨_, rfl⟩
                        rw [hA] at cA lA
                        obtain ⟨h, hh⟩ : ∃ h, hashF n = h := ⟨_, rfl⟩
                        have cHn := hHashF n
                        rw [hh] at cHn
                        obtain ⟨m, hm⟩ : ∃ m, n.toNat = m := ⟨_, rfl⟩
                        have hm60 : m < 60 := by omega
                        have eB := bls_put B m (by omega)
                        have eG := bls_at B m (by omega)
                        have eT0 : (ints (a :: T')).getD 0 [] = [.int .i64 a] := rfl
                        have eT1 : (ints (a :: T')).drop 1 = ints T' := rfl
                        have tn1 : (Int.toNat 1) = 1 := rfl
                        have eTt : List.take ((T'.length : Int) + 1).toNat (ints (a :: T')) = ints (a :: T') := List.take_of_length_le (by rw [ints_len]; simp)
                        simp +contextual -implicitDefEqProofs (maxSteps := 2000000) (disch := omega) only [↓lenV, binV, ↓loadV, ↓indexAddrV, grp, GVal.ofConst, List.map, List.headD, List.take, reduceLeDiff, implies_true, List.replicate, vcA, ↓vcB, vcC, fbFw, dT, eT0, toNat0]
                        refine ⟨by omega, ?_⟩
                        refine cN.then ?_ (by rfl)
                        cases eb : B.getD m false with
                        | true =>
                          rw [eb] at eG
                          simp +contextual -implicitDefEqProofs (maxSteps := 2000000) (disch := omega) only [optV, ↓loadV, ↓indexAddrV, ↓sliceV, bound, cutTag, grp, GVal.ofConst, List.headD, ↓reduceIte, implies_true, Tag.cap, vcA, ↓vcB, vcC, fbFw, hm, eG, eTt, eT1, tn1]
                          refine ⟨by omega, by omega, by omega, by omega, by omega, by rw [bls_len]; omega, ?_⟩
                          exact Into.at ⟨((cs, sc), (B, T')), hB, hcl, hcp, by show T'.length + 2 * B.count false ≤ 200; omega⟩ (by show 3 * B.count false + T'.length < 3 * B.count false + (T'.length + 1); omega) ⟨[], by simp⟩ (by simp [WL, leG_self, leG_any])
                        | false =>
                          rw [eb] at eG
                          have hcs := count_set B m (by omega) eb
                          simp +contextual -implicitDefEqProofs (maxSteps := 2000000) (disch := omega) only [optV, ↓loadV, ↓storeV, ↓indexAddrV, ↓sliceV, bound, cutTag, GVal.cells, grp, GVal.ofConst, List.map, List.headD, implies_true, Tag.cap, allSolid, GVal.solid, splice, vcA, ↓vcB, vcC, fbFw, hm, eG, eB, eTt, eT1, tn1]
                          refine ⟨by omega, by omega, by omega, by omega, by omega, by rw [bls_len]; omega, by omega, by omega, by rw [bls_len]; omega, ?_⟩
                          obtain ⟨B', hB'⟩ : ∃ B', B.set m true = B' := ⟨_, rfl⟩
                          have hBl' : B'.length = 60 := by rw [← hB', List.length_set]; exact hB
                          rw [hB'] at hcs ⊢
                          refine cHn.then ?_ (by rfl)
                          simp +contextual -implicitDefEqProofs (maxSteps := 2000000) (disch := omega) only [↓storeV, ↓allocV, ↓buildV, fillG, place, GVal.cells, List.map, List.take, List.drop, ↓reduceIte, reduceAdd, reduceLeDiff, GVal.solid, splice, vcA, ↓vcB, vcC, fbFw, len33, solid33, solidH, len32]
                          intro v
                          refine cA.then ?_ (by rfl)
                          simp +contextual -implicitDefEqProofs (maxSteps := 2000000) (disch := omega) only [GVal.ofConst, vcA, ↓vcB]
                          refine vcSLoop_by (ι := { p : (Nat × List Hs) × Nat // p.1.1 ≤ A.length ∧ p.1.2.length = p.1.1 }) (fun p => ⟨[.any, .ref (rrG x), .ptr 0 s2 0 0, .ptr 1 s3 0 0] ++ List.replicate 8 .any ++ [.ptr 4 sb 0 0, .slice (ints T') .none, .any, .int .i64 n, .ptr 5 v 0 0, .slice (ints A) .none, .int .i64 (p.1.1.1 : Nat)] ++ List.replicate 228 .any, [.row s2 3 [rqZ], .row s3 3 [[.slice (csG cs) (.tok 2 sc), .slice (hsG hs) (.tok 3 sh), .int .i64 gr]], .tok sc 33, .tok sh 32, .row sb 60 [bls B'], .row v 33 [bytesG h.1 ++ [.slice (hsG p.1.1.2) (.tok 6 p.1.2)]], .tok p.1.2 32]⟩) (fun p => A.length - p.1.1.1) ?_ ?_
                          · refine Into.cellTok 5 32 32 [] (tg := .nil) rfl (at33 h _) rfl (len33 h _) ?_
                            simp +contextual -implicitDefEqProofs (maxSteps := 2000000) (disch := omega) only [reduceAdd, List.replicate, vcA, vcC]
                            intro sp
                            exact Into.first ⟨((0, []), sp), Nat.zero_le _, rfl⟩ ⟨[], by simp [set33, hsG]⟩ (by simp [WL, leG_self, leG_any])
                          · rintro ⟨⟨⟨j, ps⟩, sp⟩, hj, hpl⟩
                            change j ≤ A.length at hj
                            change ps.length = j at hpl
                            by_cases h' : j < A.length
                            · have d2 : ((j : Int) < (A.length : Int)) = True := eq_true (by omega)
                              have eA := ints_at A j h'
                              generalize A.getD j 0 = a at *
                              have cHa := hHashF a
                              obtain ⟨y, hy⟩ : ∃ y, hashF a = y := ⟨_, rfl⟩
                              rw [hy] at cHa
                              simp +contextual -implicitDefEqProofs (maxSteps := 2000000) (disch := omega) only [drawC, drawK, ↓lenV, binV, ↓loadV, ↓fieldAddrV, ↓indexAddrV, grp, List.map, List.headD, List.take, reduceAdd, reduceLeDiff, implies_true, List.replicate, vcA, ↓vcB, vcC, fbFw, drop32a, len33, d2, eA]
                              refine ⟨by omega, ?_⟩
                              refine cHa.then ?_ (by rfl)
                              simp +contextual -implicitDefEqProofs (maxSteps := 2000000) (disch := omega) only [drawC, drawK, binV, ↓storeV, ↓fieldAddrV, ↓buildSliceV, ↓appendV, ↓srcV, fillE, GVal.cells, GVal.ofConst, List.map, ↓reduceIte, reduceAdd, reduceLeDiff, ↓asrcV, Tag.cap, List.replicate, allSolid, GVal.solid, reduceMul, splice, vcA, ↓vcB, vcC, fbFw, take32a, drop33a, len33, solidH, len32, hsG_len, all_hsG, setO_6]
                              refine ⟨⟨[], by simp⟩, by omega, by omega, fun sp' => ?_⟩
                              exact Into.at ⟨((j + 1, ps ++ [y]), sp'), by show j + 1 ≤ A.length; omega, by show (ps ++ [y]).length = j + 1; rw [List.length_append, List.length_singleton, hpl]⟩ (by show A.length - (j + 1) < A.length - j; omega) ⟨[], by simp [hsG]⟩ (by simp [WL, leG_self, leG_any])
                            · have d2 : ((j : Int) < (A.length : Int)) = False := eq_false (by omega)
                              simp +contextual -implicitDefEqProofs (maxSteps := 2000000) (disch := omega) only [drawC, drawK, ↓lenV, binV, ↓loadV, ↓storeV, ↓fieldAddrV, ↓indexAddrV, ↓buildSliceV, ↓appendV, ↓srcV, fillE, GVal.cells, grp, List.map, List.headD, List.take, List.drop, ↓reduceIte, reduceEqDiff, reduceAdd, reduceLeDiff, reduceCtorEq, implies_true, ↓asrcV, Tag.cap, List.replicate, allSolid, GVal.solid, Nat.reduceBEq, reduceMul, splice, vcA, ↓vcB, vcC, fbFw, drop32a, take33a, len33, solid33, csG_len, all_csG, false_imp_iff, true_imp_iff, setO_7, d2]
                              refine ⟨by omega, by omega, fun st => ⟨by omega, by omega, fun st2 => ⟨by omega, by omega, fun st3 => ?_⟩⟩⟩
                              refine Into.rowLe (t := s3) (sz := 3) 1 [[.slice (csG cs ++ [bytesG h.1 ++ [.slice (hsG ps) (.tok 6 sp)]]) (.tok 2 st), .slice (hsG hs) (.tok 3 sh), .int .i64 gr]] [[.slice (csG (cs ++ [(h, ps)])) (.tok 2 st), .slice (hsG hs) (.tok 3 sh), .int .i64 gr]] (by simp) ⟨⟨GLe.slice (by rw [csG_app]; exact GLess.app (GLess.refl _) ⟨GLes_com _ _ _, trivial⟩), GLe.refl _, GLe.refl _, trivial⟩, trivial⟩ ?_
                              refine Into.at ⟨((cs ++ [(h, ps)], st), (B', T' ++ A)), hBl', by show (cs ++ [(h, ps)]).length + B'.count false ≤ 72; rw [List.length_append, List.length_singleton]; omega, fun c hc => ?_, by show (T' ++ A).length + 2 * B'.count false ≤ 200; rw [List.length_append]; omega⟩ (by show 3 * B'.count false + (T' ++ A).length < 3 * B.count false + (T'.length + 1); rw [List.length_append]; omega) ⟨[.row v 33 [bytesG h.1 ++ [.slice (hsG ps) (.tok 6 sp)]], .tok sp 32, .tok st3 1], by simp⟩ (by simp [WL, leG_self, leG_any, leG_none, ints])
                              rcases List.mem_append.1 hc with q | q
                              · exact hcp c q
                              · rw [List.mem_singleton.1 q]; show ps.length ≤ 8; omega
              · have dq : ((0 : Int) < q) = False := eq_false hq0
                simp +contextual -implicitDefEqProofs (maxSteps := 2000000) (disch := omega) only [↓lenV, binV, optV, ↓loadV, ↓fieldAddrV, ↓allocV, ↓sliceV, ↓minV, bound, cutTag, grp, GVal.ofConst, List.map, List.headD, List.take, List.drop, reduceAdd, reduceLeDiff, implies_true, GVal.solid, vcA, ↓vcB, vcC, fbFw, false_imp_iff, true_imp_iff, dq]
                refine cV.then ?_ (by rfl)
                by_cases v0 : w = 0
                · subst v0
                  simp +contextual -implicitDefEqProofs (maxSteps := 2000000) (disch := omega) only [binV, ↓loadV, ↓storeV, ↓fieldAddrV, GVal.cells, grp, GVal.ofConst, ↓resV, resG, List.headD, List.take, List.drop, reduceEqDiff, reduceAdd, reduceLeDiff, reduceCtorEq, implies_true, allSolid, GVal.solid, splice, vcA, ↓vcB, vcC, fbFw, false_imp_iff]
                  exact ⟨.agg (reqG cs hs .none x.g), [], _, rfl, fin_le _ _ _ _ _, cs, hs, x.g, ⟨by omega, hcp, by omega⟩, rfl, rfl⟩
                · by_cases v1 : w = 1
                  · subst v1
                    simp +contextual -implicitDefEqProofs (maxSteps := 2000000) (disch := omega) only [binV, ↓loadV, ↓storeV, ↓fieldAddrV, ↓buildV, ↓buildSliceV, ↓appendV, ↓srcV, fillG, fillE, place, GVal.cells, grp, GVal.ofConst, ↓resV, resG, List.map, List.headD, List.take, List.drop, ↓reduceIte, reduceEqDiff, reduceAdd, reduceLeDiff, reduceCtorEq, implies_true, ne_eq, ↓asrcV, Tag.cap, List.replicate, allSolid, GVal.solid, reduceMul, splice, vcA, ↓vcB, vcC, fbFw, solidH, len32, hsG_len, all_hsG, k10, false_imp_iff, true_imp_iff, nineH]
                    refine ⟨by omega, by omega, fun st => ?_⟩
                    exact ⟨.agg (reqG cs (hs ++ [hq 9 0 0]) .none gr), [], _, rfl, by rw [nine_snoc]; exact fin_le _ _ _ _ _, cs, hs ++ [hq 9 0 0], gr, ⟨by omega, hcp, by rw [List.length_append, List.length_singleton]; omega⟩, rfl, rfl⟩
                  · have e0 : (w = 0) = False := eq_false v0
                    have e1 : (w = 1) = False := eq_false v1
                    simp +contextual -implicitDefEqProofs (maxSteps := 2000000) (disch := omega) only [binV, ↓loadV, ↓storeV, ↓fieldAddrV, ↓buildV, ↓buildSliceV, ↓appendV, ↓srcV, fillG, fillE, place, GVal.cells, grp, GVal.ofConst, ↓resV, resG, List.map, List.headD, List.take, List.drop, ↓reduceIte, reduceEqDiff, reduceAdd, reduceLeDiff, reduceCtorEq, implies_true, ne_eq, ↓asrcV, Tag.cap, List.replicate, allSolid, GVal.solid, reduceMul, splice, vcA, ↓vcB, vcC, fbFw, hsG_len, all_hsG, false_imp_iff, true_imp_iff, e0, e1]
                    exact ⟨.agg (reqG cs hs .none gr), [], _, rfl, fin_le _ _ _ _ _, cs, hs, gr, ⟨by omega, hcp, by omega⟩, rfl, rfl⟩

end Gv.Tryz
/- A raw request among a caller's objects; a list of raw requests. -/
set_option linter.unusedVariables false
set_option linter.unusedSimpArgs false
set_option maxRecDepth 20000
set_option maxHeartbeats 8000000
namespace Gv.Tryz
open Go Gv Go.Proofs
theorem look_of_mem {α : Type} : ∀ {m : List (Hs × α)} {p : Hs × α}, (m.map (·.1)).Nodup → p ∈ m → look m p.1 = some p.2
  | q :: r, p, hn, hp => by
    rw [List.map_cons, List.nodup_cons] at hn
    rw [look]
    rcases List.mem_cons.1 hp with e | e
    · rw [e, if_pos rfl]
    · rw [if_neg (fun w => hn.1 (by rw [← w]; exact List.mem_map_of_mem e)), look_of_mem hn.2 e]
theorem GCalls.lift0 {P : Program} {f : FuncId} {args : List GVal} {R : GVal → Prop} (h : GCalls P f args [] (fun g O' => R g ∧ O' = [])) (O : List GObj) (hc : clockOf O = none) : GCalls P f args O (fun g O' => R g ∧ O' = O) := by
  refine GCalls.frame h [] trivial (by simp) (GLes.refl _) rfl hc ?_
  rintro g O' ⟨hr, rfl⟩
  refine ⟨g, O, (List.range O.length).map (fun k => (true, k)), ⟨hr, rfl⟩, GLe.refl g, Comes.of (by simp) fun k z s hz hs => ?_, ?_, hc⟩
  · have hk : k < O.length := (List.getElem?_eq_some_iff.1 hz).1
    simp only [List.getElem?_map, List.getElem?_range hk, Option.map_some, Option.some.injEq] at hs
    subst hs
    exact ⟨by simp, z, hz, .refl _⟩
  · rw [List.nodup_iff_pairwise_ne, List.pairwise_map]
    refine List.Pairwise.imp ?_ (List.pairwise_lt_range (n := O.length))
    intro a b hab
    simp; omega
def rrsG (l : List RR) : List (List GVal) := l.map rrG
instance : Inhabited RR := ⟨⟨[], [], 0, 0⟩⟩
theorem rrsG_len (l : List RR) : (rrsG l).length = l.length := by simp [rrsG]
theorem rrsG_at (l : List RR) (i : Nat) (h : i < l.length) : (rrsG l).getD i [] = rrG (l.getD i default) := by simp [rrsG, List.getD, h]
theorem gRequestO (x : RR) (O : List GObj) (hc : clockOf O = none) : GCalls Tryz.prog 7 [.agg (rrG x)] O (fun g O' => ∃ cs hs gr, ReqOK cs hs ∧ g = .agg (reqG cs hs .none gr) ∧ O' = O) := by
  refine (GCalls.lift0 (R := fun g => ∃ cs hs gr, ReqOK cs hs ∧ g = .agg (reqG cs hs .none gr)) ((gRequest x).mono ?_) O hc).mono ?_
  · rintro g O' ⟨cs, hs, gr, h1, h2, h3⟩
    exact ⟨⟨cs, hs, gr, h1, h2⟩, h3⟩
  · rintro g O' ⟨⟨cs, hs, gr, h1, h2⟩, h3⟩
    exact ⟨cs, hs, gr, h1, h2, h3⟩
end Gv.Tryz
/- Plain: alike graphs are good; errors are not zero. -/
set_option linter.unusedVariables false
set_option linter.unusedSimpArgs false
set_option maxRecDepth 20000
set_option maxHeartbeats 8000000
namespace Gv.Tryz
open Go Gv Go.Proofs
theorem good_alike {m L : GM} (hm : Good m) (h : Alike m L) (hL : SSC L) : Good L := by
  have k := ssc_keys hL
  refine ⟨⟨?_, fun p hp => ?_⟩, k, fun x y hy => ?_, fun x hx => ?_⟩
  · rw [← h.len hm.keys k]; exact hm.ok.len
  · have := look_of_mem k hp
    rw [← h p.1] at this
    exact hm.ok.row _ (look_mem this)
  · rw [← h.pars] at hy
    rw [← h y]; exact hm.closed x y hy
  · rw [← h.pars] at hx; exact hm.acyc x hx
theorem find_pos {α : Type} {f : α → Er} {l : List α} {e : Option Hs × Int} (h : l.findSome? f = some e) (hp : ∀ a x, f a = some x → x.2 ≠ 0) : e.2 ≠ 0 := by
  obtain ⟨a, _, ha⟩ := List.exists_of_findSome?_eq_some h
  exact hp a e ha
theorem nowhere_pos {M : GM} {n : Int} (hn : n ≠ 0) {p : Hs} {x : Option Hs × Int} (h : nowhere M n p = some x) : x.2 ≠ 0 := by
  unfold nowhere at h
  split at h
  · cases h
  · cases h; exact hn
theorem joinP_pos : ∀ {cs : List Cm} {m : GM} {e : Hs × Int}, joinP m cs = .error e → e.2 ≠ 0
  | [], m, e, h => by rw [joinP] at h; cases h
  | c :: r, m, e, h => by
    rw [joinP] at h
    split at h
    · exact joinP_pos h
    · rename_i e1
      unfold joinE at e1
      split at e1
      · split at e1
        · cases e1
        · cases h; cases e1; show (9 : Int) ≠ 0; decide
      · cases e1
theorem err_pos {gr : Int} {m : GM} {cs : List Cm} {hs : List Hs} {e : Option Hs × Int} (h : joinedP gr m cs hs = .error e) : e.2 ≠ 0 := by
  unfold joinedP at h
  split at h
  · rename_i e1
    cases h
    unfold sizesP at e1
    split at e1
    · cases e1; decide
    · refine find_pos e1 fun a x hx => ?_
      unfold sizeE at hx
      split at hx
      · cases hx; show (8 : Int) ≠ 0; decide
      · split at hx
        · cases hx; show (1 : Int) ≠ 0; decide
        · cases hx
  · split at h
    · rename_i e2
      cases h
      exact joinP_pos e2
    · split at h
      · rename_i e3
        cases h
        unfold lackP at e3
        split at e3
        · rename_i e4
          cases e3
          exact find_pos e4 fun a x hx => find_pos hx fun b y hy => nowhere_pos (by decide) hy
        · exact find_pos e3 fun a x hx => nowhere_pos (by decide) hx
      · split at h
        · rename_i e5
          cases h
          unfold roundP at e5
          refine find_pos e5 fun a x hx => ?_
          unfold roundE at hx
          split at hx
          · cases hx
          · split at hx
            · cases hx; show (12 : Int) ≠ 0; decide
            · cases hx
        · split at h
          · cases h; decide
          · cases h
end Gv.Tryz
/- Contracts: the reference's some and Ancestors. -/
set_option linter.unusedVariables false
set_option linter.unusedSimpArgs false
set_option maxRecDepth 20000
set_option maxHeartbeats 4000000
namespace Gv.Tryz
open Go Gv Go.Proofs
def blr (B : List Bool) : List (List GVal) := B.map fun b => [.bool b]
theorem blr_len (B : List Bool) : (blr B).length = B.length := by simp [blr]
theorem blr_at (B : List Bool) (i : Nat) (h : i < B.length) : (blr B).getD i [] = [.bool (B.getD i false)] := by simp [blr, List.getD, h]
theorem blr_set (B : List Bool) (i : Nat) (b : Bool) : (blr B).set i [.bool b] = blr (B.set i b) := by simp [blr, List.map_set]
def someL : GM → List Bool → List Hs
  | c :: r, b :: B => if b = true then c.1 :: someL r B else someL r B
  | _, _ => []
theorem someL_take : ∀ (L : GM) (B : List Bool) (k : Nat), k < L.length → k < B.length → someL (L.take (k + 1)) (B.take (k + 1)) = someL (L.take k) (B.take k) ++ if B.getD k false = true then [(L.getD k default).1] else []
  | c :: r, b :: B, 0, _, _ => by simp [someL]
  | c :: r, b :: B, k + 1, h1, h2 => by
    have := someL_take r B k (by simpa using h1) (by simpa using h2)
    rw [List.take_succ_cons, List.take_succ_cons, List.take_succ_cons, List.take_succ_cons, someL, someL, this, List.getD_cons_succ, List.getD_cons_succ]
    by_cases e : b = true
    · rw [if_pos e, if_pos e]; rfl
    · rw [if_neg e, if_neg e]
  | [], B, k, h, _ => by simp at h
  | c :: r, [], k, _, h => by simp at h
theorem someL_len : ∀ (L : GM) (B : List Bool), (someL L B).length ≤ L.length
  | [], B => by simp [someL]
  | c :: r, [] => by simp [someL]
  | c :: r, b :: B => by
    have := someL_len r B
    rw [someL]; split <;> simp <;> omega
theorem someL_mem : ∀ (L : GM) (B : List Bool) (x : Hs), B.length = L.length → (x ∈ someL L B ↔ ∃ i, i < L.length ∧ B.getD i false = true ∧ (L.getD i default).1 = x)
  | [], B, x, _ => by simp [someL]
  | c :: r, [], x, h => by simp at h
  | c :: r, b :: B, x, h => by
    have ih := someL_mem r B x (by simpa using h)
    rw [someL]
    constructor
    · intro hx
      have : (b = true ∧ x = c.1) ∨ x ∈ someL r B := by
        split at hx
        · rename_i e
          rcases List.mem_cons.1 hx with q | q
          · exact .inl ⟨e, q⟩
          · exact .inr q
        · exact .inr hx
      rcases this with ⟨e, rfl⟩ | q
      · exact ⟨0, by simp, by simpa using e, by simp⟩
      · obtain ⟨i, h1, h2, h3⟩ := ih.1 q
        exact ⟨i + 1, by simpa using h1, by simpa using h2, by simpa using h3⟩
    · rintro ⟨i, h1, h2, h3⟩
      cases i with
      | zero =>
        have e : b = true := by simpa using h2
        rw [if_pos e]
        have : c.1 = x := by simpa using h3
        rw [this]; simp
      | succ i =>
        have := ih.2 ⟨i, by simpa using h1, by simpa using h2, by simpa using h3⟩
        split
        · exact List.mem_cons_of_mem _ this
        · exact this
theorem someL_ss : ∀ (L : GM) (B : List Bool), SSC L → SS (someL L B)
  | [], B, _ => by simp [someL]
  | c :: r, [], _ => by simp [someL]
  | c :: r, b :: B, h => by
    obtain ⟨h1, h2⟩ := List.pairwise_cons.1 h
    have ih := someL_ss r B h2
    rw [someL]
    split
    · refine List.pairwise_cons.2 ⟨fun y hy => ?_, ih⟩
      have : ∀ (L : GM) (B : List Bool), ∀ y ∈ someL L B, ∃ q ∈ L, q.1 = y := by
        intro L
        induction L with
        | nil => intro B y hy; simp [someL] at hy
        | cons c r ih =>
          intro B y hy
          cases B with
          | nil => simp [someL] at hy
          | cons b B =>
            rw [someL] at hy
            split at hy
            · rcases List.mem_cons.1 hy with e | e
              · exact ⟨c, by simp, e.symm⟩
              · obtain ⟨q, q1, q2⟩ := ih B y e
                exact ⟨q, by simp [q1], q2⟩
            · obtain ⟨q, q1, q2⟩ := ih B y hy
              exact ⟨q, by simp [q1], q2⟩
      obtain ⟨q, q1, rfl⟩ := this r B y hy
      exact h1 q q1
    · exact ih
theorem rSome (L : GM) (hl : L.length ≤ 100000) (B : List Bool) (hB : B.length = L.length) (rt sb : Nat) :
    GCalls Tryz.prog 46 [.ptr 0 rt 0 0, .own 1 sb 0 L.length] (rObj rt L ++ [.row sb 1 (blr B)]) (fun g O' => g = .slice (hsG (someL L B)) .none ∧ O' = rObj rt L ++ [.row sb 1 (blr B)]) := by
  refine GCalls.dropTo ?_
  refine h46.calls mixS (by simp) ?_
  simp only [gstart, s46, List.cons_append, List.nil_append, List.length_cons, List.length_nil, Nat.reduceAdd, Nat.reduceSub, List.replicate_succ, List.replicate_zero]
  simp +contextual -implicitDefEqProofs (maxSteps := 2000000) (disch := omega) only [GVal.ofConst, vcA, ↓vcB, e46]
  refine vcSLoop_by (ι := { p : Nat × Nat // p.1 ≤ L.length }) (fun p => ⟨[.ptr 0 rt 0 0, .own 1 sb 0 L.length, .any, .any, .any, .slice (hsG (someL (L.take p.1.1) (B.take p.1.1))) (.tok 2 p.1.2), .int .i64 (p.1.1 : Nat)] ++ List.replicate 22 .any, rObj rt L ++ [.row sb 1 (blr B), .tok p.1.2 32]⟩) (fun p => L.length - p.1.1) ?_ ?_
  · refine Into.tok 5 32 [] rfl rfl ?_
    simp +contextual -implicitDefEqProofs (maxSteps := 2000000) (disch := omega) only [Nat.reduceAdd, List.replicate, vcA, vcC]
    intro so
    exact Into.first ⟨(0, so), Nat.zero_le _⟩ ⟨[], by simp⟩ (by simp [WL, leG_self, leG_any, someL, hsG])
  · rintro ⟨⟨k, so⟩, hk⟩
    change k ≤ L.length at hk
    have hsl := someL_len (L.take k) (B.take k)
    rw [List.length_take] at hsl
    have hsl : (someL (L.take k) (B.take k)).length ≤ 100000 := by omega
    by_cases h : k < L.length
    · have d0 : ((k : Int) < (L.length : Int)) = True := eq_true (by omega)
      have eB := blr_at B k (by omega)
      have eS := csG_at L k h
      have hst := someL_take L B k h (by omega)
      obtain ⟨xh, xp, hx⟩ : ∃ xh xp, L.getD k default = (xh, xp) := ⟨_, _, rfl⟩
      rw [hx] at eS hst
      cases eb : B.getD k false with
      | true =>
        rw [eb, if_pos rfl] at hst
        rw [eb] at eB
        simp +contextual -implicitDefEqProofs (maxSteps := 2000000) (disch := omega) only [↓lenV, binV, ↓loadV, ↓fieldAddrV, ↓indexAddrV, ↓buildSliceV, ↓nilV, ↓appendV, ↓srcV, fillE, GVal.cells, grp, GVal.ofConst, List.map, List.headD, List.take, List.drop, ↓reduceIte, Nat.reduceEqDiff, Nat.reduceLeDiff, reduceCtorEq, implies_true, ↓asrcV, Tag.cap, List.replicate, GVal.solid, Nat.reduceMul, vcA, ↓vcB, vcC, fbFw, d0, eB, eS, blr_len, hB, csG_len, comG, take32a, len33, solidH, len32, hsG_len, all_hsG]
        refine ⟨by omega, h, h, by omega, by omega, by omega, fun st => ?_⟩
        exact Into.at ⟨(k + 1, st), by show k + 1 ≤ L.length; omega⟩ (by show L.length - (k + 1) < L.length - k; omega) ⟨[], by simp⟩ (by simp [WL, leG_self, leG_any, hst, hsG])
      | false =>
        rw [eb, if_neg (by simp), List.append_nil] at hst
        rw [eb] at eB
        simp +contextual -implicitDefEqProofs (maxSteps := 2000000) (disch := omega) only [↓lenV, binV, ↓loadV, ↓indexAddrV, grp, GVal.ofConst, List.headD, List.take, List.drop, Nat.reduceLeDiff, implies_true, List.replicate, vcA, ↓vcB, vcC, fbFw, d0, eB, blr_len, hB]
        refine ⟨by omega, h, h, ?_⟩
        exact Into.at ⟨(k + 1, so), by show k + 1 ≤ L.length; omega⟩ (by show L.length - (k + 1) < L.length - k; omega) ⟨[], by simp⟩ (by simp [WL, leG_self, leG_any, hst])
    · have d0 : ((k : Int) < (L.length : Int)) = False := eq_false (by omega)
      have e1 : L.take k = L := List.take_of_length_le (by omega)
      have e2 : B.take k = B := List.take_of_length_le (by omega)
      simp +contextual -implicitDefEqProofs (maxSteps := 2000000) (disch := omega) only [↓lenV, binV, ↓loadV, ↓fieldAddrV, ↓indexAddrV, ↓buildSliceV, ↓nilV, ↓appendV, ↓srcV, fillE, GVal.cells, grp, GVal.ofConst, ↓resV, resG, List.map, List.headD, List.take, List.drop, ↓reduceIte, Nat.reduceEqDiff, Nat.reduceLeDiff, reduceCtorEq, implies_true, ↓asrcV, Tag.cap, List.replicate, GVal.solid, Nat.reduceMul, vcA, ↓vcB, vcC, fbFw, d0, blr_len, hB, e1, e2]
      exact ⟨.slice (hsG (someL L B)) .none, rObj rt L ++ [.row sb 1 (blr B)], [.tok so 32], rfl, by rw [leA_slice], rfl, rfl⟩
abbrev hdL (L : GM) (k : Nat) : Hs := (L.getD k default).1
end Gv.Tryz
/- Objects that are set aside for a while: a map whose entries are held one by one. -/
set_option linter.unusedVariables false
namespace Gv
open Go Go.MapKept Go.ChangeMaps
variable {P : Program}
structure Hid (E : Env) (O : List GObj) (w : World) (b : Nat) : Prop where
  obj : ¬ InO E O b
  snap : ∀ o, E.snap b o = none
  lt : b < w.heap.size
theorem Hid.keep {E E' : Env} {O O' : List GObj} {w w' : World} {b : Nat} (h : Hid E O w b) (k : Keep E O w E' O' w') : Hid E' O' w' b ∧ w'.heap[b]? = w.heap[b]? := by
  refine ⟨⟨fun hb => ?_, fun o => ?_, Nat.lt_of_lt_of_le h.lt k.size⟩, k.heap b h.lt h.obj⟩
  · rcases k.objs b hb with h1 | h1
    · exact h.obj h1
    · have := h.lt; omega
  · cases hv : E'.snap b o with
    | none => rfl
    | some v =>
      rcases k.snap b o v hv with h1 | h1 | h1
      · rw [h.snap] at h1; cases h1
      · have := h.lt; omega
      · exact absurd h1 h.obj
theorem HSim.grown {E : Env} {O : List GObj} {w w' : World} (h : HSim E O w) {row : Option Nat} (g : w.grownBy w' row) (hr : ∀ r, row = some r → ¬ InO E O r ∧ ∀ o, E.snap r o = none) : HSim E O w' := by
  have hne : ∀ b, InO E O b → some b ≠ row := fun b hb e => (hr b e.symm).1 hb
  refine ⟨h.fin, fun b o v hv => ?_, h.one, fun i obj ho => ?_, h.sep, h.glob⟩
  · have hb : some b ≠ row := fun e => by rw [(hr b e.symm).2 o] at hv; cases hv
    rw [Go.World.cell?_of_block (w := w) (w' := w') (a := ⟨b, o, none⟩) (g.block b (h.lt hv) hb)]
    exact h.sealed _ _ _ hv
  · refine (h.real i obj ho).keep (.refl E) (fun b hb => g.block b ((h.real i obj ho).blk_lt hb) (hne b ⟨i, obj, ho, hb⟩)) (fun b o v hb hv => ?_)
    exact hv
theorem Keep.grown {E0 E : Env} {O0 O : List GObj} {w0 w w' : World} (k : Keep E0 O0 w0 E O w) {row : Option Nat} (g : w.grownBy w' row) (hr : ∀ r, row = some r → w0.heap.size ≤ r) : Keep E0 O0 w0 E O w' :=
  ⟨k.ext, g.os.trans k.os, g.output.trans k.out, Nat.le_trans k.size g.size, fun b hb hn => (g.block b (Nat.lt_of_lt_of_le hb k.size) (fun e => by have := hr b e.symm; omega)).trans (k.heap b hb hn), k.snap, k.objs, trivial⟩
theorem Hid.grown {E : Env} {O : List GObj} {w w' : World} {b : Nat} {row : Option Nat} (h : Hid E O w b) (g : w.grownBy w' row) : Hid E O w' b := ⟨h.obj, h.snap, Nat.lt_of_lt_of_le h.lt g.size⟩
theorem HSim.hide {E : Env} {O : List GObj} {w : World} (h : HSim E O w) (i : Nat) (x : GObj) (hO : O[i]? = some x) (hx : x.isClock = false) : HSim E (O.set i .dead) w ∧ Keep E O w E (O.set i .dead) w := by
  have split : ∀ (j : Nat) y, (O.set i .dead)[j]? = some y → (j = i ∧ y = .dead) ∨ O[j]? = some y := by
    intro j y hy
    rw [List.getElem?_set] at hy
    by_cases e : i = j
    · rw [if_pos e] at hy
      split at hy
      · exact .inl ⟨e.symm, (Option.some.inj hy).symm⟩
      · cases hy
    · rw [if_neg e] at hy; exact .inr hy
  have hc : clockOf (O.set i .dead) = clockOf O := by
    match O, i with
    | [], _ => rfl
    | y :: r, 0 => simp at hO; subst hO; cases y <;> first | rfl | cases hx
    | y :: r, k + 1 => cases y <;> rfl
  refine ⟨⟨by unfold Fin'; rw [hc]; exact h.fin, h.sealed, h.one, fun j y hy => ?_, fun j k oj ok b hjk hj hk hbj hbk => ?_, h.glob⟩, ⟨.refl E, rfl, rfl, Nat.le_refl _, fun _ _ _ => rfl, fun _ _ _ h => .inl h, fun b ⟨j, y, hy, hb⟩ => ?_, trivial⟩⟩
  · rcases split j y hy with ⟨_, rfl⟩ | h1
    · trivial
    · exact h.real j y h1
  · rcases split j oj hj with ⟨_, rfl⟩ | h1
    · cases hbj
    · rcases split k ok hk with ⟨_, rfl⟩ | h2
      · cases hbk
      · exact h.sep j k oj ok b hjk h1 h2 hbj hbk
  · rcases split j y hy with ⟨_, rfl⟩ | h1
    · cases hb
    · exact .inl ⟨j, y, h1, hb⟩
structure MapAt (E : Env) (w : World) (b : Nat) (es : Array MapEntry) (clock : Nat) (kv : List (GVal × GVal)) : Prop where
  at_ : w.heap[b]? = some (.map es clock)
  size : es.size = kv.length
  ent : ∀ (i : Nat) e p, es[i]? = some e → kv[i]? = some p → EntryOK E e p
  born : BornOK es clock
theorem MapAt.ext {E E' : Env} {w w' : World} {b : Nat} {es : Array MapEntry} {clock : Nat} {kv : List (GVal × GVal)} (h : MapAt E w b es clock kv) (hE : E.le E') (hw : w'.heap[b]? = w.heap[b]?) : MapAt E' w' b es clock kv :=
  ⟨hw.trans h.at_, h.size, fun i e p he hp => ⟨(h.ent i e p he hp).1.mono hE, (h.ent i e p he hp).2.mono hE⟩, h.born⟩
theorem HSim.hideMap {E : Env} {O : List GObj} {w : World} (h : HSim E O w) {i st : Nat} {kv : List (GVal × GVal)} (hO : O[i]? = some (.map st kv)) :
    ∃ l b es clock, E.loc st = some l ∧ l.block = some b ∧ MapAt E w b es clock kv ∧ HSim E (O.set i .dead) w ∧ Keep E O w E (O.set i .dead) w ∧ Hid E (O.set i .dead) w b ∧ InO E O b := by
  obtain ⟨l, b, es, clock, hl, hb, hw, hs, he, hbo, hsn⟩ := h.real i _ hO
  obtain ⟨h1, h2⟩ := h.hide i _ hO rfl
  refine ⟨l, b, es, clock, hl, hb, ⟨hw, hs, he, hbo⟩, h1, h2, ⟨fun hi => ?_, hsn, (Array.getElem?_eq_some_iff.1 hw).1⟩, ⟨i, _, hO, by simp [GObj.blk, hl, hb]⟩⟩
  obtain ⟨j, y, hy, hyb⟩ := hi
  rw [List.getElem?_set] at hy
  by_cases e : i = j
  · rw [if_pos e] at hy
    split at hy
    · cases hy; cases hyb
    · cases hy
  · rw [if_neg e] at hy
    exact h.sep i j _ _ b e hO hy (by simp [GObj.blk, hl, hb]) hyb
end Gv
/- `m[k] = f(m[k])`: a map's entry found, and written later. -/
set_option linter.unusedVariables false
namespace Gv
open Go Go.MapKept Go.ChangeMaps
variable {P : Program} {E : Env} {O : List GObj} {w : World}
end Gv
/- A walk in parts: some by conditions, some by hand. -/
set_option linter.unusedVariables false
namespace Gv
open Go Go.MapKept Go.ChangeMaps Go.Maps
variable {P : Program} {all : Array Oper} {QQ : Exit → Act → World → Prop} {E : Env} {st : GSt} {a : Act} {w : World} {o : Oper} {rest : List Oper}
@[reducible] def cfgOf {P : Program} {f : FuncId} {C : Cfg} {n : Nat} {rs : List ResultVar} {s : SCode} (_ : FnS P f C n rs s) : Cfg := C
def vcN (N : GSt → Prop) : Ex → GSt → Prop
  | .normal, s => N s
  | _, _ => False
def NW (s : List GVal) (O : List GObj) (st : GSt) : Prop := st.o = O ∧ WL st.s s
theorem wp_part {C : Cfg} (hmix : P.follows .mixedOrders = true) {c : Code} {s : SCode} (hs : slim C c = some s) (hc : codeOk C c = true) (h : HSim E st.o w) (ha : SlotsR E a st.s) {N : GSt → Prop} (hv : vcS P C.ro s (vcN N) st) {Q : Exit → Act → World → Prop}
    (hn : ∀ st' E' a' w', HSim E' st'.o w' → Keep E st.o w E' st'.o w' → SlotsR E' a' st'.s → N st' → Q .normal a' w') : c.wp P Q a w := by
  refine wp_mono (vc_sound hmix c (vcN N) st E a w hc h ha (vcS_ok c s (vcN N) (vcN N) st hs (fun _ _ h => h) hv)) ?_
  rintro e a' w' ⟨ex, st', E', hx, h1, h2, h3, h4⟩
  cases e <;> cases ex <;> first
    | exact hx.elim
    | exact h4.elim
    | exact hn st' E' a' w' h1 h2 h3 h4
theorem Post.trans {E0 E : Env} {O0 O : List GObj} {w0 w : World} {Q : Ex → GSt → Prop} {e : Exit} {a' : Act} {w' : World} (k : Keep E0 O0 w0 E O w) (h : Post E O w Q e a' w') : Post E0 O0 w0 Q e a' w' := by
  obtain ⟨ex, st', E', hx, h1, h2, h3, h4⟩ := h
  exact ⟨ex, st', E', hx, h1, k.trans h2, h3, h4⟩
theorem wpList_run (hg : o.guard = none) {v : Value} {w' : World} (hr : (execOp a.eval o).run P w = .ok (.value v) w') (h : wpList P all QQ rest (a.put o.dst v) w') : wpList P all QQ (o :: rest) a w :=
  wpList_plain hg fun K' hK' => by
    unfold Oper.wp
    rw [hr]
    simp only [Oper.upon_value]
    exact hK' _ _ h
theorem op_step (hg : o.guard = none) (h : HSim E st.o w) (ha : SlotsR E a st.s) {R : List Nat} {N : GSt → Prop} (hk : opv P R st o (fun g O' => N (st.put o.dst g O')))
    (hq : ∀ st' E' a' w', HSim E' st'.o w' → Keep E st.o w E' st'.o w' → SlotsR E' a' st'.s → N st' → wpList P all QQ rest a' w') : wpList P all QQ (o :: rest) a w :=
  wpList_plain hg fun K' hK' => Oper.wp_mono (fun a w h => hK' a w h) (op_sound h ha hk (fun v w' E' O' g h1 h2 h3 h4 =>
    hq (st.put o.dst g O') E' _ w' (by rw [GSt.put_o]; exact h1) (by rw [GSt.put_o]; exact h2) (ha.put h2.ext h3 O') h4))
theorem ops_seg {R : List Nat} : ∀ (k : Nat) {ops : List Oper} {l : List SOp} {st : GSt} {E : Env} {a : Act} {w : World} (hl : (ops.take k).map (fun o => (⟨o.dst, o.op, none⟩ : SOp)) = l) (hg : (ops.take k).all (fun o => o.guard.isNone) = true)
    (h : HSim E st.o w) (ha : SlotsR E a st.s) {N : GSt → Prop} (hv : opsS P R l N st)
    (hq : ∀ st' E' a' w', HSim E' st'.o w' → Keep E st.o w E' st'.o w' → SlotsR E' a' st'.s → N st' → wpList P all QQ (ops.drop k) a' w'), wpList P all QQ ops a w
  | 0, ops, l, st, E, a, w, hl, hg, h, ha, N, hv, hq => by
    simp only [List.take_zero, List.map_nil] at hl
    subst hl
    rw [opsS_nil] at hv
    exact hq st E a w h (.refl _ _ _) ha hv
  | k + 1, [], l, st, E, a, w, hl, hg, h, ha, N, hv, hq => by
    simp only [List.take_nil, List.map_nil] at hl
    subst hl
    rw [opsS_nil] at hv
    exact hq st E a w h (.refl _ _ _) ha hv
  | k + 1, o :: r, l, st, E, a, w, hl, hg, h, ha, N, hv, hq => by
    simp only [List.take_succ_cons, List.map_cons] at hl
    subst hl
    simp only [List.take_succ_cons, List.all_cons, Bool.and_eq_true, Option.isNone_iff_eq_none] at hg
    rw [opsS_one, ← opS_eq] at hv
    refine op_step (N := fun s => opsS P R ((r.take k).map (fun o => (⟨o.dst, o.op, none⟩ : SOp))) N s) hg.1 h ha hv (fun st' E' a' w' h1 h2 h3 h4 => ?_)
    exact ops_seg k rfl hg.2 h1 h3 h4 (fun st2 E2 a2 w2 q1 q2 q3 q4 => hq st2 E2 a2 w2 q1 (h2.trans q2) q3 q4)
theorem range_step (hg : o.guard = none) {m : Operand} {t k e : TypeId} (hop : o.op = Op.range t m) (ht : P.underlying t = some (.map k e)) {b clock : Nat} {es : Array MapEntry}
    (hm : a.eval m = .map (some b)) (hb : w.heap[b]? = some (.map es clock)) (hbo : Gv.BornOK es clock)
    (hK : ∀ w', WalkAt w' b w.heap.size es clock #[] → w.grownBy w' none → w'.heap.size = w.heap.size + 1 → wpList P all QQ rest (a.put o.dst (.pointer (some ⟨w.heap.size, 0, none⟩))) w') :
    wpList P all QQ (o :: rest) a w := by
  have hrun := run_range_map w t k e b es clock ht hb
  have hlt := (Array.getElem?_eq_some_iff.1 hb).1
  refine wpList_run (v := .pointer (some ⟨w.heap.size, 0, none⟩)) (w' := w.alloc (.mapIter (some b) clock #[] clock)) hg (by simp [execOp, hop, hm, hrun, Result.andThen]) ?_
  exact hK _ ⟨clock, clock, ((MapKept.heap_alloc w _).2 b hlt).trans hb, (MapKept.heap_alloc w _).1, hbo.1, Nat.le_refl _, Nat.le_refl _⟩ (World.grownBy_alloc w _ none) (by simp)
theorem next_step (hg : o.guard = none) {it : Operand} (hop : o.op = Op.next it false) {b r clock : Nat} {es : Array MapEntry} (hbo : Gv.BornOK es clock) {seen : Array Nat} {xs : List MapEntry} (hx : Came es seen xs)
    (hit : a.eval it = .pointer (some ⟨r, 0, none⟩)) (h : WalkAt w b r es clock seen)
    (hDone : xs.Perm es.toList → wpList P all QQ rest (a.put o.dst (.tuple #[.bool false])) w)
    (hMore : ∀ (e : MapEntry) (w' : World), e ∈ es.toList → Came es (seen.push e.born) (xs ++ [e]) → xs.length < es.size → WalkAt w' b r es clock (seen.push e.born) → w'.rangeLeft b r < w.rangeLeft b r →
      w.grownBy w' (some r) → (∀ w2 : World, w2.heap[b]? = w'.heap[b]? → w2.heap[r]? = w'.heap[r]? → (Instr.entry (.pointer (some ⟨r, 0, none⟩))).run P w2 = .ok (.tuple #[e.key, e.val]) w2) → wpList P all QQ rest (a.put o.dst (.tuple #[.bool true, e.key, e.val])) w') :
    wpList P all QQ (o :: rest) a w := by
  have hle := h.left_eq
  obtain ⟨since, c0, hb, hr, hold, hsc, hsk⟩ := h
  obtain ⟨hse, hxn, hxm⟩ := hx
  have hne : r ≠ b := fun e => by rw [e, hb] at hr; cases hr
  have hnd : es.toList.Nodup := hbo.2.imp fun h e => h (congrArg _ e)
  have hbn : (es.toList.map (·.born)).Nodup := List.pairwise_map.2 hbo.2
  rcases run_next_at (P := P) w o.type r b since c0 seen es clock hr hb hold hsc with ⟨h0, hrun⟩ | ⟨e, he, w1, hal, hrun⟩
  · refine wpList_run hg (by simp [execOp, hop, hit, hrun, Result.andThen]) (hDone ?_)
    refine (List.perm_ext_iff_of_nodup hxn hnd).2 fun x => ⟨fun q => hxm x q, fun q => ?_⟩
    have hs := all_seen es seen h0 x q
    rw [hse] at hs
    have hm : x.born ∈ xs.map MapEntry.born := by simpa using hs
    obtain ⟨y, hy, ey⟩ := List.mem_map.1 hm
    rwa [← born_inj hbn (hxm y hy) q ey]
  · have hr1 : w1.heap[r]? = some (.mapIter (some b) since seen c0) := by rcases hal with rfl | rfl <;> exact hr
    have hb1 : w1.heap[b]? = some (.map es clock) := by rcases hal with rfl | rfl <;> exact hb
    have hset := heap_set (o' := .mapIter (some b) since (seen.push e.born) clock) hr1
    have hb' : (ChangeMaps.setBlock w1 r (.mapIter (some b) since (seen.push e.born) clock)).heap[b]? = some (.map es clock) := (hset.2 b (fun e1 => hne e1.symm)).trans hb1
    obtain ⟨hem, hes⟩ := mem_left he
    have hc : Came es (seen.push e.born) (xs ++ [e]) := by
      refine ⟨by rw [hse]; simp, List.nodup_append.2 ⟨hxn, by simp, fun y hy z hz => ?_⟩, fun y hy => ?_⟩
      · rw [List.mem_singleton.1 hz]
        intro q
        have : e.born ∈ xs.map MapEntry.born := List.mem_map_of_mem (q ▸ hy)
        rw [hse] at hes
        have h3 : (xs.map MapEntry.born).toArray.contains e.born = true := by simpa using this
        rw [h3] at hes; cases hes
      · rcases List.mem_append.1 hy with q | q
        · exact hxm y q
        · rw [List.mem_singleton.1 q]; exact hem
    have hlen : (xs ++ [e]).length ≤ es.toList.length := nodup_le _ _ hc.2.1 hc.2.2
    have hw : WalkAt (ChangeMaps.setBlock w1 r (.mapIter (some b) since (seen.push e.born) clock)) b r es clock (seen.push e.born) := ⟨since, clock, hb', hset.1, hold, hsk, hsk⟩
    refine wpList_run hg (by simp [execOp, hop, hit, hrun, Result.andThen]) (hMore e _ hem hc (by simp at hlen; omega) hw ?_ ?_ (fun w2 e1 e2 => run_entry_at w2 r b since seen es clock e (e2.trans hset.1) (e1.trans hb') hem hbn))
    · rw [hle, hw.left_eq]
      exact left_shrinks es _ e he
    · rcases hal with rfl | rfl <;> exact ⟨rfl, rfl, rfl, by simp [ChangeMaps.setBlock], fun i _ hi => hset.2 i (fun e1 => hi (by rw [e1]))⟩
theorem entry_step (hg : o.guard = none) {it : Operand} (hop : o.op = Op.entry it) {r : Nat} {v : Value} (hit : a.eval it = .pointer (some ⟨r, 0, none⟩)) (he : (Instr.entry (.pointer (some ⟨r, 0, none⟩))).run P w = .ok v w)
    (h : wpList P all QQ rest (a.put o.dst v) w) : wpList P all QQ (o :: rest) a w :=
  wpList_run hg (by simp [execOp, hop, hit, he, Result.andThen]) h
theorem map_val {v : Value} {i s b : Nat} {l : GLoc} (h : VR E v (.map i s)) (hl : E.loc s = some l) (hb : l.block = some b) : v = .map (some b) := by
  cases h with
  | map r o st l' hl' hb' =>
    rw [hl] at hl'; cases hl'
    rw [hb] at hb'; cases hb'
    rfl
theorem HSim.meltBox1 {O : List GObj} {t sz : Nat} {cs : List GVal} (h : HSim E (O ++ [.row t sz [cs]]) w) {s : List GVal} (ha : SlotsR E a s) (i : Nat) (hx : s.getD i .any = .ptr O.length t 0 0) (hsz : cs.length = sz) :
    HSim (E.frz [.row t sz [cs]] w) O w ∧ Keep E (O ++ [.row t sz [cs]]) w (E.frz [.row t sz [cs]] w) O w ∧ SlotsR (E.frz [.row t sz [cs]] w) a (s.set i (.ref cs)) := by
  obtain ⟨h0, h1, h2⟩ := h.melt
  refine ⟨h1, h2, by simp [ha.size], ha.defers, fun k g hg => ?_⟩
  rw [List.getElem?_set] at hg
  by_cases hk : i = k
  · subst hk
    rw [if_pos rfl] at hg
    split at hg
    · rename_i hlt
      simp only [Option.some.injEq] at hg
      subst hg
      have := ha.at_ i _ (getD_of (d := GVal.any) hlt)
      rw [hx] at this
      revert this
      generalize a.tmps.getD i undef = tv
      intro this
      cases this with
      | ptr b off o st i j l hl hb ho =>
        have hreal := h0.real 0 _ rfl
        obtain ⟨l', hl', hsz', hxs, hr⟩ := hreal
        rw [hl] at hl'; cases hl'
        rw [hb] at hr
        obtain ⟨cur, el, hcw, hcs, hct, hrows, hsn⟩ := hr
        have hrow : ∀ j g, [cs].flatten[j]? = some g → ∃ v, (E.frz [.row t sz [cs]] w).snap b (off + j) = some v ∧ VR E v g := fun j g hj => by
          have := row_frz h0 (i := 0) rfl hl hb hj
          obtain ⟨v, hv1, hv2⟩ := this
          refine ⟨v, ?_, ?_⟩
          · rw [ho]; simpa using hv1
          · first | exact hv2 | exact hv2.2 | exact hv2.1
        refine .ref b off cs (fun j => ((E.frz [.row t sz [cs]] w).snap b (off + j)).getD undef) (fun j hj => ?_) (fun j g hg => ?_)
        · obtain ⟨v, hv, _⟩ := hrow j (cs[j]'(by omega)) (by simp)
          rw [hv]; rfl
        · obtain ⟨v, hv, hvr⟩ := hrow j g (by simpa using hg)
          rw [hv]
          exact hvr.mono h2.ext
    · cases hg
  · rw [if_neg hk] at hg
    exact (ha.at_ k g hg).mono h2.ext
end Gv
/- graph.Descendants, the ghost parts of its walk. -/
set_option linter.unusedVariables false
set_option linter.unusedSimpArgs false
set_option maxRecDepth 20000
set_option maxHeartbeats 4000000
namespace Gv.Tryz
open Go Gv Go.Proofs
end Gv.Tryz
/- graph.Descendants: the map of children grows. -/
set_option linter.unusedVariables false
set_option linter.unusedSimpArgs false
set_option maxRecDepth 20000
set_option maxHeartbeats 4000000
namespace Gv.Tryz
open Go Gv Go.Proofs
def kidPut (ch : GM) (p h : Hs) : GM := mset ch p ((look ch p).getD [] ++ [h])
def kidRow (ch : GM) (h : Hs) (ps : List Hs) : GM := ps.foldl (fun c p => kidPut c p h) ch
def kidAll (pre : GM) : GM := pre.foldl (fun c q => kidRow c q.1 q.2) []
abbrev CT := List ((Hs × List Hs) × Nat)
def kvT (ct : CT) : List (GVal × GVal) := ct.zipIdx.map fun q => (.agg (bytesG q.1.1.1.1), .slice (hsG q.1.1.2) (.tok (q.2 + 4) q.1.2))
def obs (st s stC stb : Nat) (ct : CT) : List GObj := .row st 1 [[.map 1 s]] :: .dead :: .dead :: .row stb 1 [[.map 2 stC]] :: ct.map fun q => .tok q.2 32
structure DD where
  (st s stC stb b r bC : Nat)
  m : GM
  es : Array MapEntry
  clock : Nat
  E0 : Env
  w0 : World
  lC : GLoc
structure DOK (D : DD) : Prop where
  hl : D.lC.block = some D.bC
  h0 : D.w0.heap.size ≤ D.bC
  hr0 : D.w0.heap.size ≤ D.r
  nb : D.bC ≠ D.b
  nr : D.bC ≠ D.r
  nrb : D.r ≠ D.b
  born : BornOK D.es D.clock
abbrev DD.o (D : DD) (ct : CT) : List GObj := obs D.st D.s D.stC D.stb ct
structure AtW (D : DD) (seen : Array Nat) (E : Env) (O : List GObj) (w : World) : Prop where
  sim : HSim E O w
  keep : Keep D.E0 [.row D.st 1 [[.map 1 D.s]], .dead] D.w0 E O w
  walk : WalkAt w D.b D.r D.es D.clock seen
  hb : Hid E O w D.b
  hr : Hid E O w D.r
  hC : Hid E O w D.bC
  loc : E.loc D.stC = some D.lC
def Ent (D : DD) (ct : CT) (E : Env) (w : World) : Prop := ∃ esC cC, MapAt E w D.bC esC cC (kvT ct)
theorem walk_same {w w' : World} {b r clock : Nat} {es : Array MapEntry} {seen : Array Nat} (h : WalkAt w b r es clock seen) (hb : w'.heap[b]? = w.heap[b]?) (hr : w'.heap[r]? = w.heap[r]?) : WalkAt w' b r es clock seen := by
  obtain ⟨since, c0, h1, h2, h3, h4, h5⟩ := h
  exact ⟨since, c0, hb.trans h1, hr.trans h2, h3, h4, h5⟩
theorem AtW.step {D : DD} {seen : Array Nat} {E E' : Env} {O O' : List GObj} {w w' : World} (h : AtW D seen E O w) (h' : HSim E' O' w') (k : Keep E O w E' O' w') : AtW D seen E' O' w' :=
  ⟨h', h.keep.trans k, walk_same h.walk (h.hb.keep k).2 (h.hr.keep k).2, (h.hb.keep k).1, (h.hr.keep k).1, (h.hC.keep k).1, k.ext.loc _ _ h.loc⟩
theorem Ent.step {D : DD} {ct : CT} {seen : Array Nat} {E E' : Env} {O O' : List GObj} {w w' : World} (h : Ent D ct E w) (hA : AtW D seen E O w) (k : Keep E O w E' O' w') : Ent D ct E' w' := by
  obtain ⟨esC, cC, hm⟩ := h
  exact ⟨esC, cC, hm.ext k.ext (hA.hC.keep k).2⟩
theorem AtW.poke {D : DD} (hD : DOK D) {seen : Array Nat} {E : Env} {O : List GObj} {w w' : World} (h : AtW D seen E O w) (g : w.grownBy w' (some D.bC)) : AtW D seen E O w' :=
  ⟨h.sim.grown g (fun r e => by cases e; exact ⟨h.hC.obj, h.hC.snap⟩), h.keep.grown g (fun r e => by cases e; exact hD.h0),
   walk_same h.walk (g.block _ h.hb.lt (fun e => hD.nb (Option.some.inj e).symm)) (g.block _ h.hr.lt (fun e => hD.nr (Option.some.inj e).symm)), h.hb.grown g, h.hr.grown g, h.hC.grown g, h.loc⟩
end Gv.Tryz
