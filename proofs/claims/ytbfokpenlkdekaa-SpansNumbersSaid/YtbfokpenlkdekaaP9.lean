/- Contracts: spans.Union, Both, rest, Minus. -/
import Derived.Test.YtbfokpenlkdekaaP8
set_option linter.unusedVariables false
set_option linter.unusedSimpArgs false
set_option maxRecDepth 20000
set_option maxHeartbeats 4000000
namespace Gv.Try
open Go Gv Go.Proofs

theorem sGrow (n : Nat) (hn : n ≤ 4398046511104) : GCalls Try.prog 51 [.slice [] .nil, .int .i64 n] [] (fun g O' => (n = 0 ∧ g = .slice [] .nil ∧ O' = []) ∨ ∃ st xs, g = .own 0 st 0 0 ∧ O' = [.row st 2 xs]) := by
  refine h51.calls mixS (by simp) ?_
  simp only [gstart, s51, List.cons_append, List.nil_append, List.length_cons, List.length_nil, Nat.reduceAdd, Nat.reduceSub, List.replicate_succ, List.replicate_zero]
  have d0 : ((n : Int) < 0) = False := eq_false (by omega)
  simp +contextual -implicitDefEqProofs (maxSteps := 2000000) (disch := omega) only [↓lenV, binV, optV, ↓sliceV, ↓ifaceV, ↓appendV, ↓srcV, bound, cutTag, hiTag, GVal.cells, grp, GVal.ofConst, ↓resV, resG, List.map, List.headD, List.take, List.drop, ↓reduceIte, Nat.reduceEqDiff, Nat.reduceAdd, Nat.reduceSub, Nat.reduceLeDiff, reduceCtorEq, implies_true, ne_eq, ↓asrcV, ↓capV, Tag.cap, List.replicate, allSolid, GVal.solid, Nat.reduceBEq, Nat.reduceMul, Nat.reduceLT, List.length_map, List.length_range, splice, vcA, ↓vcB, vcC, fbSpc, e51, d0, false_imp_iff, true_and]
  refine ⟨fun h => ⟨by omega, by omega, by omega, by omega, by omega, by omega, fun y hy => by rw [(List.mem_replicate.1 hy).2]; rfl, by simp; omega, by simp; omega, .inr trivial, fun st => ⟨by omega, by omega, by omega, .inr ⟨st, _, rfl, rfl⟩⟩⟩, fun h => .inl (by omega)⟩

theorem sConcat (a b : List Sp.S) (ta tb tt : Tag) (hl : a.length + b.length ≤ 4398046511104) : GPure Try.prog 41 [.slice [[.slice (spl a) ta], [.slice (spl b) tb]] tt] (.slice (spl (a ++ b)) .none) := by
  refine h41.pureF mixS (by simp) ?_
  simp only [gstart, s41, List.cons_append, List.nil_append, List.length_cons, List.length_nil, Nat.reduceAdd, Nat.reduceSub, List.replicate_succ, List.replicate_zero]
  simp +contextual -implicitDefEqProofs (maxSteps := 2000000) (disch := omega) only [↓lenV, binV, optV, ↓loadV, ↓indexAddrV, ↓sliceV, ↓ifaceV, ↓appendV, ↓srcV, bound, cutTag, hiTag, GVal.cells, grp, GVal.ofConst, ↓resV, resG, List.map, List.headD, List.take, List.drop, ↓reduceIte, Nat.reduceEqDiff, Nat.reduceAdd, Nat.reduceSub, Nat.reduceLeDiff, reduceCtorEq, implies_true, ne_eq, ↓asrcV, Tag.cap, List.replicate, allSolid, GVal.solid, Nat.reduceBEq, Nat.reduceMul, Nat.reduceLT, List.length_map, List.length_range, splice, vcA, ↓vcB, vcC, fbSpc, e41]
  refine vcSLoop_by (ι := { p : Nat × Nat // (p.1 = 0 ∧ p.2 = 0) ∨ (p.1 = 1 ∧ p.2 = a.length) ∨ (p.1 = 2 ∧ p.2 = a.length + b.length) }) (fun p => ⟨[.slice [[.slice (spl a) ta], [.slice (spl b) tb]] tt, .any, .any, .int .i64 (p.1.2 : Nat), .any, .any, .any, .any, .any, .slice [[.slice (spl a) ta], [.slice (spl b) tb]] tt, .int .i64 2, .int .i64 (p.1.1 : Nat)] ++ List.replicate 24 .any, []⟩) (fun p => 2 - p.1.1) ?_ ?_
  · exact Into.first ⟨(0, 0), .inl ⟨rfl, rfl⟩⟩ ⟨[], by simp⟩ (by simp [WL, leG_self, leG_any])
  · rintro ⟨⟨k, n⟩, hk⟩
    simp only [] at hk
    rcases hk with ⟨rfl, rfl⟩ | ⟨rfl, rfl⟩ | ⟨rfl, rfl⟩
    · have d1 : ((0 : Int) + a.length < 0) = False := eq_false (by omega)
      simp +contextual -implicitDefEqProofs (maxSteps := 2000000) (disch := omega) only [↓lenV, binV, optV, ↓loadV, ↓indexAddrV, ↓sliceV, ↓ifaceV, ↓appendV, ↓srcV, bound, cutTag, hiTag, GVal.cells, grp, GVal.ofConst, ↓resV, resG, List.map, List.headD, List.take, List.drop, ↓reduceIte, Nat.reduceEqDiff, Nat.reduceAdd, Nat.reduceSub, Nat.reduceLeDiff, reduceCtorEq, implies_true, ne_eq, ↓asrcV, Tag.cap, List.replicate, allSolid, GVal.solid, Nat.reduceBEq, Nat.reduceMul, Nat.reduceLT, List.length_map, List.length_range, splice, vcA, ↓vcB, vcC, fbSpc, e41, spl_length, Int.reduceLT, Int.reduceLE, Int.reduceToNat, true_imp_iff, false_imp_iff, d1]
      exact Into.at ⟨(1, a.length), .inr (.inl ⟨rfl, rfl⟩)⟩ (by show _ < _; simp) ⟨[], by simp⟩ (by simp [WL, leG_self, leG_any, leG_int])
    · have d1 : ((a.length : Int) + b.length < 0) = False := eq_false (by omega)
      simp +contextual -implicitDefEqProofs (maxSteps := 2000000) (disch := omega) only [↓lenV, binV, optV, ↓loadV, ↓indexAddrV, ↓sliceV, ↓ifaceV, ↓appendV, ↓srcV, bound, cutTag, hiTag, GVal.cells, grp, GVal.ofConst, ↓resV, resG, List.map, List.headD, List.take, List.drop, ↓reduceIte, Nat.reduceEqDiff, Nat.reduceAdd, Nat.reduceSub, Nat.reduceLeDiff, reduceCtorEq, implies_true, ne_eq, ↓asrcV, Tag.cap, List.replicate, allSolid, GVal.solid, Nat.reduceBEq, Nat.reduceMul, Nat.reduceLT, List.length_map, List.length_range, splice, vcA, ↓vcB, vcC, fbSpc, e41, spl_length, Int.reduceLT, Int.reduceLE, Int.reduceToNat, true_imp_iff, false_imp_iff, d1]
      exact Into.at ⟨(2, a.length + b.length), .inr (.inr ⟨rfl, rfl⟩)⟩ (by show _ < _; simp) ⟨[], by simp⟩ (by simp [WL, leG_self, leG_any, leG_int])
    · simp +contextual -implicitDefEqProofs (maxSteps := 2000000) (disch := omega) only [↓lenV, binV, optV, ↓loadV, ↓indexAddrV, ↓sliceV, ↓ifaceV, ↓appendV, ↓srcV, bound, cutTag, hiTag, GVal.cells, grp, GVal.ofConst, ↓resV, resG, List.map, List.headD, List.take, List.drop, ↓reduceIte, Nat.reduceEqDiff, Nat.reduceAdd, Nat.reduceSub, Nat.reduceLeDiff, reduceCtorEq, implies_true, ne_eq, ↓asrcV, Tag.cap, List.replicate, allSolid, GVal.solid, Nat.reduceBEq, Nat.reduceMul, Nat.reduceLT, List.length_map, List.length_range, splice, vcA, ↓vcB, vcC, fbSpc, e41, spl_length, Int.reduceLT, Int.reduceLE, Int.reduceToNat, true_imp_iff, false_imp_iff]
      have hg := sGrow (a.length + b.length) hl
      rw [Int.natCast_add] at hg
      refine hg.mono ?_
      clear hg
      rintro g O' hg
      simp +contextual -implicitDefEqProofs (maxSteps := 2000000) (disch := omega) only [↓lenV, binV, optV, ↓loadV, ↓indexAddrV, ↓sliceV, ↓ifaceV, ↓appendV, ↓srcV, bound, cutTag, hiTag, GVal.cells, grp, GVal.ofConst, ↓resV, resG, List.map, List.headD, List.take, List.drop, ↓reduceIte, Nat.reduceEqDiff, Nat.reduceAdd, Nat.reduceSub, Nat.reduceLeDiff, reduceCtorEq, implies_true, ne_eq, ↓asrcV, Tag.cap, List.replicate, allSolid, GVal.solid, Nat.reduceBEq, Nat.reduceMul, Nat.reduceLT, List.length_map, List.length_range, splice, vcA, ↓vcB, vcC, fbSpc, e41]
      refine vcSLoop_by (ι := { p : Nat × List Sp.S × Nat × List (List GVal) // (p.1 = 0 ∧ p.2.1 = []) ∨ (p.1 = 1 ∧ p.2.1 = a ∧ p.2.2.2 = spl a) ∨ (p.1 = 2 ∧ p.2.1 = a ++ b ∧ p.2.2.2 = spl (a ++ b)) }) (fun p => ⟨[.any, .any, .any, .any, .any, .any, .own 0 p.1.2.2.1 0 p.1.2.1.length] ++ List.replicate 18 .any ++ [.slice [[.slice (spl a) ta], [.slice (spl b) tb]] tt, .int .i64 2, .int .i64 (p.1.1 : Nat)] ++ List.replicate 8 .any, [.row p.1.2.2.1 2 p.1.2.2.2]⟩) (fun p => 2 - p.1.1) ?_ ?_
      · rcases hg with ⟨_, rfl, rfl⟩ | ⟨st, xs, rfl, rfl⟩
        · refine Into.row 6 2 rfl rfl ?_
          simp +contextual -implicitDefEqProofs (maxSteps := 2000000) (disch := omega) only [↓lenV, binV, optV, ↓loadV, ↓indexAddrV, ↓sliceV, ↓ifaceV, ↓appendV, ↓srcV, bound, cutTag, hiTag, GVal.cells, grp, GVal.ofConst, ↓resV, resG, List.map, List.headD, List.take, List.drop, ↓reduceIte, Nat.reduceEqDiff, Nat.reduceAdd, Nat.reduceSub, Nat.reduceLeDiff, reduceCtorEq, implies_true, ne_eq, ↓asrcV, Tag.cap, List.replicate, allSolid, GVal.solid, Nat.reduceBEq, Nat.reduceMul, Nat.reduceLT, List.length_map, List.length_range, splice, vcA, ↓vcB, vcC, fbSpc, e41]
          intro t0
          exact Into.first ⟨(0, [], t0, []), .inl ⟨rfl, rfl⟩⟩ ⟨[], by simp⟩ (by simp [WL, leG_self, leG_any])
        · exact Into.first ⟨(0, [], st, xs), .inl ⟨rfl, rfl⟩⟩ ⟨[], by simp⟩ (by simp [WL, leG_self, leG_any])
      · rintro ⟨⟨k, L, v, xs⟩, hk⟩
        simp only [] at hk
        rcases hk with ⟨rfl, rfl⟩ | ⟨rfl, rfl, rfl⟩ | ⟨rfl, rfl, rfl⟩
        · simp +contextual -implicitDefEqProofs (maxSteps := 2000000) (disch := omega) only [↓lenV, binV, optV, ↓loadV, ↓indexAddrV, ↓sliceV, ↓ifaceV, ↓appendV, ↓srcV, bound, cutTag, hiTag, GVal.cells, grp, GVal.ofConst, ↓resV, resG, List.map, List.headD, List.take, List.drop, ↓reduceIte, Nat.reduceEqDiff, Nat.reduceAdd, Nat.reduceSub, Nat.reduceLeDiff, reduceCtorEq, implies_true, ne_eq, ↓asrcV, Tag.cap, List.replicate, allSolid, GVal.solid, Nat.reduceBEq, Nat.reduceMul, Nat.reduceLT, List.length_map, List.length_range, splice, vcA, ↓vcB, vcC, fbSpc, e41, spl_length, Int.reduceLT, Int.reduceLE, Int.reduceToNat, true_imp_iff, false_imp_iff, all_spl]
          exact ⟨by omega, by omega, by omega, fun st => Into.at ⟨(1, a, st, spl a), .inr (.inl ⟨rfl, rfl, rfl⟩)⟩ (by show _ < _; simp) ⟨[], by simp⟩ (by simp [WL, leG_self, leG_any, leG_int])⟩
        · simp +contextual -implicitDefEqProofs (maxSteps := 2000000) (disch := omega) only [↓lenV, binV, optV, ↓loadV, ↓indexAddrV, ↓sliceV, ↓ifaceV, ↓appendV, ↓srcV, bound, cutTag, hiTag, GVal.cells, grp, GVal.ofConst, ↓resV, resG, List.map, List.headD, List.take, List.drop, ↓reduceIte, Nat.reduceEqDiff, Nat.reduceAdd, Nat.reduceSub, Nat.reduceLeDiff, reduceCtorEq, implies_true, ne_eq, ↓asrcV, Tag.cap, List.replicate, allSolid, GVal.solid, Nat.reduceBEq, Nat.reduceMul, Nat.reduceLT, List.length_map, List.length_range, splice, vcA, ↓vcB, vcC, fbSpc, e41, spl_length, Int.reduceLT, Int.reduceLE, Int.reduceToNat, true_imp_iff, false_imp_iff, all_spl]
          exact ⟨by omega, by omega, by omega, fun st => Into.at ⟨(2, L ++ b, st, spl (L ++ b)), .inr (.inr ⟨rfl, rfl, rfl⟩)⟩ (by show _ < _; simp) ⟨[], by rw [List.take_of_length_le (by rw [spl_length]; exact Nat.le_refl _), spl_append]; simp⟩ (by simp [WL, leG_self, leG_any, leG_int])⟩
        · simp +contextual -implicitDefEqProofs (maxSteps := 2000000) (disch := omega) only [↓lenV, binV, optV, ↓loadV, ↓indexAddrV, ↓sliceV, ↓ifaceV, ↓appendV, ↓srcV, bound, cutTag, hiTag, GVal.cells, grp, GVal.ofConst, ↓resV, resG, List.map, List.headD, List.take, List.drop, ↓reduceIte, Nat.reduceEqDiff, Nat.reduceAdd, Nat.reduceSub, Nat.reduceLeDiff, reduceCtorEq, implies_true, ne_eq, ↓asrcV, Tag.cap, List.replicate, allSolid, GVal.solid, Nat.reduceBEq, Nat.reduceMul, Nat.reduceLT, List.length_map, List.length_range, splice, vcA, ↓vcB, vcC, fbSpc, e41, spl_length, Int.reduceLT, Int.reduceLE, Int.reduceToNat, true_imp_iff, false_imp_iff]
          exact ⟨4, .slice (spl (a ++ b)) .none, frz_own rfl (spl_length _).symm (frz_spl _ 2 _), by rw [leA_slice]⟩

theorem sBoth (a b : List Sp.S) (ta tb : Tag) (hl : a.length + b.length ≤ 4398046511104) (ha : Sp.Ok a) (hb : Sp.Ok b) : GPure Try.prog 12 [.slice (spl a) ta, .slice (spl b) tb] (.slice (spl (Sp.bothS a b)) .none) := by
  refine h12.pure mixS (by simp) ?_
  simp only [gstart, s12, List.cons_append, List.nil_append, List.length_cons, List.length_nil, Nat.reduceAdd, Nat.reduceSub, List.replicate_succ, List.replicate_zero]
  simp +contextual -implicitDefEqProofs (maxSteps := 2000000) (disch := omega) only [drawC, ↓lenV, binV, optV, ↓loadV, ↓storeV, ↓fieldAddrV, ↓indexAddrV, ↓allocV, ↓buildV, ↓buildSliceV, ↓sliceV, ↓appendV, ↓srcV, ↓minV, bound, cutTag, hiTag, fillG, fillE, place, GVal.cells, grp, GVal.ofConst, ↓resV, resG, List.map, List.headD, List.take, List.drop, ↓reduceIte, Nat.reduceEqDiff, Nat.reduceAdd, Nat.reduceSub, Nat.reduceLeDiff, reduceCtorEq, implies_true, ne_eq, ↓asrcV, Tag.cap, List.replicate, allSolid, GVal.solid, Nat.reduceBEq, Nat.reduceMul, Nat.reduceLT, List.length_map, List.length_range, splice, vcA, ↓vcB, vcC, fbSpc, e12]
  refine (sMake a ta (by omega) ha).then ?_ (by rfl)
  simp +contextual -implicitDefEqProofs (maxSteps := 2000000) (disch := omega) only [drawC, ↓lenV, binV, optV, ↓loadV, ↓storeV, ↓fieldAddrV, ↓indexAddrV, ↓allocV, ↓buildV, ↓buildSliceV, ↓sliceV, ↓appendV, ↓srcV, ↓minV, bound, cutTag, hiTag, fillG, fillE, place, GVal.cells, grp, GVal.ofConst, ↓resV, resG, List.map, List.headD, List.take, List.drop, ↓reduceIte, Nat.reduceEqDiff, Nat.reduceAdd, Nat.reduceSub, Nat.reduceLeDiff, reduceCtorEq, implies_true, ne_eq, ↓asrcV, Tag.cap, List.replicate, allSolid, GVal.solid, Nat.reduceBEq, Nat.reduceMul, Nat.reduceLT, List.length_map, List.length_range, splice, vcA, ↓vcB, vcC, fbSpc, e12]
  refine (sMake b tb (by omega) hb).then ?_ (by rfl)
  simp +contextual -implicitDefEqProofs (maxSteps := 2000000) (disch := omega) only [drawC, ↓lenV, binV, optV, ↓loadV, ↓storeV, ↓fieldAddrV, ↓indexAddrV, ↓allocV, ↓buildV, ↓buildSliceV, ↓sliceV, ↓appendV, ↓srcV, ↓minV, bound, cutTag, hiTag, fillG, fillE, place, GVal.cells, grp, GVal.ofConst, ↓resV, resG, List.map, List.headD, List.take, List.drop, ↓reduceIte, Nat.reduceEqDiff, Nat.reduceAdd, Nat.reduceSub, Nat.reduceLeDiff, reduceCtorEq, implies_true, ne_eq, ↓asrcV, Tag.cap, List.replicate, allSolid, GVal.solid, Nat.reduceBEq, Nat.reduceMul, Nat.reduceLT, List.length_map, List.length_range, splice, vcA, ↓vcB, vcC, fbSpc, e12, spl_length]
  have hA := Sp.nf_len a
  have hB := Sp.nf_len b
  refine vcSLoop_by (ι := { p : List Sp.S × List Sp.S × List Sp.S × Nat // p.2.2.1 ++ Sp.both p.1 p.2.1 = Sp.bothS a b ∧ Sp.Ok p.1 ∧ Sp.Ok p.2.1 ∧ p.2.2.1.length + p.1.length + p.2.1.length ≤ a.length + b.length }) (fun p => ⟨[.slice (spl p.1.1) .none, .slice (spl p.1.2.1) .none, .any, .any, .any, .slice (spl p.1.2.2.1) (.tok 0 p.1.2.2.2)] ++ List.replicate 55 .any, [.tok p.1.2.2.2 2]⟩) (fun p => p.1.1.length + p.1.2.1.length) ?_ ?_
  · refine Into.tok 5 2 [] rfl rfl ?_
    simp +contextual -implicitDefEqProofs (maxSteps := 2000000) (disch := omega) only [drawC, ↓lenV, binV, optV, ↓loadV, ↓storeV, ↓fieldAddrV, ↓indexAddrV, ↓allocV, ↓buildV, ↓buildSliceV, ↓sliceV, ↓appendV, ↓srcV, ↓minV, bound, cutTag, hiTag, fillG, fillE, place, GVal.cells, grp, GVal.ofConst, ↓resV, resG, List.map, List.headD, List.take, List.drop, ↓reduceIte, Nat.reduceEqDiff, Nat.reduceAdd, Nat.reduceSub, Nat.reduceLeDiff, reduceCtorEq, implies_true, ne_eq, ↓asrcV, Tag.cap, List.replicate, allSolid, GVal.solid, Nat.reduceBEq, Nat.reduceMul, Nat.reduceLT, List.length_map, List.length_range, splice, vcA, ↓vcB, vcC, fbSpc, e12]
    intro t0
    exact Into.first ⟨(Sp.nf a, Sp.nf b, [], t0), rfl, Sp.nf_ok ha, Sp.nf_ok hb, by simp <;> omega⟩ ⟨[], by simp⟩ (by simp [WL, leG_self, leG_any, spl_nil])
  · rintro ⟨⟨A, B, out, v⟩, he, hoA, hoB, hle⟩
    simp only [] at he hoA hoB hle
    cases A with
    | nil =>
      simp +contextual -implicitDefEqProofs (maxSteps := 2000000) (disch := omega) only [drawC, ↓lenV, binV, optV, ↓loadV, ↓storeV, ↓fieldAddrV, ↓indexAddrV, ↓allocV, ↓buildV, ↓buildSliceV, ↓sliceV, ↓appendV, ↓srcV, ↓minV, bound, cutTag, hiTag, fillG, fillE, place, GVal.cells, grp, GVal.ofConst, ↓resV, resG, List.map, List.headD, List.take, List.drop, ↓reduceIte, Nat.reduceEqDiff, Nat.reduceAdd, Nat.reduceSub, Nat.reduceLeDiff, reduceCtorEq, implies_true, ne_eq, ↓asrcV, Tag.cap, List.replicate, allSolid, GVal.solid, Nat.reduceBEq, Nat.reduceMul, Nat.reduceLT, List.length_map, List.length_range, splice, vcA, ↓vcB, vcC, fbSpc, e12, spl_length, spl_nil]
      rw [Sp.both_nil, List.append_nil] at he
      exact ⟨fun h => by omega, fun _ => by rw [he]⟩
    | cons x A =>
      cases B with
      | nil =>
        simp +contextual -implicitDefEqProofs (maxSteps := 2000000) (disch := omega) only [drawC, ↓lenV, binV, optV, ↓loadV, ↓storeV, ↓fieldAddrV, ↓indexAddrV, ↓allocV, ↓buildV, ↓buildSliceV, ↓sliceV, ↓appendV, ↓srcV, ↓minV, bound, cutTag, hiTag, fillG, fillE, place, GVal.cells, grp, GVal.ofConst, ↓resV, resG, List.map, List.headD, List.take, List.drop, ↓reduceIte, Nat.reduceEqDiff, Nat.reduceAdd, Nat.reduceSub, Nat.reduceLeDiff, reduceCtorEq, implies_true, ne_eq, ↓asrcV, Tag.cap, List.replicate, allSolid, GVal.solid, Nat.reduceBEq, Nat.reduceMul, Nat.reduceLT, List.length_map, List.length_range, splice, vcA, ↓vcB, vcC, fbSpc, e12, spl_length, spl_nil, spl_cons]
        rw [Sp.both_nil', List.append_nil] at he
        exact ⟨fun _ => ⟨fun h => by omega, fun _ => by rw [he]⟩, fun h => by omega⟩
      | cons y B =>
        have hx := hoA x (by simp)
        have hy := hoB y (by simp)
        have tA : ((A.length : Int) + 1).toNat = A.length + 1 := by omega
        have tB : ((B.length : Int) + 1).toNat = B.length + 1 := by omega
        have kA : (spl A).take A.length = spl A := List.take_of_length_le (by rw [spl_length]; exact Nat.le_refl _)
        have kB : (spl B).take B.length = spl B := List.take_of_length_le (by rw [spl_length]; exact Nat.le_refl _)
        simp +contextual -implicitDefEqProofs (maxSteps := 2000000) (disch := omega) only [drawC, ↓lenV, binV, optV, ↓loadV, ↓storeV, ↓fieldAddrV, ↓indexAddrV, ↓allocV, ↓buildV, ↓buildSliceV, ↓sliceV, ↓appendV, ↓srcV, ↓minV, bound, cutTag, hiTag, fillG, fillE, place, GVal.cells, grp, GVal.ofConst, ↓resV, resG, List.map, List.headD, List.take, List.drop, ↓reduceIte, Nat.reduceEqDiff, Nat.reduceAdd, Nat.reduceSub, Nat.reduceLeDiff, reduceCtorEq, implies_true, ne_eq, ↓asrcV, Tag.cap, List.replicate, allSolid, GVal.solid, Nat.reduceBEq, Nat.reduceMul, Nat.reduceLT, List.length_map, List.length_range, splice, vcA, ↓vcB, vcC, fbSpc, e12, spl_length, spl_nil, spl_cons, spG, all_spl, Int.reduceToNat, tA, tB, kA, kB]
        rw [Sp.both_cons] at he
        simp only [List.length_cons] at hle
        refine ⟨fun _ => ⟨fun _ => ⟨by omega, by omega, by omega, by omega, fun st => ⟨⟨_, rfl⟩, fun h1 => ⟨by omega, by omega, fun st_1 => ⟨by omega, by omega, fun h2 => ⟨by omega, by omega, by omega, ?_⟩, fun h2 => ⟨by omega, by omega, by omega, ?_⟩⟩⟩, fun h1 => ⟨by omega, by omega, fun h2 => ⟨by omega, by omega, by omega, ?_⟩, fun h2 => ⟨by omega, by omega, by omega, ?_⟩⟩⟩⟩, fun h => by omega⟩, fun h => by omega⟩
        · rw [if_pos h1, if_pos h2] at he
          refine Into.at ⟨(A, y :: B, out ++ [(max x.1 y.1, min x.2 y.2)], st_1), by rw [← he]; simp, fun s hs => hoA s (by simp [hs]), hoB, by simp <;> omega⟩ (by show _ < _; simp <;> omega) ⟨[.row st 2 [[.int .i64 (max x.1 y.1), .int .i64 (min x.2 y.2)]]], by simp⟩ ?_
          simp [WL, leG_self, leG_any, spl_append, spl_cons, spl_nil, spG]
        · rw [if_pos h1, if_neg (by omega)] at he
          refine Into.at ⟨(x :: A, B, out ++ [(max x.1 y.1, min x.2 y.2)], st_1), by rw [← he]; simp, hoA, fun s hs => hoB s (by simp [hs]), by simp <;> omega⟩ (by show _ < _; simp) ⟨[.row st 2 [[.int .i64 (max x.1 y.1), .int .i64 (min x.2 y.2)]]], by simp⟩ ?_
          simp [WL, leG_self, leG_any, spl_append, spl_cons, spl_nil, spG]
        · rw [if_neg (by omega), if_pos h2] at he
          refine Into.at ⟨(A, y :: B, out, v), by rw [← he, List.nil_append], fun s hs => hoA s (by simp [hs]), hoB, by simp <;> omega⟩ (by show _ < _; simp <;> omega) ⟨[.row st 2 [[.int .i64 (max x.1 y.1), .int .i64 (min x.2 y.2)]]], by simp⟩ ?_
          simp [WL, leG_self, leG_any, spl_append, spl_cons, spl_nil, spG]
        · rw [if_neg (by omega), if_neg (by omega)] at he
          refine Into.at ⟨(x :: A, B, out, v), by rw [← he, List.nil_append], hoA, fun s hs => hoB s (by simp [hs]), by simp <;> omega⟩ (by show _ < _; simp) ⟨[.row st 2 [[.int .i64 (max x.1 y.1), .int .i64 (min x.2 y.2)]]], by simp⟩ ?_
          simp [WL, leG_self, leG_any, spl_append, spl_cons, spl_nil, spG]

theorem sRest (l : List Sp.S) (t : Tag) (hl : l.length ≤ 4398046511104) (ho : Sp.Ok l) : GPure Try.prog 40 [.slice (spl l) t] (.slice (spl (Sp.rest (Sp.nf l))) .none) := by
  refine h40.pure mixS (by simp) ?_
  simp only [gstart, s40, List.cons_append, List.nil_append, List.length_cons, List.length_nil, Nat.reduceAdd, Nat.reduceSub, List.replicate_succ, List.replicate_zero]
  simp +contextual -implicitDefEqProofs (maxSteps := 2000000) (disch := omega) only [↓lenV, binV, optV, ↓loadV, ↓storeV, ↓fieldAddrV, ↓indexAddrV, ↓allocV, ↓buildV, ↓buildSliceV, ↓sliceV, ↓appendV, ↓srcV, bound, cutTag, hiTag, fillG, fillE, place, GVal.cells, grp, GVal.ofConst, ↓resV, resG, List.map, List.headD, List.take, List.drop, ↓reduceIte, Nat.reduceEqDiff, Nat.reduceAdd, Nat.reduceSub, Nat.reduceLeDiff, reduceCtorEq, implies_true, ne_eq, ↓asrcV, aggV, Tag.cap, List.replicate, allSolid, GVal.solid, Nat.reduceBEq, Nat.reduceMul, Nat.reduceLT, List.length_map, List.length_range, splice, vcA, ↓vcB, vcC, fbSpc, e40]
  refine (sMake l t (by omega) ho).then ?_ (by rfl)
  have hN := Sp.nf_len l
  have hoN := Sp.nf_ok ho
  have hrt := Sp.nf_rt l
  generalize Sp.nf l = N at *
  simp +contextual -implicitDefEqProofs (maxSteps := 2000000) (disch := omega) only [↓lenV, binV, optV, ↓loadV, ↓storeV, ↓fieldAddrV, ↓indexAddrV, ↓allocV, ↓buildV, ↓buildSliceV, ↓sliceV, ↓appendV, ↓srcV, bound, cutTag, hiTag, fillG, fillE, place, GVal.cells, grp, GVal.ofConst, ↓resV, resG, List.map, List.headD, List.take, List.drop, ↓reduceIte, Nat.reduceEqDiff, Nat.reduceAdd, Nat.reduceSub, Nat.reduceLeDiff, reduceCtorEq, implies_true, ne_eq, ↓asrcV, aggV, Tag.cap, List.replicate, allSolid, GVal.solid, Nat.reduceBEq, Nat.reduceMul, Nat.reduceLT, List.length_map, List.length_range, splice, vcA, ↓vcB, vcC, fbSpc, e40, spl_length]
  refine vcSLoop_by (ι := { p : Nat × Nat × List Sp.S × Int // p.1 ≤ N.length ∧ p.2.2.1 ++ Sp.restF p.2.2.2 (N.drop p.1) = Sp.rest N ∧ 0 ≤ p.2.2.2 ∧ p.2.2.2 ≤ 9223372036854775807 ∧ p.2.2.1.length ≤ p.1 }) (fun p => ⟨[.any, .any, .any, .slice (spl p.1.2.2.1) (.tok 0 p.1.2.1), .int .i64 p.1.2.2.2, .any, .any, .any, .slice (spl N) .none, .int .i64 N.length, .int .i64 (p.1.1 : Nat)] ++ List.replicate 28 .any, [.tok p.1.2.1 2]⟩) (fun p => N.length - p.1.1) ?_ ?_
  · refine Into.tok 3 2 [] rfl rfl ?_
    simp +contextual -implicitDefEqProofs (maxSteps := 2000000) (disch := omega) only [↓lenV, binV, optV, ↓loadV, ↓storeV, ↓fieldAddrV, ↓indexAddrV, ↓allocV, ↓buildV, ↓buildSliceV, ↓sliceV, ↓appendV, ↓srcV, bound, cutTag, hiTag, fillG, fillE, place, GVal.cells, grp, GVal.ofConst, ↓resV, resG, List.map, List.headD, List.take, List.drop, ↓reduceIte, Nat.reduceEqDiff, Nat.reduceAdd, Nat.reduceSub, Nat.reduceLeDiff, reduceCtorEq, implies_true, ne_eq, ↓asrcV, aggV, Tag.cap, List.replicate, allSolid, GVal.solid, Nat.reduceBEq, Nat.reduceMul, Nat.reduceLT, List.length_map, List.length_range, splice, vcA, ↓vcB, vcC, fbSpc, e40]
    intro t0
    exact Into.first ⟨(0, t0, [], 0), by omega, by simp [Sp.rest], by simp, by simp, by simp⟩ ⟨[], by simp⟩ (by simp [WL, leG_self, leG_any, spl_nil])
  · rintro ⟨⟨k, v, out, low⟩, hk, he, h0, h1, hol⟩
    simp only [] at hk he h0 h1 hol
    by_cases h : k < N.length
    · have d0 : ((k : Int) < (N.length : Int)) = True := eq_true (by omega)
      have eS := spl_at N k h
      have hs := hoN.at k
      have hs2 := hrt.at k h
      rw [drop_getD h] at he
      unfold Sp.restF at he
      generalize N.getD k (0, 0) = s at *
      simp +contextual -implicitDefEqProofs (maxSteps := 2000000) (disch := omega) only [↓lenV, binV, optV, ↓loadV, ↓storeV, ↓fieldAddrV, ↓indexAddrV, ↓allocV, ↓buildV, ↓buildSliceV, ↓sliceV, ↓appendV, ↓srcV, bound, cutTag, hiTag, fillG, fillE, place, GVal.cells, grp, GVal.ofConst, ↓resV, resG, List.map, List.headD, List.take, List.drop, ↓reduceIte, Nat.reduceEqDiff, Nat.reduceAdd, Nat.reduceSub, Nat.reduceLeDiff, reduceCtorEq, implies_true, ne_eq, ↓asrcV, aggV, Tag.cap, List.replicate, allSolid, GVal.solid, Nat.reduceBEq, Nat.reduceMul, Nat.reduceLT, List.length_map, List.length_range, splice, vcA, ↓vcB, vcC, fbSpc, e40, spl_length, d0, eS, spG, all_spl]
      refine ⟨by omega, fun st => ⟨fun h2 => ⟨by omega, by omega, fun st_1 => ⟨fun h3 => ?_, fun h3 => ?_⟩⟩, fun h2 => ⟨fun h3 => ?_, fun h3 => ?_⟩⟩⟩
      · rw [if_pos h2, if_pos h3] at he
        rw [← he, spl_append, List.append_nil, spl_one]; rfl
      · rw [if_pos h2, if_neg h3] at he
        refine Into.at ⟨(k + 1, st_1, out ++ [(low, s.1 - 1)], s.2 + 1), by show k + 1 ≤ _; omega, by rw [← he]; simp, by show 0 ≤ s.2 + 1; omega, by show s.2 + 1 ≤ _; omega, by simp <;> omega⟩ (by show _ < _; simp; omega) ⟨[.row st 2 [[.int .i64 s.1, .int .i64 s.2]]], by simp⟩ ?_
        simp [WL, leG_self, leG_any, spl_append, spl_cons, spl_nil, spG]
      · rw [if_neg (by omega), if_pos h3] at he
        rw [← he]; simp
      · rw [if_neg (by omega), if_neg h3, List.nil_append] at he
        refine Into.at ⟨(k + 1, v, out, s.2 + 1), by show k + 1 ≤ _; omega, he, by show 0 ≤ s.2 + 1; omega, by show s.2 + 1 ≤ _; omega, by show out.length ≤ k + 1; omega⟩ (by show _ < _; simp; omega) ⟨[.row st 2 [[.int .i64 s.1, .int .i64 s.2]]], by simp⟩ ?_
        simp [WL, leG_self, leG_any, spl_append, spl_cons, spl_nil, spG]
    · have d0 : ((k : Int) < (N.length : Int)) = False := eq_false (by omega)
      simp +contextual -implicitDefEqProofs (maxSteps := 2000000) (disch := omega) only [↓lenV, binV, optV, ↓loadV, ↓storeV, ↓fieldAddrV, ↓indexAddrV, ↓allocV, ↓buildV, ↓buildSliceV, ↓sliceV, ↓appendV, ↓srcV, bound, cutTag, hiTag, fillG, fillE, place, GVal.cells, grp, GVal.ofConst, ↓resV, resG, List.map, List.headD, List.take, List.drop, ↓reduceIte, Nat.reduceEqDiff, Nat.reduceAdd, Nat.reduceSub, Nat.reduceLeDiff, reduceCtorEq, implies_true, ne_eq, ↓asrcV, aggV, Tag.cap, List.replicate, allSolid, GVal.solid, Nat.reduceBEq, Nat.reduceMul, Nat.reduceLT, List.length_map, List.length_range, splice, vcA, ↓vcB, vcC, fbSpc, e40, spl_length, d0, all_spl, false_imp_iff, true_and]
      rw [List.drop_of_length_le (by omega)] at he
      exact ⟨by omega, by omega, fun _ => by rw [← he, spl_append]; rfl⟩

theorem sUnion (a b : List Sp.S) (ta tb : Tag) (hl : a.length + b.length ≤ 4398046511104) (ha : Sp.Ok a) (hb : Sp.Ok b) : GPure Try.prog 14 [.slice (spl a) ta, .slice (spl b) tb] (.slice (spl (Sp.uni a b)) .none) := by
  refine h14.pure mixS (by simp) ?_
  simp only [gstart, s14, List.cons_append, List.nil_append, List.length_cons, List.length_nil, Nat.reduceAdd, Nat.reduceSub, List.replicate_succ, List.replicate_zero]
  simp +contextual -implicitDefEqProofs (maxSteps := 2000000) (disch := omega) only [optV, ↓buildSliceV, ↓sliceV, bound, cutTag, hiTag, fillE, GVal.cells, grp, GVal.ofConst, ↓resV, resG, List.map, List.headD, List.take, List.drop, ↓reduceIte, Nat.reduceEqDiff, Nat.reduceAdd, Nat.reduceSub, Nat.reduceLeDiff, reduceCtorEq, implies_true, ne_eq, Tag.cap, List.replicate, allSolid, GVal.solid, Nat.reduceBEq, Nat.reduceMul, Nat.reduceLT, List.length_map, List.length_range, splice, vcA, ↓vcB, vcC, fbSpc, e14]
  refine (sConcat a b ta tb _ hl).then ?_ (by rfl)
  simp +contextual -implicitDefEqProofs (maxSteps := 2000000) (disch := omega) only [optV, ↓buildSliceV, ↓sliceV, bound, cutTag, hiTag, fillE, GVal.cells, grp, GVal.ofConst, ↓resV, resG, List.map, List.headD, List.take, List.drop, ↓reduceIte, Nat.reduceEqDiff, Nat.reduceAdd, Nat.reduceSub, Nat.reduceLeDiff, reduceCtorEq, implies_true, ne_eq, Tag.cap, List.replicate, allSolid, GVal.solid, Nat.reduceBEq, Nat.reduceMul, Nat.reduceLT, List.length_map, List.length_range, splice, vcA, ↓vcB, vcC, fbSpc, e14]
  refine (sMake (a ++ b) .none (by simp; omega) (ha.app hb)).then ?_ (by rfl)
  simp +contextual -implicitDefEqProofs (maxSteps := 2000000) (disch := omega) only [optV, ↓buildSliceV, ↓sliceV, bound, cutTag, hiTag, fillE, GVal.cells, grp, GVal.ofConst, ↓resV, resG, List.map, List.headD, List.take, List.drop, ↓reduceIte, Nat.reduceEqDiff, Nat.reduceAdd, Nat.reduceSub, Nat.reduceLeDiff, reduceCtorEq, implies_true, ne_eq, Tag.cap, List.replicate, allSolid, GVal.solid, Nat.reduceBEq, Nat.reduceMul, Nat.reduceLT, List.length_map, List.length_range, splice, vcA, ↓vcB, vcC, fbSpc, e14]
  rfl

theorem sMinus (a b : List Sp.S) (ta tb : Tag) (hl : a.length + b.length < 4398046511104) (ha : Sp.Ok a) (hb : Sp.Ok b) : GPure Try.prog 10 [.slice (spl a) ta, .slice (spl b) tb] (.slice (spl (Sp.minus a b)) .none) := by
  have h1 := Sp.restF_len (Sp.nf b) 0
  have h2 := Sp.nf_len b
  refine h10.pure mixS (by simp) ?_
  simp only [gstart, s10, List.cons_append, List.nil_append, List.length_cons, List.length_nil, Nat.reduceAdd, Nat.reduceSub, List.replicate_succ, List.replicate_zero]
  simp +contextual -implicitDefEqProofs (maxSteps := 2000000) (disch := omega) only [optV, ↓sliceV, bound, cutTag, hiTag, GVal.cells, grp, GVal.ofConst, ↓resV, resG, List.map, List.headD, List.take, List.drop, ↓reduceIte, Nat.reduceEqDiff, Nat.reduceAdd, Nat.reduceSub, Nat.reduceLeDiff, reduceCtorEq, implies_true, ne_eq, Tag.cap, List.replicate, allSolid, GVal.solid, Nat.reduceBEq, Nat.reduceMul, Nat.reduceLT, List.length_map, List.length_range, splice, vcA, ↓vcB, vcC, fbSpc, e10]
  refine (sRest b tb (by omega) hb).then ?_ (by rfl)
  simp +contextual -implicitDefEqProofs (maxSteps := 2000000) (disch := omega) only [optV, ↓sliceV, bound, cutTag, hiTag, GVal.cells, grp, GVal.ofConst, ↓resV, resG, List.map, List.headD, List.take, List.drop, ↓reduceIte, Nat.reduceEqDiff, Nat.reduceAdd, Nat.reduceSub, Nat.reduceLeDiff, reduceCtorEq, implies_true, ne_eq, Tag.cap, List.replicate, allSolid, GVal.solid, Nat.reduceBEq, Nat.reduceMul, Nat.reduceLT, List.length_map, List.length_range, splice, vcA, ↓vcB, vcC, fbSpc, e10]
  refine (sBoth a (Sp.rest (Sp.nf b)) ta .none (by unfold Sp.rest; omega) ha (Sp.rest_ok (Sp.nf_rt b) (Sp.nf_ok hb))).then ?_ (by rfl)
  simp +contextual -implicitDefEqProofs (maxSteps := 2000000) (disch := omega) only [optV, ↓sliceV, bound, cutTag, hiTag, GVal.cells, grp, GVal.ofConst, ↓resV, resG, List.map, List.headD, List.take, List.drop, ↓reduceIte, Nat.reduceEqDiff, Nat.reduceAdd, Nat.reduceSub, Nat.reduceLeDiff, reduceCtorEq, implies_true, ne_eq, Tag.cap, List.replicate, allSolid, GVal.solid, Nat.reduceBEq, Nat.reduceMul, Nat.reduceLT, List.length_map, List.length_range, splice, vcA, ↓vcB, vcC, fbSpc, e10]
  rfl

theorem sKnown : GPure Try.prog 11 [] (.bool true) := by
  refine h11.pure mixS (by simp) ?_
  simp only [gstart, s11, List.cons_append, List.nil_append, List.length_cons, List.length_nil, Nat.reduceAdd, Nat.reduceSub, List.replicate_succ, List.replicate_zero]
  simp +contextual -implicitDefEqProofs (maxSteps := 2000000) (disch := omega) only [↓lenV, binV, ↓loadV, ↓indexAddrV, ↓buildV, ↓buildSliceV, fillG, fillE, place, GVal.cells, grp, GVal.ofConst, ↓resV, resG, List.map, List.headD, List.take, List.drop, ↓reduceIte, Nat.reduceEqDiff, Nat.reduceAdd, Nat.reduceSub, Nat.reduceLeDiff, reduceCtorEq, implies_true, ne_eq, aggV, Tag.cap, List.replicate, allSolid, GVal.solid, Nat.reduceBEq, Nat.reduceMul, Nat.reduceLT, List.length_map, List.length_range, splice, vcA, ↓vcB, vcC, fbSpc, e11]
  refine (sUnion [(1, 3)] [(4, 6)] .full .full (by simp) (by simp [Sp.Ok]) (by simp [Sp.Ok])).then ?_ (by rfl)
  have e : Sp.uni [(1, 3)] [(4, 6)] = [(1, 6)] := by decide
  rw [e]
  simp +contextual -implicitDefEqProofs (maxSteps := 2000000) (disch := omega) only [↓lenV, binV, ↓loadV, ↓indexAddrV, ↓buildV, ↓buildSliceV, fillG, fillE, place, GVal.cells, grp, GVal.ofConst, ↓resV, resG, List.map, List.headD, List.take, List.drop, ↓reduceIte, Nat.reduceEqDiff, Nat.reduceAdd, Nat.reduceSub, Nat.reduceLeDiff, reduceCtorEq, implies_true, ne_eq, aggV, Tag.cap, List.replicate, allSolid, GVal.solid, Nat.reduceBEq, Nat.reduceMul, Nat.reduceLT, List.length_map, List.length_range, splice, vcA, ↓vcB, vcC, fbSpc, e11, spl_cons, spl_nil, spG, cellsEq_pair, Int.reduceToNat]
  exact ⟨by omega, by omega⟩
end Gv.Try
/- Contracts: the document's answer on spans: join, Make, Right, Union; Has, Count of both. -/
set_option linter.unusedVariables false
set_option linter.unusedSimpArgs false
set_option maxRecDepth 20000
set_option maxHeartbeats 4000000
namespace Gv.Try
open Go Gv Go.Proofs

theorem sJoin (l : List Sp.S) (t : Tag) (s : Sp.S) (hl : l.length ≤ 4398046511104) (ho : Sp.Ok l) (hr : Sp.Rt 0 l) (hs : 0 ≤ s.1 ∧ s.1 ≤ s.2 ∧ s.2 ≤ 9223372036854775807) : GPure Try.prog 46 [.slice (spl l) t, .agg (spG s)] (.slice (spl (Sp.ins l s)) .none) := by
  refine h46.pure mixS (by simp) ?_
  simp only [gstart, s46, List.cons_append, List.nil_append, List.length_cons, List.length_nil, Nat.reduceAdd, Nat.reduceSub, List.replicate_succ, List.replicate_zero]
  unfold spG
  simp +contextual -implicitDefEqProofs (maxSteps := 2000000) (disch := omega) only [↓lenV, binV, ↓unV, optV, ↓loadV, ↓storeV, ↓fieldAddrV, ↓indexAddrV, ↓allocV, ↓boxV, ↓buildV, ↓buildSliceV, ↓sliceV, ↓appendV, ↓srcV, ↓minV, bound, cutTag, hiTag, fillG, fillE, place, GVal.cells, grp, GVal.ofConst, ↓resV, resG, List.map, List.headD, List.take, List.drop, ↓reduceIte, Nat.reduceEqDiff, Nat.reduceAdd, Nat.reduceSub, Nat.reduceLeDiff, reduceCtorEq, implies_true, ne_eq, ↓asrcV, aggV, Tag.cap, List.replicate, allSolid, GVal.solid, Nat.reduceBEq, Nat.reduceMul, Nat.reduceLT, List.length_map, List.length_range, splice, vcA, ↓vcB, vcC, fbSpc, e46, spl_length]
  intro st
  refine vcSLoop_by (ι := { p : Nat × Sp.S × Bool × List Sp.S × Nat // p.1 ≤ l.length ∧ p.2.2.2.1 ++ (if p.2.2.1 = true then l.drop p.1 else Sp.ins (l.drop p.1) p.2.1) = Sp.ins l s ∧ (0 ≤ p.2.1.1 ∧ p.2.1.1 ≤ p.2.1.2 ∧ p.2.1.2 ≤ 9223372036854775807) ∧ (p.2.2.1 = true → Sp.Rt (p.2.1.2 + 2) (l.drop p.1)) ∧ Sp.Rt 0 (l.drop p.1) ∧ p.2.2.2.1.length ≤ p.1 + p.2.2.1.toNat }) (fun p => ⟨[.slice (spl l) t, .any, .any, .ptr 0 st 0 0, .any, .slice (spl p.1.2.2.2.1) (.tok 1 p.1.2.2.2.2), .bool p.1.2.2.1, .int .i64 (p.1.1 : Nat)] ++ List.replicate 69 .any, [.row st 2 [[.int .i64 p.1.2.1.1, .int .i64 p.1.2.1.2]], .tok p.1.2.2.2.2 2]⟩) (fun p => l.length - p.1.1) ?_ ?_
  · refine Into.tok 5 2 [] rfl rfl ?_
    simp +contextual -implicitDefEqProofs (maxSteps := 2000000) (disch := omega) only [↓lenV, binV, ↓unV, optV, ↓loadV, ↓storeV, ↓fieldAddrV, ↓indexAddrV, ↓allocV, ↓boxV, ↓buildV, ↓buildSliceV, ↓sliceV, ↓appendV, ↓srcV, ↓minV, bound, cutTag, hiTag, fillG, fillE, place, GVal.cells, grp, GVal.ofConst, ↓resV, resG, List.map, List.headD, List.take, List.drop, ↓reduceIte, Nat.reduceEqDiff, Nat.reduceAdd, Nat.reduceSub, Nat.reduceLeDiff, reduceCtorEq, implies_true, ne_eq, ↓asrcV, aggV, Tag.cap, List.replicate, allSolid, GVal.solid, Nat.reduceBEq, Nat.reduceMul, Nat.reduceLT, List.length_map, List.length_range, splice, vcA, ↓vcB, vcC, fbSpc, e46]
    intro t0
    exact Into.first ⟨(0, s, false, [], t0), by omega, by simp, hs, by simp, hr, by simp⟩ ⟨[], by simp⟩ (by simp [WL, leG_self, leG_any, spl_nil])
  · rintro ⟨⟨k, s', done, out, v⟩, hk, he, hs', hd, hrt, hol⟩
    simp only [] at hk he hs' hd hrt hol
    by_cases h : k < l.length
    · have d0 : ((k : Int) < (l.length : Int)) = True := eq_true (by omega)
      have eS := spl_at l k h
      have hx := ho.at k
      rw [drop_getD h] at he hd hrt
      generalize l.getD k (0, 0) = x at *
      obtain ⟨r1, r2, r3⟩ := hrt
      cases done with
      | true =>
        have hd' := (hd rfl).1
        have hd2 := (hd rfl).2.2
        have dA : (x.2 < s'.1 - 1) = False := eq_false (by omega)
        have dA2 : (x.2 < s'.1) = False := eq_false (by omega)
        have dB : (s'.2 < x.1 - 1) = True := eq_true (by omega)
        rw [if_pos rfl] at he
        simp +contextual -implicitDefEqProofs (maxSteps := 2000000) (disch := omega) only [↓lenV, binV, ↓unV, optV, ↓loadV, ↓storeV, ↓fieldAddrV, ↓indexAddrV, ↓allocV, ↓boxV, ↓buildV, ↓buildSliceV, ↓sliceV, ↓appendV, ↓srcV, ↓minV, bound, cutTag, hiTag, fillG, fillE, place, GVal.cells, grp, GVal.ofConst, ↓resV, resG, List.map, List.headD, List.take, List.drop, ↓reduceIte, Nat.reduceEqDiff, Nat.reduceAdd, Nat.reduceSub, Nat.reduceLeDiff, reduceCtorEq, implies_true, ne_eq, ↓asrcV, aggV, Tag.cap, List.replicate, allSolid, GVal.solid, Nat.reduceBEq, Nat.reduceMul, Nat.reduceLT, List.length_map, List.length_range, splice, vcA, ↓vcB, vcC, fbSpc, e46, spl_length, d0, eS, spG, all_spl, dA, dA2, dB, false_imp_iff, true_and, true_imp_iff, and_true]
        refine ⟨by omega, fun st_1 => ⟨by simp at hol; omega, by simp at hol; omega, fun st_2 => ?_⟩⟩
        refine Into.at ⟨(k + 1, s', true, out ++ [x], st_2), by show k + 1 ≤ _; omega, by rw [if_pos rfl, ← he]; simp, hs', fun _ => hd2.weak (by show s'.2 + 2 ≤ _; omega), r3.weak (by omega), by simp at *; omega⟩ (by show _ < _; simp; omega) ⟨[.row st_1 2 [[.int .i64 x.1, .int .i64 x.2]]], by simp⟩ ?_
        simp [WL, leG_self, leG_any, spl_append, spl_cons, spl_nil, spG]
      | false =>
        rw [if_neg (by simp)] at he
        rw [Sp.ins_cons] at he
        by_cases cA : x.2 < s'.1 - 1
        · have dA : (x.2 < s'.1 - 1) = True := eq_true (by omega)
          rw [if_pos (by omega)] at he
          simp +contextual -implicitDefEqProofs (maxSteps := 2000000) (disch := omega) only [↓lenV, binV, ↓unV, optV, ↓loadV, ↓storeV, ↓fieldAddrV, ↓indexAddrV, ↓allocV, ↓boxV, ↓buildV, ↓buildSliceV, ↓sliceV, ↓appendV, ↓srcV, ↓minV, bound, cutTag, hiTag, fillG, fillE, place, GVal.cells, grp, GVal.ofConst, ↓resV, resG, List.map, List.headD, List.take, List.drop, ↓reduceIte, Nat.reduceEqDiff, Nat.reduceAdd, Nat.reduceSub, Nat.reduceLeDiff, reduceCtorEq, implies_true, ne_eq, ↓asrcV, aggV, Tag.cap, List.replicate, allSolid, GVal.solid, Nat.reduceBEq, Nat.reduceMul, Nat.reduceLT, List.length_map, List.length_range, splice, vcA, ↓vcB, vcC, fbSpc, e46, spl_length, d0, eS, spG, all_spl, dA, false_imp_iff, true_and, true_imp_iff, and_true]
          refine ⟨by omega, fun st_1 => ⟨by simp at hol; omega, by simp at hol; omega, fun st_2 => ?_⟩⟩
          refine Into.at ⟨(k + 1, s', false, out ++ [x], st_2), by show k + 1 ≤ _; omega, by rw [if_neg (by simp), ← he]; simp, hs', by simp, r3.weak (by omega), by simp at *; omega⟩ (by show _ < _; simp; omega) ⟨[.row st_1 2 [[.int .i64 x.1, .int .i64 x.2]]], by simp⟩ ?_
          simp [WL, leG_self, leG_any, spl_append, spl_cons, spl_nil, spG]
        · have dA : (x.2 < s'.1 - 1) = False := eq_false (by omega)
          rw [if_neg (by omega)] at he
          have dd : (x.2 < s'.1) = False ∨ ((x.2 < s'.1) = True ∧ (s'.1 = 0) = False) := by
            by_cases c : x.2 < s'.1
            · exact .inr ⟨eq_true c, eq_false (by omega)⟩
            · exact .inl (eq_false c)
          by_cases cB : s'.2 < x.1 - 1
          · have dB : (s'.2 < x.1 - 1) = True := eq_true (by omega)
            rw [if_pos (by omega)] at he
            rcases dd with dA2 | ⟨dA2, dZ⟩
            · simp +contextual -implicitDefEqProofs (maxSteps := 2000000) (disch := omega) only [↓lenV, binV, ↓unV, optV, ↓loadV, ↓storeV, ↓fieldAddrV, ↓indexAddrV, ↓allocV, ↓boxV, ↓buildV, ↓buildSliceV, ↓sliceV, ↓appendV, ↓srcV, ↓minV, bound, cutTag, hiTag, fillG, fillE, place, GVal.cells, grp, GVal.ofConst, ↓resV, resG, List.map, List.headD, List.take, List.drop, ↓reduceIte, Nat.reduceEqDiff, Nat.reduceAdd, Nat.reduceSub, Nat.reduceLeDiff, reduceCtorEq, implies_true, ne_eq, ↓asrcV, aggV, Tag.cap, List.replicate, allSolid, GVal.solid, Nat.reduceBEq, Nat.reduceMul, Nat.reduceLT, List.length_map, List.length_range, splice, vcA, ↓vcB, vcC, fbSpc, e46, spl_length, d0, eS, spG, all_spl, dA, dA2, dB, false_imp_iff, true_and, true_imp_iff, and_true, List.length_append]
              refine ⟨by omega, fun st_1 => ⟨by simp at hol; omega, by simp at hol; omega, fun st_2 => ⟨by simp at hol; omega, by simp at hol; omega, fun st_3 => ?_⟩⟩⟩
              refine Into.at ⟨(k + 1, s', true, out ++ [s'] ++ [x], st_3), by show k + 1 ≤ _; omega, by rw [if_pos rfl, ← he]; simp, hs', fun _ => r3.weak (by show s'.2 + 2 ≤ _; omega), r3.weak (by omega), by simp at *; omega⟩ (by show _ < _; simp; omega) ⟨[.row st_1 2 [[.int .i64 x.1, .int .i64 x.2]]], by simp⟩ ?_
              simp [WL, leG_self, leG_any, spl_append, spl_cons, spl_nil, spG]
            · simp +contextual -implicitDefEqProofs (maxSteps := 2000000) (disch := omega) only [↓lenV, binV, ↓unV, optV, ↓loadV, ↓storeV, ↓fieldAddrV, ↓indexAddrV, ↓allocV, ↓boxV, ↓buildV, ↓buildSliceV, ↓sliceV, ↓appendV, ↓srcV, ↓minV, bound, cutTag, hiTag, fillG, fillE, place, GVal.cells, grp, GVal.ofConst, ↓resV, resG, List.map, List.headD, List.take, List.drop, ↓reduceIte, Nat.reduceEqDiff, Nat.reduceAdd, Nat.reduceSub, Nat.reduceLeDiff, reduceCtorEq, implies_true, ne_eq, ↓asrcV, aggV, Tag.cap, List.replicate, allSolid, GVal.solid, Nat.reduceBEq, Nat.reduceMul, Nat.reduceLT, List.length_map, List.length_range, splice, vcA, ↓vcB, vcC, fbSpc, e46, spl_length, d0, eS, spG, all_spl, dA, dA2, dZ, dB, false_imp_iff, true_and, true_imp_iff, and_true, List.length_append]
              refine ⟨by omega, fun st_1 => ⟨by simp at hol; omega, by simp at hol; omega, fun st_2 => ⟨by simp at hol; omega, by simp at hol; omega, fun st_3 => ?_⟩⟩⟩
              refine Into.at ⟨(k + 1, s', true, out ++ [s'] ++ [x], st_3), by show k + 1 ≤ _; omega, by rw [if_pos rfl, ← he]; simp, hs', fun _ => r3.weak (by show s'.2 + 2 ≤ _; omega), r3.weak (by omega), by simp at *; omega⟩ (by show _ < _; simp; omega) ⟨[.row st_1 2 [[.int .i64 x.1, .int .i64 x.2]]], by simp⟩ ?_
              simp [WL, leG_self, leG_any, spl_append, spl_cons, spl_nil, spG]
          · have dB : (s'.2 < x.1 - 1) = False := eq_false (by omega)
            rw [if_neg (by omega)] at he
            rcases dd with dA2 | ⟨dA2, dZ⟩
            · simp +contextual -implicitDefEqProofs (maxSteps := 2000000) (disch := omega) only [↓lenV, binV, ↓unV, optV, ↓loadV, ↓storeV, ↓fieldAddrV, ↓indexAddrV, ↓allocV, ↓boxV, ↓buildV, ↓buildSliceV, ↓sliceV, ↓appendV, ↓srcV, ↓minV, bound, cutTag, hiTag, fillG, fillE, place, GVal.cells, grp, GVal.ofConst, ↓resV, resG, List.map, List.headD, List.take, List.drop, ↓reduceIte, Nat.reduceEqDiff, Nat.reduceAdd, Nat.reduceSub, Nat.reduceLeDiff, reduceCtorEq, implies_true, ne_eq, ↓asrcV, aggV, Tag.cap, List.replicate, allSolid, GVal.solid, Nat.reduceBEq, Nat.reduceMul, Nat.reduceLT, List.length_map, List.length_range, splice, vcA, ↓vcB, vcC, fbSpc, e46, spl_length, d0, eS, spG, all_spl, dA, dA2, dB, false_imp_iff, true_and, true_imp_iff, and_true]
              refine ⟨by omega, fun st_1 => ?_⟩
              refine Into.at ⟨(k + 1, (min s'.1 x.1, max s'.2 x.2), false, out, v), by show k + 1 ≤ _; omega, by rw [if_neg (by simp), ← he], by show 0 ≤ min _ _ ∧ min _ _ ≤ max _ _ ∧ max _ _ ≤ _; omega, by simp, r3.weak (by omega), by simp at *; omega⟩ (by show _ < _; simp; omega) ⟨[.row st_1 2 [[.int .i64 x.1, .int .i64 x.2]]], by simp⟩ ?_
              simp [WL, leG_self, leG_any, spl_append, spl_cons, spl_nil, spG]
            · simp +contextual -implicitDefEqProofs (maxSteps := 2000000) (disch := omega) only [↓lenV, binV, ↓unV, optV, ↓loadV, ↓storeV, ↓fieldAddrV, ↓indexAddrV, ↓allocV, ↓boxV, ↓buildV, ↓buildSliceV, ↓sliceV, ↓appendV, ↓srcV, ↓minV, bound, cutTag, hiTag, fillG, fillE, place, GVal.cells, grp, GVal.ofConst, ↓resV, resG, List.map, List.headD, List.take, List.drop, ↓reduceIte, Nat.reduceEqDiff, Nat.reduceAdd, Nat.reduceSub, Nat.reduceLeDiff, reduceCtorEq, implies_true, ne_eq, ↓asrcV, aggV, Tag.cap, List.replicate, allSolid, GVal.solid, Nat.reduceBEq, Nat.reduceMul, Nat.reduceLT, List.length_map, List.length_range, splice, vcA, ↓vcB, vcC, fbSpc, e46, spl_length, d0, eS, spG, all_spl, dA, dA2, dZ, dB, false_imp_iff, true_and, true_imp_iff, and_true]
              refine ⟨by omega, fun st_1 => ?_⟩
              refine Into.at ⟨(k + 1, (min s'.1 x.1, max s'.2 x.2), false, out, v), by show k + 1 ≤ _; omega, by rw [if_neg (by simp), ← he], by show 0 ≤ min _ _ ∧ min _ _ ≤ max _ _ ∧ max _ _ ≤ _; omega, by simp, r3.weak (by omega), by simp at *; omega⟩ (by show _ < _; simp; omega) ⟨[.row st_1 2 [[.int .i64 x.1, .int .i64 x.2]]], by simp⟩ ?_
              simp [WL, leG_self, leG_any, spl_append, spl_cons, spl_nil, spG]
    · have d0 : ((k : Int) < (l.length : Int)) = False := eq_false (by omega)
      rw [List.drop_of_length_le (by omega)] at he
      cases done with
      | true =>
        simp +contextual -implicitDefEqProofs (maxSteps := 2000000) (disch := omega) only [↓lenV, binV, ↓unV, optV, ↓loadV, ↓storeV, ↓fieldAddrV, ↓indexAddrV, ↓allocV, ↓boxV, ↓buildV, ↓buildSliceV, ↓sliceV, ↓appendV, ↓srcV, ↓minV, bound, cutTag, hiTag, fillG, fillE, place, GVal.cells, grp, GVal.ofConst, ↓resV, resG, List.map, List.headD, List.take, List.drop, ↓reduceIte, Nat.reduceEqDiff, Nat.reduceAdd, Nat.reduceSub, Nat.reduceLeDiff, reduceCtorEq, implies_true, ne_eq, ↓asrcV, aggV, Tag.cap, List.replicate, allSolid, GVal.solid, Nat.reduceBEq, Nat.reduceMul, Nat.reduceLT, List.length_map, List.length_range, splice, vcA, ↓vcB, vcC, fbSpc, e46, spl_length, d0, all_spl, false_imp_iff, true_and]
        rw [if_pos rfl, List.append_nil] at he
        rw [he]
      | false =>
        simp +contextual -implicitDefEqProofs (maxSteps := 2000000) (disch := omega) only [↓lenV, binV, ↓unV, optV, ↓loadV, ↓storeV, ↓fieldAddrV, ↓indexAddrV, ↓allocV, ↓boxV, ↓buildV, ↓buildSliceV, ↓sliceV, ↓appendV, ↓srcV, ↓minV, bound, cutTag, hiTag, fillG, fillE, place, GVal.cells, grp, GVal.ofConst, ↓resV, resG, List.map, List.headD, List.take, List.drop, ↓reduceIte, Nat.reduceEqDiff, Nat.reduceAdd, Nat.reduceSub, Nat.reduceLeDiff, reduceCtorEq, implies_true, ne_eq, ↓asrcV, aggV, Tag.cap, List.replicate, allSolid, GVal.solid, Nat.reduceBEq, Nat.reduceMul, Nat.reduceLT, List.length_map, List.length_range, splice, vcA, ↓vcB, vcC, fbSpc, e46, spl_length, d0, all_spl, false_imp_iff, true_and]
        rw [if_neg (by simp)] at he
        exact ⟨by simp at hol; omega, by simp at hol; omega, fun _ => by rw [← he, spl_append]; rfl⟩

theorem sCount (l : List Sp.S) (t : Tag) (hl : l.length ≤ 4398046511104) (ho : Sp.Ok l) : GPure Try.prog 22 [.slice (spl l) t] (.int .i64 (min 9223372036854775807 (Sp.tot (Sp.nf l)))) := by
  refine h22.pure mixS (by simp) ?_
  simp only [gstart, s22, List.cons_append, List.nil_append, List.length_cons, List.length_nil, Nat.reduceAdd, Nat.reduceSub, List.replicate_succ, List.replicate_zero]
  simp +contextual -implicitDefEqProofs (maxSteps := 2000000) (disch := omega) only [↓lenV, binV, ↓loadV, ↓storeV, ↓indexAddrV, ↓allocV, GVal.cells, grp, GVal.ofConst, ↓resV, resG, List.map, List.headD, List.take, List.drop, ↓reduceIte, Nat.reduceEqDiff, Nat.reduceAdd, Nat.reduceSub, Nat.reduceLeDiff, reduceCtorEq, implies_true, ne_eq, Tag.cap, List.replicate, allSolid, GVal.solid, Nat.reduceBEq, Nat.reduceMul, Nat.reduceLT, List.length_map, List.length_range, splice, vcA, ↓vcB, vcC, fbSpc, e22]
  refine (sMake l t hl ho).then ?_ (by rfl)
  have hN := Sp.nf_len l
  have hoN := Sp.nf_ok ho
  have hrt := Sp.nf_rt l
  generalize Sp.nf l = N at *
  simp +contextual -implicitDefEqProofs (maxSteps := 2000000) (disch := omega) only [↓lenV, binV, ↓loadV, ↓storeV, ↓indexAddrV, ↓allocV, GVal.cells, grp, GVal.ofConst, ↓resV, resG, List.map, List.headD, List.take, List.drop, ↓reduceIte, Nat.reduceEqDiff, Nat.reduceAdd, Nat.reduceSub, Nat.reduceLeDiff, reduceCtorEq, implies_true, ne_eq, Tag.cap, List.replicate, allSolid, GVal.solid, Nat.reduceBEq, Nat.reduceMul, Nat.reduceLT, List.length_map, List.length_range, splice, vcA, ↓vcB, vcC, fbSpc, e22, spl_length]
  refine vcSLoop_by (ι := { k : Nat // k ≤ N.length }) (fun k => ⟨[.any, .any, .any, .int .i64 (min 9223372036854775807 (Sp.tot (N.take k.1))), .any, .any, .any, .any, .slice (spl N) .none, .int .i64 N.length, .int .i64 (k.1 : Nat)] ++ List.replicate 14 .any, []⟩) (fun k => N.length - k.1) ?_ ?_
  · exact Into.first ⟨0, by omega⟩ ⟨[], by simp⟩ (by simp [WL, leG_self, leG_any, leG_int, Sp.tot] <;> omega)
  · rintro ⟨k, hk⟩
    have hp := Sp.tot_pre hrt k
    by_cases h : k < N.length
    · have d0 : ((k : Int) < (N.length : Int)) = True := eq_true (by omega)
      have eS := spl_at N k h
      have hx := hoN.at k
      have hx2 := hrt.at k h
      have hst := Sp.cnt_step N k h
      have hle := Sp.tot_le hrt (k + 1)
      generalize N.getD k (0, 0) = x at *
      simp +contextual -implicitDefEqProofs (maxSteps := 2000000) (disch := omega) only [↓lenV, binV, ↓loadV, ↓storeV, ↓indexAddrV, ↓allocV, GVal.cells, grp, GVal.ofConst, ↓resV, resG, List.map, List.headD, List.take, List.drop, ↓reduceIte, Nat.reduceEqDiff, Nat.reduceAdd, Nat.reduceSub, Nat.reduceLeDiff, reduceCtorEq, implies_true, ne_eq, Tag.cap, List.replicate, allSolid, GVal.solid, Nat.reduceBEq, Nat.reduceMul, Nat.reduceLT, List.length_map, List.length_range, splice, vcA, ↓vcB, vcC, fbSpc, e22, spl_length, d0, eS, spG, all_spl]
      refine ⟨by omega, fun st => ?_⟩
      refine (sSize x ⟨hx2.1, hx2.2, hx.2.2⟩).then ?_ (by rfl)
      simp +contextual -implicitDefEqProofs (maxSteps := 2000000) (disch := omega) only [↓lenV, binV, ↓loadV, ↓storeV, ↓indexAddrV, ↓allocV, GVal.cells, grp, GVal.ofConst, ↓resV, resG, List.map, List.headD, List.take, List.drop, ↓reduceIte, Nat.reduceEqDiff, Nat.reduceAdd, Nat.reduceSub, Nat.reduceLeDiff, reduceCtorEq, implies_true, ne_eq, Tag.cap, List.replicate, allSolid, GVal.solid, Nat.reduceBEq, Nat.reduceMul, Nat.reduceLT, List.length_map, List.length_range, splice, vcA, ↓vcB, vcC, fbSpc, e22, spl_length, d0, eS, spG, all_spl]
      refine ⟨fun h1 => by omega, fun h1 => ?_⟩
      refine Into.at ⟨k + 1, by omega⟩ (by show _ < _; simp; omega) ⟨[.row st 2 [[.int .i64 x.1, .int .i64 x.2]]], by simp⟩ ?_
      have e : min 9223372036854775807 (Sp.tot (List.take k N)) + min 9223372036854775807 (x.2 - x.1 + 1) = min 9223372036854775807 (Sp.tot (List.take (k + 1) N)) := by omega
      simp [WL, leG_self, leG_any, leG_int, e]
    · have d0 : ((k : Int) < (N.length : Int)) = False := eq_false (by omega)
      simp +contextual -implicitDefEqProofs (maxSteps := 2000000) (disch := omega) only [↓lenV, binV, ↓loadV, ↓storeV, ↓indexAddrV, ↓allocV, GVal.cells, grp, GVal.ofConst, ↓resV, resG, List.map, List.headD, List.take, List.drop, ↓reduceIte, Nat.reduceEqDiff, Nat.reduceAdd, Nat.reduceSub, Nat.reduceLeDiff, reduceCtorEq, implies_true, ne_eq, Tag.cap, List.replicate, allSolid, GVal.solid, Nat.reduceBEq, Nat.reduceMul, Nat.reduceLT, List.length_map, List.length_range, splice, vcA, ↓vcB, vcC, fbSpc, e22, spl_length, d0, all_spl, false_imp_iff, true_and]
      rw [List.take_of_length_le (by omega)]

theorem sHas1 (s : Sp.S) (n : Int) : GPure Try.prog 49 [.agg (spG s), .ref [.int .i64 n]] (.bool (decide (s.1 ≤ n) && decide (n ≤ s.2))) := by
  refine h49.pure mixS (by simp) ?_
  simp only [gstart, s49, List.cons_append, List.nil_append, List.length_cons, List.length_nil, Nat.reduceAdd, Nat.reduceSub, List.replicate_succ, List.replicate_zero]
  unfold spG
  simp +contextual -implicitDefEqProofs (maxSteps := 2000000) (disch := omega) only [binV, ↓loadV, ↓fieldAddrV, ↓boxV, GVal.cells, grp, GVal.ofConst, ↓resV, resG, List.map, List.headD, List.take, List.drop, ↓reduceIte, Nat.reduceEqDiff, Nat.reduceAdd, Nat.reduceSub, Nat.reduceLeDiff, reduceCtorEq, implies_true, ne_eq, Tag.cap, List.replicate, allSolid, GVal.solid, Nat.reduceBEq, Nat.reduceMul, Nat.reduceLT, List.length_map, List.length_range, splice, vcA, ↓vcB, vcC, fbSpc, e49]
  exact ⟨fun h => by simp [h], fun h => by simp; omega⟩

def inB (s : Sp.S) (n : Int) : Bool := decide (s.1 ≤ n) && decide (n ≤ s.2)
def idxB : List Sp.S → Int → Int → Int
  | [], _, _ => -1
  | s :: r, n, i => if inB s n = true then i else idxB r n (i + 1)
theorem idxB_cons (s : Sp.S) (r : List Sp.S) (n i : Int) : idxB (s :: r) n i = if inB s n = true then i else idxB r n (i + 1) := rfl
theorem idxB_ge : ∀ (l : List Sp.S) (n i : Int), 0 ≤ i → decide (0 ≤ idxB l n i) = l.any fun s => inB s n
  | [], n, i, h => by simp [idxB]
  | s :: r, n, i, h => by
    unfold idxB
    by_cases e : inB s n = true
    · simp [e, h]
    · rw [if_neg e, idxB_ge r n (i + 1) (by omega)]; simp [e]
theorem any_hasB {N : List Sp.S} (h : Sp.Rt 0 N) (n : Int) : (N.any fun s => inB s n) = Sp.hasB N n := by
  rw [Bool.eq_iff_iff, Sp.hasB_iff, List.any_eq_true]
  constructor
  · rintro ⟨s, hs, h1⟩
    simp only [inB, Bool.and_eq_true, decide_eq_true_eq] at h1
    have := h.mem hs
    exact ⟨s, hs, by omega, h1.1, h1.2⟩
  · rintro ⟨s, hs, h0, h1, h2⟩
    exact ⟨s, hs, by simp [inB, h1, h2]⟩

theorem sIndexF (l : List Sp.S) (t : Tag) (n : Int) (hl : l.length ≤ 4398046511104) : GPure Try.prog 55 [.slice (spl l) t, .func (.func 49) [] [.ref [.int .i64 n]]] (.int .i64 (idxB l n 0)) := by
  refine h55.pure mixS (by simp) ?_
  simp only [gstart, s55, List.cons_append, List.nil_append, List.length_cons, List.length_nil, Nat.reduceAdd, Nat.reduceSub, List.replicate_succ, List.replicate_zero]
  simp +contextual -implicitDefEqProofs (maxSteps := 2000000) (disch := omega) only [↓lenV, binV, ↓loadV, ↓indexAddrV, GVal.cells, grp, GVal.ofConst, ↓resV, resG, List.map, List.headD, List.take, List.drop, ↓reduceIte, Nat.reduceEqDiff, Nat.reduceAdd, Nat.reduceSub, Nat.reduceLeDiff, reduceCtorEq, implies_true, ne_eq, Tag.cap, List.replicate, allSolid, GVal.solid, Nat.reduceBEq, Nat.reduceMul, Nat.reduceLT, List.length_map, List.length_range, splice, vcA, ↓vcB, vcC, fbSpc, e55, spl_length]
  refine vcSLoop_by (ι := { k : Nat // k ≤ l.length ∧ idxB (l.drop k) n k = idxB l n 0 }) (fun k => ⟨[.slice (spl l) t, .func (.func 49) [] [.ref [.int .i64 n]], .any, .any, .any, .any, .slice (spl l) t, .int .i64 l.length, .int .i64 (k.1 : Nat)] ++ List.replicate 10 .any, []⟩) (fun k => l.length - k.1) ?_ ?_
  · exact Into.first ⟨0, by omega, by simp⟩ ⟨[], by simp⟩ (by simp [WL, leG_self, leG_any, leG_int])
  · rintro ⟨k, hk, he⟩
    by_cases h : k < l.length
    · have d0 : ((k : Int) < (l.length : Int)) = True := eq_true (by omega)
      have eS := spl_at l k h
      rw [drop_getD h] at he
      generalize l.getD k (0, 0) = x at *
      simp +contextual -implicitDefEqProofs (maxSteps := 2000000) (disch := omega) only [↓lenV, binV, ↓loadV, ↓indexAddrV, GVal.cells, grp, GVal.ofConst, ↓resV, resG, List.map, List.headD, List.take, List.drop, ↓reduceIte, Nat.reduceEqDiff, Nat.reduceAdd, Nat.reduceSub, Nat.reduceLeDiff, reduceCtorEq, implies_true, ne_eq, Tag.cap, List.replicate, allSolid, GVal.solid, Nat.reduceBEq, Nat.reduceMul, Nat.reduceLT, List.length_map, List.length_range, splice, vcA, ↓vcB, vcC, fbSpc, e55, spl_length, d0, eS, spG, all_spl]
      refine ⟨by omega, ?_⟩
      refine (sHas1 x n).then ?_ (by rfl)
      have e1 : (decide (x.1 ≤ n) && decide (n ≤ x.2)) = inB x n := rfl
      rw [e1]
      rw [idxB_cons] at he
      cases e : inB x n with
      | true =>
        rw [if_pos e] at he
        simp +contextual -implicitDefEqProofs (maxSteps := 2000000) (disch := omega) only [↓lenV, binV, ↓loadV, ↓indexAddrV, GVal.cells, grp, GVal.ofConst, ↓resV, resG, List.map, List.headD, List.take, List.drop, ↓reduceIte, Nat.reduceEqDiff, Nat.reduceAdd, Nat.reduceSub, Nat.reduceLeDiff, reduceCtorEq, implies_true, ne_eq, Tag.cap, List.replicate, allSolid, GVal.solid, Nat.reduceBEq, Nat.reduceMul, Nat.reduceLT, List.length_map, List.length_range, splice, vcA, ↓vcB, vcC, fbSpc, e55, spl_length, d0, eS, spG, all_spl]
        rw [he]
      | false =>
        rw [if_neg (by rw [e]; simp)] at he
        simp +contextual -implicitDefEqProofs (maxSteps := 2000000) (disch := omega) only [↓lenV, binV, ↓loadV, ↓indexAddrV, GVal.cells, grp, GVal.ofConst, ↓resV, resG, List.map, List.headD, List.take, List.drop, ↓reduceIte, Nat.reduceEqDiff, Nat.reduceAdd, Nat.reduceSub, Nat.reduceLeDiff, reduceCtorEq, implies_true, ne_eq, Tag.cap, List.replicate, allSolid, GVal.solid, Nat.reduceBEq, Nat.reduceMul, Nat.reduceLT, List.length_map, List.length_range, splice, vcA, ↓vcB, vcC, fbSpc, e55, spl_length, d0, eS, spG, all_spl]
        exact Into.at ⟨k + 1, by omega, by rw [← he]; simp⟩ (by show _ < _; simp; omega) ⟨[], by simp⟩ (by simp [WL, leG_self, leG_any, leG_int])
    · have d0 : ((k : Int) < (l.length : Int)) = False := eq_false (by omega)
      rw [List.drop_of_length_le (by omega)] at he
      simp +contextual -implicitDefEqProofs (maxSteps := 2000000) (disch := omega) only [↓lenV, binV, ↓loadV, ↓indexAddrV, GVal.cells, grp, GVal.ofConst, ↓resV, resG, List.map, List.headD, List.take, List.drop, ↓reduceIte, Nat.reduceEqDiff, Nat.reduceAdd, Nat.reduceSub, Nat.reduceLeDiff, reduceCtorEq, implies_true, ne_eq, Tag.cap, List.replicate, allSolid, GVal.solid, Nat.reduceBEq, Nat.reduceMul, Nat.reduceLT, List.length_map, List.length_range, splice, vcA, ↓vcB, vcC, fbSpc, e55, spl_length, d0, all_spl, false_imp_iff, true_and]
      rw [← he]; rfl

theorem sContF (l : List Sp.S) (t : Tag) (n : Int) (hl : l.length ≤ 4398046511104) : GPure Try.prog 48 [.slice (spl l) t, .func (.func 49) [] [.ref [.int .i64 n]]] (.bool (l.any fun s => inB s n)) := by
  refine h48.pure mixS (by simp) ?_
  simp only [gstart, s48, List.cons_append, List.nil_append, List.length_cons, List.length_nil, Nat.reduceAdd, Nat.reduceSub, List.replicate_succ, List.replicate_zero]
  simp +contextual -implicitDefEqProofs (maxSteps := 2000000) (disch := omega) only [binV, GVal.cells, grp, GVal.ofConst, ↓resV, resG, List.map, List.headD, List.take, List.drop, ↓reduceIte, Nat.reduceEqDiff, Nat.reduceAdd, Nat.reduceSub, Nat.reduceLeDiff, reduceCtorEq, implies_true, ne_eq, Tag.cap, List.replicate, allSolid, GVal.solid, Nat.reduceBEq, Nat.reduceMul, Nat.reduceLT, List.length_map, List.length_range, splice, vcA, ↓vcB, vcC, fbSpc, e48]
  refine (sIndexF l t n hl).then ?_ (by rfl)
  simp +contextual -implicitDefEqProofs (maxSteps := 2000000) (disch := omega) only [binV, GVal.cells, grp, GVal.ofConst, ↓resV, resG, List.map, List.headD, List.take, List.drop, ↓reduceIte, Nat.reduceEqDiff, Nat.reduceAdd, Nat.reduceSub, Nat.reduceLeDiff, reduceCtorEq, implies_true, ne_eq, Tag.cap, List.replicate, allSolid, GVal.solid, Nat.reduceBEq, Nat.reduceMul, Nat.reduceLT, List.length_map, List.length_range, splice, vcA, ↓vcB, vcC, fbSpc, e48]
  rw [idxB_ge l n 0 (by omega)]

theorem sHas (l : List Sp.S) (t : Tag) (n : Int) (hl : l.length ≤ 4398046511104) (ho : Sp.Ok l) : GPure Try.prog 26 [.slice (spl l) t, .int .i64 n] (.bool (Sp.hasB l n)) := by
  have hN := Sp.nf_len l
  refine h26.pure mixS (by simp) ?_
  simp only [gstart, s26, List.cons_append, List.nil_append, List.length_cons, List.length_nil, Nat.reduceAdd, Nat.reduceSub, List.replicate_succ, List.replicate_zero]
  simp +contextual -implicitDefEqProofs (maxSteps := 2000000) (disch := omega) only [↓boxV, GVal.cells, grp, GVal.ofConst, ↓resV, resG, List.map, List.headD, List.take, List.drop, ↓reduceIte, Nat.reduceEqDiff, Nat.reduceAdd, Nat.reduceSub, Nat.reduceLeDiff, reduceCtorEq, implies_true, ne_eq, Tag.cap, List.replicate, allSolid, GVal.solid, Nat.reduceBEq, Nat.reduceMul, Nat.reduceLT, List.length_map, List.length_range, splice, vcA, ↓vcB, vcC, fbSpc, e26]
  refine (sMake l t hl ho).then ?_ (by rfl)
  simp +contextual -implicitDefEqProofs (maxSteps := 2000000) (disch := omega) only [↓boxV, GVal.cells, grp, GVal.ofConst, ↓resV, resG, List.map, List.headD, List.take, List.drop, ↓reduceIte, Nat.reduceEqDiff, Nat.reduceAdd, Nat.reduceSub, Nat.reduceLeDiff, reduceCtorEq, implies_true, ne_eq, Tag.cap, List.replicate, allSolid, GVal.solid, Nat.reduceBEq, Nat.reduceMul, Nat.reduceLT, List.length_map, List.length_range, splice, vcA, ↓vcB, vcC, fbSpc, e26]
  refine (sContF (Sp.nf l) .none n (by omega)).then ?_ (by rfl)
  simp +contextual -implicitDefEqProofs (maxSteps := 2000000) (disch := omega) only [↓boxV, GVal.cells, grp, GVal.ofConst, ↓resV, resG, List.map, List.headD, List.take, List.drop, ↓reduceIte, Nat.reduceEqDiff, Nat.reduceAdd, Nat.reduceSub, Nat.reduceLeDiff, reduceCtorEq, implies_true, ne_eq, Tag.cap, List.replicate, allSolid, GVal.solid, Nat.reduceBEq, Nat.reduceMul, Nat.reduceLT, List.length_map, List.length_range, splice, vcA, ↓vcB, vcC, fbSpc, e26]
  rw [any_hasB (Sp.nf_rt l), Sp.hasB_eq (Sp.nf_has l n)]

theorem sMakeR (l : List Sp.S) (t : Tag) (hl : l.length ≤ 4398046511104) (ho : Sp.Ok l) : GPure Try.prog 16 [.slice (spl l) t] (.slice (spl (Sp.nf l)) .none) := by
  refine h16.pure mixS (by simp) ?_
  simp only [gstart, s16, List.cons_append, List.nil_append, List.length_cons, List.length_nil, Nat.reduceAdd, Nat.reduceSub, List.replicate_succ, List.replicate_zero]
  simp +contextual -implicitDefEqProofs (maxSteps := 2000000) (disch := omega) only [drawC, ↓lenV, binV, optV, ↓loadV, ↓storeV, ↓fieldAddrV, ↓indexAddrV, ↓allocV, ↓buildV, ↓sliceV, ↓minV, bound, cutTag, hiTag, fillG, place, GVal.cells, grp, GVal.ofConst, ↓resV, resG, List.map, List.headD, List.take, List.drop, ↓reduceIte, Nat.reduceEqDiff, Nat.reduceAdd, Nat.reduceSub, Nat.reduceLeDiff, reduceCtorEq, implies_true, ne_eq, Tag.cap, List.replicate, allSolid, GVal.solid, Nat.reduceBEq, Nat.reduceMul, Nat.reduceLT, List.length_map, List.length_range, splice, vcA, ↓vcB, vcC, fbSpc, e16, spl_length]
  refine vcSLoop_by (ι := { p : Nat × List Sp.S // p.1 ≤ l.length ∧ Sp.nfA p.2 (l.drop p.1) = Sp.nf l ∧ Sp.Rt 0 p.2 ∧ Sp.Ok p.2 ∧ p.2.length ≤ p.1 }) (fun p => ⟨[.slice (spl l) t, .any, .any, .slice (spl p.1.2) .none, .int .i64 (p.1.1 : Nat)] ++ List.replicate 28 .any, []⟩) (fun p => l.length - p.1.1) ?_ ?_
  · exact Into.first ⟨(0, []), by omega, by simp [Sp.nf], trivial, Sp.Ok.nil, by simp⟩ ⟨[], by simp⟩ (by simp [WL, leG_self, leG_any, leG_int, leG_none, spl_nil])
  · rintro ⟨⟨k, acc⟩, hk, he, hr, hok, hal⟩
    simp only [] at hk he hr hok hal
    by_cases h : k < l.length
    · have d0 : ((k : Int) < (l.length : Int)) = True := eq_true (by omega)
      have eS := spl_at l k h
      have hx := ho.at k
      rw [drop_getD h] at he
      generalize l.getD k (0, 0) = x at *
      have hpl : (Sp.put acc x).length ≤ acc.length + 1 := by
        unfold Sp.put; split
        · exact Sp.ins_len _ _
        · omega
      have hpr := Sp.put_rt x hr
      have hpo : Sp.Ok (Sp.put acc x) := Sp.ok_of hpr (by omega) fun n hn => by
        rcases (Sp.put_has x hr n).1 hn with h' | h'
        · exact hok.has h'
        · omega
      change Sp.nfA (Sp.put acc x) (l.drop (k + 1)) = _ at he
      by_cases c : max 0 x.1 ≤ x.2
      · have d1 : (x.2 < max 0 x.1) = False := eq_false (by omega)
        have ep : Sp.put acc x = Sp.ins acc (max 0 x.1, x.2) := by unfold Sp.put; rw [if_pos (by omega), Int.max_comm]
        simp +contextual -implicitDefEqProofs (maxSteps := 2000000) (disch := omega) only [drawC, ↓lenV, binV, optV, ↓loadV, ↓storeV, ↓fieldAddrV, ↓indexAddrV, ↓allocV, ↓buildV, ↓sliceV, ↓minV, bound, cutTag, hiTag, fillG, place, GVal.cells, grp, GVal.ofConst, ↓resV, resG, List.map, List.headD, List.take, List.drop, ↓reduceIte, Nat.reduceEqDiff, Nat.reduceAdd, Nat.reduceSub, Nat.reduceLeDiff, reduceCtorEq, implies_true, ne_eq, Tag.cap, List.replicate, allSolid, GVal.solid, Nat.reduceBEq, Nat.reduceMul, Nat.reduceLT, List.length_map, List.length_range, splice, vcA, ↓vcB, vcC, fbSpc, e16, spl_length, d0, d1, eS, spG, all_spl, false_imp_iff, true_and, true_imp_iff, and_true]
        refine ⟨by omega, by omega, fun st => ⟨⟨_, rfl⟩, ?_⟩⟩
        refine (sJoin acc .none (max 0 x.1, x.2) (by omega) hok hr ⟨by show 0 ≤ max _ _; omega, c, hx.2.2⟩).then ?_ (by rfl)
        rw [← ep]
        simp +contextual -implicitDefEqProofs (maxSteps := 2000000) (disch := omega) only [drawC, ↓lenV, binV, optV, ↓loadV, ↓storeV, ↓fieldAddrV, ↓indexAddrV, ↓allocV, ↓buildV, ↓sliceV, ↓minV, bound, cutTag, hiTag, fillG, place, GVal.cells, grp, GVal.ofConst, ↓resV, resG, List.map, List.headD, List.take, List.drop, ↓reduceIte, Nat.reduceEqDiff, Nat.reduceAdd, Nat.reduceSub, Nat.reduceLeDiff, reduceCtorEq, implies_true, ne_eq, Tag.cap, List.replicate, allSolid, GVal.solid, Nat.reduceBEq, Nat.reduceMul, Nat.reduceLT, List.length_map, List.length_range, splice, vcA, ↓vcB, vcC, fbSpc, e16, spl_length, d0, eS, spG, all_spl]
        exact Into.at ⟨(k + 1, Sp.put acc x), by show k + 1 ≤ _; omega, he, hpr, hpo, by show (Sp.put acc x).length ≤ k + 1; omega⟩ (by show _ < _; simp; omega) ⟨[.row st 2 [[.int .i64 (max 0 x.1), .int .i64 x.2]]], by simp⟩ (by simp [WL, leG_self, leG_any, leG_int])
      · have d1 : (x.2 < max 0 x.1) = True := eq_true (by omega)
        have ep : Sp.put acc x = acc := by unfold Sp.put; rw [if_neg (by omega)]
        rw [ep] at he
        simp +contextual -implicitDefEqProofs (maxSteps := 2000000) (disch := omega) only [drawC, ↓lenV, binV, optV, ↓loadV, ↓storeV, ↓fieldAddrV, ↓indexAddrV, ↓allocV, ↓buildV, ↓sliceV, ↓minV, bound, cutTag, hiTag, fillG, place, GVal.cells, grp, GVal.ofConst, ↓resV, resG, List.map, List.headD, List.take, List.drop, ↓reduceIte, Nat.reduceEqDiff, Nat.reduceAdd, Nat.reduceSub, Nat.reduceLeDiff, reduceCtorEq, implies_true, ne_eq, Tag.cap, List.replicate, allSolid, GVal.solid, Nat.reduceBEq, Nat.reduceMul, Nat.reduceLT, List.length_map, List.length_range, splice, vcA, ↓vcB, vcC, fbSpc, e16, spl_length, d0, d1, eS, spG, all_spl, false_imp_iff, true_and, true_imp_iff, and_true]
        refine ⟨by omega, by omega, fun st => ⟨⟨_, rfl⟩, ?_⟩⟩
        exact Into.at ⟨(k + 1, acc), by show k + 1 ≤ _; omega, he, hr, hok, by show acc.length ≤ k + 1; omega⟩ (by show _ < _; simp; omega) ⟨[.row st 2 [[.int .i64 (max 0 x.1), .int .i64 x.2]]], by simp⟩ (by simp [WL, leG_self, leG_any, leG_int])
    · have d0 : ((k : Int) < (l.length : Int)) = False := eq_false (by omega)
      rw [List.drop_of_length_le (by omega)] at he
      simp +contextual -implicitDefEqProofs (maxSteps := 2000000) (disch := omega) only [drawC, ↓lenV, binV, optV, ↓loadV, ↓storeV, ↓fieldAddrV, ↓indexAddrV, ↓allocV, ↓buildV, ↓sliceV, ↓minV, bound, cutTag, hiTag, fillG, place, GVal.cells, grp, GVal.ofConst, ↓resV, resG, List.map, List.headD, List.take, List.drop, ↓reduceIte, Nat.reduceEqDiff, Nat.reduceAdd, Nat.reduceSub, Nat.reduceLeDiff, reduceCtorEq, implies_true, ne_eq, Tag.cap, List.replicate, allSolid, GVal.solid, Nat.reduceBEq, Nat.reduceMul, Nat.reduceLT, List.length_map, List.length_range, splice, vcA, ↓vcB, vcC, fbSpc, e16, spl_length, d0, all_spl, false_imp_iff, true_and]
      rw [← he]; rfl

theorem sRightR (l : List Sp.S) (t : Tag) (hl : l.length ≤ 4398046511104) (ho : Sp.Ok l) : GPure Try.prog 18 [.slice (spl l) t] (.bool (rightB 0 l)) := by
  refine h18.pure mixS (by simp) ?_
  simp only [gstart, s18, List.cons_append, List.nil_append, List.length_cons, List.length_nil, Nat.reduceAdd, Nat.reduceSub, List.replicate_succ, List.replicate_zero]
  simp +contextual -implicitDefEqProofs (maxSteps := 2000000) (disch := omega) only [GVal.cells, grp, GVal.ofConst, ↓resV, resG, List.map, List.headD, List.take, List.drop, ↓reduceIte, Nat.reduceEqDiff, Nat.reduceAdd, Nat.reduceSub, Nat.reduceLeDiff, reduceCtorEq, implies_true, ne_eq, Tag.cap, List.replicate, allSolid, GVal.solid, Nat.reduceBEq, Nat.reduceMul, Nat.reduceLT, List.length_map, List.length_range, splice, vcA, ↓vcB, vcC, fbSpc, e18]
  refine (sMakeR l t hl ho).then ?_ (by rfl)
  simp +contextual -implicitDefEqProofs (maxSteps := 2000000) (disch := omega) only [GVal.cells, grp, GVal.ofConst, ↓resV, resG, List.map, List.headD, List.take, List.drop, ↓reduceIte, Nat.reduceEqDiff, Nat.reduceAdd, Nat.reduceSub, Nat.reduceLeDiff, reduceCtorEq, implies_true, ne_eq, Tag.cap, List.replicate, allSolid, GVal.solid, Nat.reduceBEq, Nat.reduceMul, Nat.reduceLT, List.length_map, List.length_range, splice, vcA, ↓vcB, vcC, fbSpc, e18]
  refine (sSameSpans l (Sp.nf l) t .none (by omega)).then ?_ (by rfl)
  simp +contextual -implicitDefEqProofs (maxSteps := 2000000) (disch := omega) only [GVal.cells, grp, GVal.ofConst, ↓resV, resG, List.map, List.headD, List.take, List.drop, ↓reduceIte, Nat.reduceEqDiff, Nat.reduceAdd, Nat.reduceSub, Nat.reduceLeDiff, reduceCtorEq, implies_true, ne_eq, Tag.cap, List.replicate, allSolid, GVal.solid, Nat.reduceBEq, Nat.reduceMul, Nat.reduceLT, List.length_map, List.length_range, splice, vcA, ↓vcB, vcC, fbSpc, e18]
  rw [Bool.eq_iff_iff, rightB_iff, decide_eq_true_eq]
  exact ⟨fun h => by rw [h]; exact Sp.nf_rt l, fun h => (Sp.nf_rt_eq h).symm⟩

theorem sUnionR (a b : List Sp.S) (ta tb : Tag) (hl : a.length + b.length ≤ 4398046511104) (ha : Sp.Ok a) (hb : Sp.Ok b) : GPure Try.prog 19 [.slice (spl a) ta, .slice (spl b) tb] (.slice (spl (Sp.uni a b)) .none) := by
  refine h19.pure mixS (by simp) ?_
  simp only [gstart, s19, List.cons_append, List.nil_append, List.length_cons, List.length_nil, Nat.reduceAdd, Nat.reduceSub, List.replicate_succ, List.replicate_zero]
  simp +contextual -implicitDefEqProofs (maxSteps := 2000000) (disch := omega) only [optV, ↓buildSliceV, ↓sliceV, ↓appendV, ↓srcV, bound, cutTag, hiTag, fillE, GVal.cells, grp, GVal.ofConst, ↓resV, resG, List.map, List.headD, List.take, List.drop, ↓reduceIte, Nat.reduceEqDiff, Nat.reduceAdd, Nat.reduceSub, Nat.reduceLeDiff, reduceCtorEq, implies_true, ne_eq, ↓asrcV, Tag.cap, List.replicate, allSolid, GVal.solid, Nat.reduceBEq, Nat.reduceMul, Nat.reduceLT, List.length_map, List.length_range, splice, vcA, ↓vcB, vcC, fbSpc, e19, spl_length, all_spl]
  refine ⟨by omega, by omega, fun _ => ⟨by omega, by omega, fun st => ?_⟩⟩
  rw [← spl_append]
  refine (sMakeR (a ++ b) _ (by simp; omega) (ha.app hb)).then ?_ (by rfl)
  simp +contextual -implicitDefEqProofs (maxSteps := 2000000) (disch := omega) only [optV, ↓buildSliceV, ↓sliceV, ↓appendV, ↓srcV, bound, cutTag, hiTag, fillE, GVal.cells, grp, GVal.ofConst, ↓resV, resG, List.map, List.headD, List.take, List.drop, ↓reduceIte, Nat.reduceEqDiff, Nat.reduceAdd, Nat.reduceSub, Nat.reduceLeDiff, reduceCtorEq, implies_true, ne_eq, ↓asrcV, Tag.cap, List.replicate, allSolid, GVal.solid, Nat.reduceBEq, Nat.reduceMul, Nat.reduceLT, List.length_map, List.length_range, splice, vcA, ↓vcB, vcC, fbSpc, e19]
  rfl

theorem sHasR (l : List Sp.S) (t : Tag) (n : Int) (hl : l.length ≤ 4398046511104) (ho : Sp.Ok l) : GPure Try.prog 34 [.slice (spl l) t, .int .i64 n] (.bool (Sp.hasB l n)) := by
  refine h34.pure mixS (by simp) ?_
  simp only [gstart, s34, List.cons_append, List.nil_append, List.length_cons, List.length_nil, Nat.reduceAdd, Nat.reduceSub, List.replicate_succ, List.replicate_zero]
  simp +contextual -implicitDefEqProofs (maxSteps := 2000000) (disch := omega) only [↓lenV, binV, ↓loadV, ↓fieldAddrV, ↓indexAddrV, ↓minV, GVal.cells, grp, GVal.ofConst, ↓resV, resG, List.map, List.headD, List.take, List.drop, ↓reduceIte, Nat.reduceEqDiff, Nat.reduceAdd, Nat.reduceSub, Nat.reduceLeDiff, reduceCtorEq, implies_true, ne_eq, Tag.cap, List.replicate, allSolid, GVal.solid, Nat.reduceBEq, Nat.reduceMul, Nat.reduceLT, List.length_map, List.length_range, splice, vcA, ↓vcB, vcC, fbSpc, e34, spl_length]
  refine vcSLoop_by (ι := { k : Nat // k ≤ l.length ∧ Sp.hasB (l.drop k) n = Sp.hasB l n }) (fun k => ⟨[.slice (spl l) t, .int .i64 n, .any, .any, .any, .int .i64 (k.1 : Nat)] ++ List.replicate 23 .any, []⟩) (fun k => l.length - k.1) ?_ ?_
  · exact Into.first ⟨0, by omega, by simp⟩ ⟨[], by simp⟩ (by simp [WL, leG_self, leG_any, leG_int])
  · rintro ⟨k, hk, he⟩
    by_cases h : k < l.length
    · have d0 : ((k : Int) < (l.length : Int)) = True := eq_true (by omega)
      have eS := spl_at l k h
      rw [drop_getD h, Sp.hasB_cons] at he
      generalize l.getD k (0, 0) = x at *
      simp +contextual -implicitDefEqProofs (maxSteps := 2000000) (disch := omega) only [↓lenV, binV, ↓loadV, ↓fieldAddrV, ↓indexAddrV, ↓minV, GVal.cells, grp, GVal.ofConst, ↓resV, resG, List.map, List.headD, List.take, List.drop, ↓reduceIte, Nat.reduceEqDiff, Nat.reduceAdd, Nat.reduceSub, Nat.reduceLeDiff, reduceCtorEq, implies_true, ne_eq, Tag.cap, List.replicate, allSolid, GVal.solid, Nat.reduceBEq, Nat.reduceMul, Nat.reduceLT, List.length_map, List.length_range, splice, vcA, ↓vcB, vcC, fbSpc, e34, spl_length, d0, eS, spG, all_spl]
      refine ⟨by omega, fun h1 => ⟨by omega, fun h2 => ?_, fun h2 => ?_⟩, fun h1 => ?_⟩
      · rw [← he, decide_eq_true (p := (0 : Int) ≤ n) (by omega), decide_eq_true (p := x.1 ≤ n) (by omega), decide_eq_true (p := n ≤ x.2) h2]; rfl
      · refine Into.at ⟨k + 1, by omega, ?_⟩ (by show _ < _; simp; omega) ⟨[], by simp⟩ (by simp [WL, leG_self, leG_any, leG_int])
        rw [← he, decide_eq_false (p := n ≤ x.2) (by omega)]; simp
      · refine Into.at ⟨k + 1, by omega, ?_⟩ (by show _ < _; simp; omega) ⟨[], by simp⟩ (by simp [WL, leG_self, leG_any, leG_int])
        have : (decide (0 ≤ n) && (decide (x.1 ≤ n) && decide (n ≤ x.2))) = false := by simp; omega
        rw [← he, this, Bool.false_or]
    · have d0 : ((k : Int) < (l.length : Int)) = False := eq_false (by omega)
      rw [List.drop_of_length_le (by omega)] at he
      simp +contextual -implicitDefEqProofs (maxSteps := 2000000) (disch := omega) only [↓lenV, binV, ↓loadV, ↓fieldAddrV, ↓indexAddrV, ↓minV, GVal.cells, grp, GVal.ofConst, ↓resV, resG, List.map, List.headD, List.take, List.drop, ↓reduceIte, Nat.reduceEqDiff, Nat.reduceAdd, Nat.reduceSub, Nat.reduceLeDiff, reduceCtorEq, implies_true, ne_eq, Tag.cap, List.replicate, allSolid, GVal.solid, Nat.reduceBEq, Nat.reduceMul, Nat.reduceLT, List.length_map, List.length_range, splice, vcA, ↓vcB, vcC, fbSpc, e34, spl_length, d0, all_spl, false_imp_iff, true_and]
      rw [← he]; rfl

theorem sCountR (l : List Sp.S) (t : Tag) (hl : l.length ≤ 4398046511104) (ho : Sp.Ok l) : GPure Try.prog 23 [.slice (spl l) t] (.int .i64 (min 9223372036854775807 (Sp.tot (Sp.nf l)))) := by
  refine h23.pure mixS (by simp) ?_
  simp only [gstart, s23, List.cons_append, List.nil_append, List.length_cons, List.length_nil, Nat.reduceAdd, Nat.reduceSub, List.replicate_succ, List.replicate_zero]
  simp +contextual -implicitDefEqProofs (maxSteps := 2000000) (disch := omega) only [drawC, ↓lenV, binV, ↓loadV, ↓fieldAddrV, ↓indexAddrV, GVal.cells, grp, GVal.ofConst, ↓resV, resG, List.map, List.headD, List.take, List.drop, ↓reduceIte, Nat.reduceEqDiff, Nat.reduceAdd, Nat.reduceSub, Nat.reduceLeDiff, reduceCtorEq, implies_true, ne_eq, Tag.cap, List.replicate, allSolid, GVal.solid, Nat.reduceBEq, Nat.reduceMul, Nat.reduceLT, List.length_map, List.length_range, splice, vcA, ↓vcB, vcC, fbSpc, e23]
  refine (sMakeR l t hl ho).then ?_ (by rfl)
  have hN := Sp.nf_len l
  have hoN := Sp.nf_ok ho
  have hrt := Sp.nf_rt l
  generalize Sp.nf l = N at *
  simp +contextual -implicitDefEqProofs (maxSteps := 2000000) (disch := omega) only [drawC, ↓lenV, binV, ↓loadV, ↓fieldAddrV, ↓indexAddrV, GVal.cells, grp, GVal.ofConst, ↓resV, resG, List.map, List.headD, List.take, List.drop, ↓reduceIte, Nat.reduceEqDiff, Nat.reduceAdd, Nat.reduceSub, Nat.reduceLeDiff, reduceCtorEq, implies_true, ne_eq, Tag.cap, List.replicate, allSolid, GVal.solid, Nat.reduceBEq, Nat.reduceMul, Nat.reduceLT, List.length_map, List.length_range, splice, vcA, ↓vcB, vcC, fbSpc, e23, spl_length]
  refine vcSLoop_by (ι := { k : Nat // k ≤ N.length ∧ Sp.tot (N.take k) ≤ 9223372036854775807 }) (fun k => ⟨[.slice (spl N) .none, .any, .any, .int .i64 (Sp.tot (N.take k.1)), .int .i64 (k.1 : Nat)] ++ List.replicate 29 .any, []⟩) (fun k => N.length - k.1) ?_ ?_
  · exact Into.first ⟨0, by omega, by simp [Sp.tot]⟩ ⟨[], by simp⟩ (by simp [WL, leG_self, leG_any, leG_int, Sp.tot])
  · rintro ⟨k, hk, ht⟩
    have hp := Sp.tot_pre hrt k
    by_cases h : k < N.length
    · have d0 : ((k : Int) < (N.length : Int)) = True := eq_true (by omega)
      have eS := spl_at N k h
      have hx := hoN.at k
      have hx2 := hrt.at k h
      have hst := Sp.cnt_step N k h
      have hle := Sp.tot_le hrt (k + 1)
      generalize N.getD k (0, 0) = x at *
      simp +contextual -implicitDefEqProofs (maxSteps := 2000000) (disch := omega) only [drawC, ↓lenV, binV, ↓loadV, ↓fieldAddrV, ↓indexAddrV, GVal.cells, grp, GVal.ofConst, ↓resV, resG, List.map, List.headD, List.take, List.drop, ↓reduceIte, Nat.reduceEqDiff, Nat.reduceAdd, Nat.reduceSub, Nat.reduceLeDiff, reduceCtorEq, implies_true, ne_eq, Tag.cap, List.replicate, allSolid, GVal.solid, Nat.reduceBEq, Nat.reduceMul, Nat.reduceLT, List.length_map, List.length_range, splice, vcA, ↓vcB, vcC, fbSpc, e23, spl_length, d0, eS, spG, all_spl]
      refine ⟨by omega, by omega, fun h1 => by omega, fun h1 => ?_⟩
      refine Into.at ⟨k + 1, by omega, by omega⟩ (by show _ < _; simp; omega) ⟨[], by simp⟩ ?_
      have e : Sp.tot (List.take k N) + (x.2 - x.1) + 1 = Sp.tot (List.take (k + 1) N) := by omega
      simp [WL, leG_self, leG_any, leG_int, e]
    · have d0 : ((k : Int) < (N.length : Int)) = False := eq_false (by omega)
      rw [List.take_of_length_le (by omega)] at ht
      simp +contextual -implicitDefEqProofs (maxSteps := 2000000) (disch := omega) only [drawC, ↓lenV, binV, ↓loadV, ↓fieldAddrV, ↓indexAddrV, GVal.cells, grp, GVal.ofConst, ↓resV, resG, List.map, List.headD, List.take, List.drop, ↓reduceIte, Nat.reduceEqDiff, Nat.reduceAdd, Nat.reduceSub, Nat.reduceLeDiff, reduceCtorEq, implies_true, ne_eq, Tag.cap, List.replicate, allSolid, GVal.solid, Nat.reduceBEq, Nat.reduceMul, Nat.reduceLT, List.length_map, List.length_range, splice, vcA, ↓vcB, vcC, fbSpc, e23, spl_length, d0, all_spl, false_imp_iff, true_and]
      rw [List.take_of_length_le (by omega), Int.min_eq_right ht]
end Gv.Try
/- Contracts: the document's answer on spans: Both, Minus. -/
set_option linter.unusedVariables false
set_option linter.unusedSimpArgs false
set_option maxRecDepth 20000
set_option maxHeartbeats 4000000
namespace Gv.Try
open Go Gv Go.Proofs

def meet (x y : Sp.S) : Sp.S := (max x.1 y.1, min x.2 y.2)
theorem meets_take (A B : List Sp.S) (i : Nat) (h : i < A.length) : Sp.meets (A.take (i + 1)) B = Sp.meets (A.take i) B ++ B.map (meet (A.getD i (0, 0))) := by
  rw [take_getD h]; simp only [Sp.meets, List.flatMap_append, List.flatMap_cons, List.flatMap_nil, List.append_nil]; rfl
theorem meets_len (A B : List Sp.S) : (Sp.meets A B).length = A.length * B.length := by
  induction A with
  | nil => simp [Sp.meets]
  | cons a r ih =>
    have : Sp.meets (a :: r) B = B.map (meet a) ++ Sp.meets r B := rfl
    rw [this, List.length_append, ih]; simp [Nat.succ_mul, Nat.add_comm]
theorem map_take (f : Sp.S → Sp.S) (B : List Sp.S) (k : Nat) (h : k < B.length) : (B.take (k + 1)).map f = (B.take k).map f ++ [f (B.getD k (0, 0))] := by
  rw [take_getD h]; simp

theorem sBothR (a b : List Sp.S) (ta tb : Tag) (hl : a.length ≤ 1000 ∧ b.length ≤ 1000) (ha : Sp.Ok a) (hb : Sp.Ok b) : GPure Try.prog 20 [.slice (spl a) ta, .slice (spl b) tb] (.slice (spl (Sp.bothS a b)) .none) := by
  refine h20.pure mixS (by simp) ?_
  simp only [gstart, s20, List.cons_append, List.nil_append, List.length_cons, List.length_nil, Nat.reduceAdd, Nat.reduceSub, List.replicate_succ, List.replicate_zero]
  simp +contextual -implicitDefEqProofs (maxSteps := 2000000) (disch := omega) only [drawC, ↓lenV, binV, optV, ↓loadV, ↓fieldAddrV, ↓indexAddrV, ↓buildV, ↓buildSliceV, ↓sliceV, ↓appendV, ↓srcV, ↓minV, bound, cutTag, hiTag, fillG, fillE, place, GVal.cells, grp, GVal.ofConst, ↓resV, resG, List.map, List.headD, List.take, List.drop, ↓reduceIte, Nat.reduceEqDiff, Nat.reduceAdd, Nat.reduceSub, Nat.reduceLeDiff, reduceCtorEq, implies_true, ne_eq, ↓asrcV, Tag.cap, List.replicate, allSolid, GVal.solid, Nat.reduceBEq, Nat.reduceMul, Nat.reduceLT, List.length_map, List.length_range, splice, vcA, ↓vcB, vcC, fbSpc, e20]
  refine (sMakeR a ta (by omega) ha).then ?_ (by rfl)
  simp +contextual -implicitDefEqProofs (maxSteps := 2000000) (disch := omega) only [drawC, ↓lenV, binV, optV, ↓loadV, ↓fieldAddrV, ↓indexAddrV, ↓buildV, ↓buildSliceV, ↓sliceV, ↓appendV, ↓srcV, ↓minV, bound, cutTag, hiTag, fillG, fillE, place, GVal.cells, grp, GVal.ofConst, ↓resV, resG, List.map, List.headD, List.take, List.drop, ↓reduceIte, Nat.reduceEqDiff, Nat.reduceAdd, Nat.reduceSub, Nat.reduceLeDiff, reduceCtorEq, implies_true, ne_eq, ↓asrcV, Tag.cap, List.replicate, allSolid, GVal.solid, Nat.reduceBEq, Nat.reduceMul, Nat.reduceLT, List.length_map, List.length_range, splice, vcA, ↓vcB, vcC, fbSpc, e20]
  refine (sMakeR b tb (by omega) hb).then ?_ (by rfl)
  have hA := Sp.nf_len a
  have hB := Sp.nf_len b
  have oA := Sp.nf_ok ha
  have oB := Sp.nf_ok hb
  have fin : Sp.nf (Sp.meets (Sp.nf a) (Sp.nf b)) = Sp.bothS a b := Sp.nf_eq (Sp.bothS_rt a b) fun n => by rw [Sp.meets_has, Sp.bothS_has, Sp.nf_has, Sp.nf_has]
  generalize Sp.nf a = A at *
  generalize Sp.nf b = B at *
  simp +contextual -implicitDefEqProofs (maxSteps := 2000000) (disch := omega) only [drawC, ↓lenV, binV, optV, ↓loadV, ↓fieldAddrV, ↓indexAddrV, ↓buildV, ↓buildSliceV, ↓sliceV, ↓appendV, ↓srcV, ↓minV, bound, cutTag, hiTag, fillG, fillE, place, GVal.cells, grp, GVal.ofConst, ↓resV, resG, List.map, List.headD, List.take, List.drop, ↓reduceIte, Nat.reduceEqDiff, Nat.reduceAdd, Nat.reduceSub, Nat.reduceLeDiff, reduceCtorEq, implies_true, ne_eq, ↓asrcV, Tag.cap, List.replicate, allSolid, GVal.solid, Nat.reduceBEq, Nat.reduceMul, Nat.reduceLT, List.length_map, List.length_range, splice, vcA, ↓vcB, vcC, fbSpc, e20, spl_length]
  refine vcSLoop_by (ι := { p : Nat × Nat // p.1 ≤ A.length }) (fun p => ⟨[.slice (spl A) .none, .slice (spl B) .none, .any, .any, .any, .slice (spl (Sp.meets (A.take p.1.1) B)) (.tok 0 p.1.2), .int .i64 (p.1.1 : Nat)] ++ List.replicate 45 .any, [.tok p.1.2 2]⟩) (fun p => A.length - p.1.1) ?_ ?_
  · refine Into.tok 5 2 [] rfl rfl ?_
    simp +contextual -implicitDefEqProofs (maxSteps := 2000000) (disch := omega) only [drawC, ↓lenV, binV, optV, ↓loadV, ↓fieldAddrV, ↓indexAddrV, ↓buildV, ↓buildSliceV, ↓sliceV, ↓appendV, ↓srcV, ↓minV, bound, cutTag, hiTag, fillG, fillE, place, GVal.cells, grp, GVal.ofConst, ↓resV, resG, List.map, List.headD, List.take, List.drop, ↓reduceIte, Nat.reduceEqDiff, Nat.reduceAdd, Nat.reduceSub, Nat.reduceLeDiff, reduceCtorEq, implies_true, ne_eq, ↓asrcV, Tag.cap, List.replicate, allSolid, GVal.solid, Nat.reduceBEq, Nat.reduceMul, Nat.reduceLT, List.length_map, List.length_range, splice, vcA, ↓vcB, vcC, fbSpc, e20]
    intro t0
    exact Into.first ⟨(0, t0), by omega⟩ ⟨[], by simp⟩ (by simp [WL, leG_self, leG_any, spl_nil, Sp.meets])
  · rintro ⟨⟨i, v⟩, hi⟩
    simp only [] at hi
    have hml := meets_len (A.take i) B
    rw [List.length_take, Nat.min_eq_left hi] at hml
    have hm1 : i * B.length ≤ 1000 * 1000 := Nat.mul_le_mul (by omega) (by omega)
    by_cases h : i < A.length
    · have d0 : ((i : Int) < (A.length : Int)) = True := eq_true (by omega)
      have eX := spl_at A i h
      have hx := oA.at i
      have eM := meets_take A B i h
      generalize A.getD i (0, 0) = x at *
      generalize Sp.meets (A.take i) B = M at *
      simp +contextual -implicitDefEqProofs (maxSteps := 2000000) (disch := omega) only [drawC, ↓lenV, binV, optV, ↓loadV, ↓fieldAddrV, ↓indexAddrV, ↓buildV, ↓buildSliceV, ↓sliceV, ↓appendV, ↓srcV, ↓minV, bound, cutTag, hiTag, fillG, fillE, place, GVal.cells, grp, GVal.ofConst, ↓resV, resG, List.map, List.headD, List.take, List.drop, ↓reduceIte, Nat.reduceEqDiff, Nat.reduceAdd, Nat.reduceSub, Nat.reduceLeDiff, reduceCtorEq, implies_true, ne_eq, ↓asrcV, Tag.cap, List.replicate, allSolid, GVal.solid, Nat.reduceBEq, Nat.reduceMul, Nat.reduceLT, List.length_map, List.length_range, splice, vcA, ↓vcB, vcC, fbSpc, e20, spl_length, d0]
      refine vcSLoop_by (ι := { p : Nat × Nat // p.1 ≤ B.length }) (fun p => ⟨[.slice (spl A) .none, .slice (spl B) .none, .any, .any, .any, .slice (spl (M ++ (B.take p.1.1).map (meet x))) (.tok 0 p.1.2), .int .i64 (i : Nat), .int .i64 (p.1.1 : Nat)] ++ List.replicate 44 .any, [.tok p.1.2 2]⟩) (fun p => B.length - p.1.1) ?_ ?_
      · exact Into.first ⟨(0, v), by omega⟩ ⟨[], by simp⟩ (by simp [WL, leG_self, leG_any, leG_int])
      · rintro ⟨⟨k, u⟩, hk⟩
        simp only [] at hk
        by_cases h' : k < B.length
        · have d1 : ((k : Int) < (B.length : Int)) = True := eq_true (by omega)
          have eY := spl_at B k h'
          have hy := oB.at k
          have eN := map_take (meet x) B k h'
          generalize B.getD k (0, 0) = y at *
          have hz : ((B.take k).map (meet x)).length ≤ 1000 := by simp; omega
          generalize (B.take k).map (meet x) = Z at *
          simp +contextual -implicitDefEqProofs (maxSteps := 2000000) (disch := omega) only [drawC, ↓lenV, binV, optV, ↓loadV, ↓fieldAddrV, ↓indexAddrV, ↓buildV, ↓buildSliceV, ↓sliceV, ↓appendV, ↓srcV, ↓minV, bound, cutTag, hiTag, fillG, fillE, place, GVal.cells, grp, GVal.ofConst, ↓resV, resG, List.map, List.headD, List.take, List.drop, ↓reduceIte, Nat.reduceEqDiff, Nat.reduceAdd, Nat.reduceSub, Nat.reduceLeDiff, reduceCtorEq, implies_true, ne_eq, ↓asrcV, Tag.cap, List.replicate, allSolid, GVal.solid, Nat.reduceBEq, Nat.reduceMul, Nat.reduceLT, List.length_map, List.length_range, splice, vcA, ↓vcB, vcC, fbSpc, e20, spl_length, d0, d1, eX, eY, spG, all_spl, List.length_append]
          refine ⟨by omega, by omega, by omega, by omega, by omega, by omega, fun st => ?_⟩
          refine Into.at ⟨(k + 1, st), by show k + 1 ≤ _; omega⟩ (by show _ < _; simp; omega) ⟨[], by simp⟩ ?_
          have e2 : meet x y = (max x.1 y.1, min x.2 y.2) := rfl
          simp [WL, leG_self, leG_any, leG_int, leG_tok, eN, spl_append, spl_cons, spl_nil, spG, e2]
        · have d1 : ((k : Int) < (B.length : Int)) = False := eq_false (by omega)
          rw [List.take_of_length_le (l := B) (i := k) (by omega), ← eM]
          simp +contextual -implicitDefEqProofs (maxSteps := 2000000) (disch := omega) only [drawC, ↓lenV, binV, optV, ↓loadV, ↓fieldAddrV, ↓indexAddrV, ↓buildV, ↓buildSliceV, ↓sliceV, ↓appendV, ↓srcV, ↓minV, bound, cutTag, hiTag, fillG, fillE, place, GVal.cells, grp, GVal.ofConst, ↓resV, resG, List.map, List.headD, List.take, List.drop, ↓reduceIte, Nat.reduceEqDiff, Nat.reduceAdd, Nat.reduceSub, Nat.reduceLeDiff, reduceCtorEq, implies_true, ne_eq, ↓asrcV, Tag.cap, List.replicate, allSolid, GVal.solid, Nat.reduceBEq, Nat.reduceMul, Nat.reduceLT, List.length_map, List.length_range, splice, vcA, ↓vcB, vcC, fbSpc, e20, spl_length, d0, d1, all_spl, false_imp_iff, true_and]
          exact Into.at ⟨(i + 1, u), by show i + 1 ≤ _; omega⟩ (by show _ < _; simp; omega) ⟨[], by simp⟩ (by simp [WL, leG_self, leG_any, leG_int])
    · have d0 : ((i : Int) < (A.length : Int)) = False := eq_false (by omega)
      rw [List.take_of_length_le (l := A) (i := i) (by omega)] at hml ⊢
      have hok : Sp.Ok (Sp.meets A B) := by
        intro s hs
        simp only [Sp.meets, List.mem_flatMap, List.mem_map] at hs
        obtain ⟨x, hx, y, hy, rfl⟩ := hs
        have := oA x hx
        have := oB y hy
        exact ⟨by show _ ≤ max _ _ ∧ max _ _ ≤ _; omega, by show _ ≤ min _ _ ∧ min _ _ ≤ _; omega⟩
      simp +contextual -implicitDefEqProofs (maxSteps := 2000000) (disch := omega) only [drawC, ↓lenV, binV, optV, ↓loadV, ↓fieldAddrV, ↓indexAddrV, ↓buildV, ↓buildSliceV, ↓sliceV, ↓appendV, ↓srcV, ↓minV, bound, cutTag, hiTag, fillG, fillE, place, GVal.cells, grp, GVal.ofConst, ↓resV, resG, List.map, List.headD, List.take, List.drop, ↓reduceIte, Nat.reduceEqDiff, Nat.reduceAdd, Nat.reduceSub, Nat.reduceLeDiff, reduceCtorEq, implies_true, ne_eq, ↓asrcV, Tag.cap, List.replicate, allSolid, GVal.solid, Nat.reduceBEq, Nat.reduceMul, Nat.reduceLT, List.length_map, List.length_range, splice, vcA, ↓vcB, vcC, fbSpc, e20, spl_length, d0, all_spl, false_imp_iff, true_and]
      refine (sMakeR (Sp.meets A B) _ (by omega) hok).then ?_ (by rfl)
      simp +contextual -implicitDefEqProofs (maxSteps := 2000000) (disch := omega) only [drawC, ↓lenV, binV, optV, ↓loadV, ↓fieldAddrV, ↓indexAddrV, ↓buildV, ↓buildSliceV, ↓sliceV, ↓appendV, ↓srcV, ↓minV, bound, cutTag, hiTag, fillG, fillE, place, GVal.cells, grp, GVal.ofConst, ↓resV, resG, List.map, List.headD, List.take, List.drop, ↓reduceIte, Nat.reduceEqDiff, Nat.reduceAdd, Nat.reduceSub, Nat.reduceLeDiff, reduceCtorEq, implies_true, ne_eq, ↓asrcV, Tag.cap, List.replicate, allSolid, GVal.solid, Nat.reduceBEq, Nat.reduceMul, Nat.reduceLT, List.length_map, List.length_range, splice, vcA, ↓vcB, vcC, fbSpc, e20]
      rw [fin]

theorem sMinusR (a b : List Sp.S) (ta tb : Tag) (hl : a.length ≤ 1000 ∧ b.length ≤ 1000) (ha : Sp.Ok a) (hb : Sp.Ok b) : GPure Try.prog 21 [.slice (spl a) ta, .slice (spl b) tb] (.slice (spl (Sp.minus a b)) .none) := by
  refine h21.pure mixS (by simp) ?_
  simp only [gstart, s21, List.cons_append, List.nil_append, List.length_cons, List.length_nil, Nat.reduceAdd, Nat.reduceSub, List.replicate_succ, List.replicate_zero]
  simp +contextual -implicitDefEqProofs (maxSteps := 2000000) (disch := omega) only [drawC, ↓lenV, binV, optV, ↓loadV, ↓storeV, ↓fieldAddrV, ↓indexAddrV, ↓allocV, ↓buildV, ↓buildSliceV, ↓sliceV, ↓appendV, ↓srcV, bound, cutTag, hiTag, fillG, fillE, place, GVal.cells, grp, GVal.ofConst, ↓resV, resG, List.map, List.headD, List.take, List.drop, ↓reduceIte, Nat.reduceEqDiff, Nat.reduceAdd, Nat.reduceSub, Nat.reduceLeDiff, reduceCtorEq, implies_true, ne_eq, ↓asrcV, Tag.cap, List.replicate, allSolid, GVal.solid, Nat.reduceBEq, Nat.reduceMul, Nat.reduceLT, List.length_map, List.length_range, splice, vcA, ↓vcB, vcC, fbSpc, e21]
  refine (sMakeR a ta (by omega) ha).then ?_ (by rfl)
  simp +contextual -implicitDefEqProofs (maxSteps := 2000000) (disch := omega) only [drawC, ↓lenV, binV, optV, ↓loadV, ↓storeV, ↓fieldAddrV, ↓indexAddrV, ↓allocV, ↓buildV, ↓buildSliceV, ↓sliceV, ↓appendV, ↓srcV, bound, cutTag, hiTag, fillG, fillE, place, GVal.cells, grp, GVal.ofConst, ↓resV, resG, List.map, List.headD, List.take, List.drop, ↓reduceIte, Nat.reduceEqDiff, Nat.reduceAdd, Nat.reduceSub, Nat.reduceLeDiff, reduceCtorEq, implies_true, ne_eq, ↓asrcV, Tag.cap, List.replicate, allSolid, GVal.solid, Nat.reduceBEq, Nat.reduceMul, Nat.reduceLT, List.length_map, List.length_range, splice, vcA, ↓vcB, vcC, fbSpc, e21]
  refine (sMakeR b tb (by omega) hb).then ?_ (by rfl)
  have hA := Sp.nf_len a
  have hB := Sp.nf_len b
  have oA := Sp.nf_ok ha
  have oB := Sp.nf_ok hb
  have rA := Sp.nf_rt a
  have rB := Sp.nf_rt b
  have fin : ∀ r, Sp.Rt 0 r → (∀ n, Sp.has r n ↔ Sp.has (Sp.nf a) n ∧ ¬ Sp.has (Sp.nf b) n) → r = Sp.minus a b := fun r h1 h2 => Sp.uniq h1 (Sp.minus_rt a b) (by omega) (by omega) fun n => by rw [h2, Sp.minus_has ha hb, Sp.nf_has, Sp.nf_has]
  generalize Sp.nf a = A at *
  generalize Sp.nf b = B at *
  simp +contextual -implicitDefEqProofs (maxSteps := 2000000) (disch := omega) only [drawC, ↓lenV, binV, optV, ↓loadV, ↓storeV, ↓fieldAddrV, ↓indexAddrV, ↓allocV, ↓buildV, ↓buildSliceV, ↓sliceV, ↓appendV, ↓srcV, bound, cutTag, hiTag, fillG, fillE, place, GVal.cells, grp, GVal.ofConst, ↓resV, resG, List.map, List.headD, List.take, List.drop, ↓reduceIte, Nat.reduceEqDiff, Nat.reduceAdd, Nat.reduceSub, Nat.reduceLeDiff, reduceCtorEq, implies_true, ne_eq, ↓asrcV, Tag.cap, List.replicate, allSolid, GVal.solid, Nat.reduceBEq, Nat.reduceMul, Nat.reduceLT, List.length_map, List.length_range, splice, vcA, ↓vcB, vcC, fbSpc, e21, spl_length]
  refine vcSLoop_by (ι := { p : Nat × List Sp.S // p.1 ≤ B.length ∧ Sp.Rt 0 p.2 ∧ Sp.Ok p.2 ∧ p.2.length ≤ A.length + p.1 ∧ ∀ n, Sp.has p.2 n ↔ Sp.has A n ∧ ¬ Sp.has (B.take p.1) n }) (fun p => ⟨[.slice (spl p.1.2) .none, .slice (spl B) .none, .any, .any, .any, .int .i64 (p.1.1 : Nat)] ++ List.replicate 87 .any, []⟩) (fun p => B.length - p.1.1) ?_ ?_
  · exact Into.first ⟨(0, A), by omega, rA, oA, by simp, fun n => by simp [Sp.has_nil]⟩ ⟨[], by simp⟩ (by simp [WL, leG_self, leG_any, leG_int])
  · rintro ⟨⟨k, L⟩, hk, hr, hok, hll, hh⟩
    simp only [] at hk hr hok hll hh
    by_cases h : k < B.length
    · have d0 : ((k : Int) < (B.length : Int)) = True := eq_true (by omega)
      have eY := spl_at B k h
      have hy := oB.at k
      have hy2 := rB.at k h
      have ht := fun n => Sp.has_take B k h n
      generalize B.getD k (0, 0) = y at *
      have c1 := Sp.cut_rt y hy2.2 L 0 hr
      have c2 := fun n => Sp.cut_has y hy2.2 n L
      have c3 := Sp.cut_len2 y hy2.2 L 0 hr
      have c4 : Sp.Ok (Sp.cut L y) := Sp.ok_of c1 (by omega) fun n hn => hok.has ((c2 n).1 hn).1
      have c5 : ∀ n, Sp.has (Sp.cut L y) n ↔ Sp.has A n ∧ ¬ Sp.has (B.take (k + 1)) n := fun n => by
        rw [c2, hh, ht, and_assoc, not_or]
        refine and_congr_right fun hA' => and_congr_right fun _ => ?_
        obtain ⟨_, _, h0, _⟩ := hA'
        exact ⟨fun q w => q w.2, fun q w => q ⟨h0, w⟩⟩
      simp +contextual -implicitDefEqProofs (maxSteps := 2000000) (disch := omega) only [drawC, ↓lenV, binV, optV, ↓loadV, ↓storeV, ↓fieldAddrV, ↓indexAddrV, ↓allocV, ↓buildV, ↓buildSliceV, ↓sliceV, ↓appendV, ↓srcV, bound, cutTag, hiTag, fillG, fillE, place, GVal.cells, grp, GVal.ofConst, ↓resV, resG, List.map, List.headD, List.take, List.drop, ↓reduceIte, Nat.reduceEqDiff, Nat.reduceAdd, Nat.reduceSub, Nat.reduceLeDiff, reduceCtorEq, implies_true, ne_eq, ↓asrcV, Tag.cap, List.replicate, allSolid, GVal.solid, Nat.reduceBEq, Nat.reduceMul, Nat.reduceLT, List.length_map, List.length_range, splice, vcA, ↓vcB, vcC, fbSpc, e21, spl_length, d0]
      refine vcSLoop_by (ι := { p : Nat × Nat × List Sp.S // p.1 ≤ L.length ∧ p.2.2 ++ Sp.cut (L.drop p.1) y = Sp.cut L y ∧ p.2.2.length ≤ 2 * p.1 }) (fun p => ⟨[.slice (spl L) .none, .slice (spl B) .none, .any, .any, .any, .int .i64 (k : Nat), .slice (spl p.1.2.2) (.tok 0 p.1.2.1), .int .i64 (p.1.1 : Nat)] ++ List.replicate 85 .any, [.tok p.1.2.1 2]⟩) (fun p => L.length - p.1.1) ?_ ?_
      · refine Into.tok 6 2 [] rfl rfl ?_
        simp +contextual -implicitDefEqProofs (maxSteps := 2000000) (disch := omega) only [drawC, ↓lenV, binV, optV, ↓loadV, ↓storeV, ↓fieldAddrV, ↓indexAddrV, ↓allocV, ↓buildV, ↓buildSliceV, ↓sliceV, ↓appendV, ↓srcV, bound, cutTag, hiTag, fillG, fillE, place, GVal.cells, grp, GVal.ofConst, ↓resV, resG, List.map, List.headD, List.take, List.drop, ↓reduceIte, Nat.reduceEqDiff, Nat.reduceAdd, Nat.reduceSub, Nat.reduceLeDiff, reduceCtorEq, implies_true, ne_eq, ↓asrcV, Tag.cap, List.replicate, allSolid, GVal.solid, Nat.reduceBEq, Nat.reduceMul, Nat.reduceLT, List.length_map, List.length_range, splice, vcA, ↓vcB, vcC, fbSpc, e21]
        intro t0
        exact Into.first ⟨(0, t0, []), by omega, by simp, by simp⟩ ⟨[], by simp⟩ (by simp [WL, leG_self, leG_any, leG_int, spl_nil])
      · rintro ⟨⟨i, v, out⟩, hi, he, hol⟩
        simp only [] at hi he hol
        by_cases h' : i < L.length
        · have d1 : ((i : Int) < (L.length : Int)) = True := eq_true (by omega)
          have eX := spl_at L i h'
          have hx := hok.at i
          have hx2 := hr.at i h'
          rw [drop_getD h', Sp.cut_cons] at he
          generalize L.getD i (0, 0) = x at *
          simp +contextual -implicitDefEqProofs (maxSteps := 2000000) (disch := omega) only [drawC, ↓lenV, binV, optV, ↓loadV, ↓storeV, ↓fieldAddrV, ↓indexAddrV, ↓allocV, ↓buildV, ↓buildSliceV, ↓sliceV, ↓appendV, ↓srcV, bound, cutTag, hiTag, fillG, fillE, place, GVal.cells, grp, GVal.ofConst, ↓resV, resG, List.map, List.headD, List.take, List.drop, ↓reduceIte, Nat.reduceEqDiff, Nat.reduceAdd, Nat.reduceSub, Nat.reduceLeDiff, reduceCtorEq, implies_true, ne_eq, ↓asrcV, Tag.cap, List.replicate, allSolid, GVal.solid, Nat.reduceBEq, Nat.reduceMul, Nat.reduceLT, List.length_map, List.length_range, splice, vcA, ↓vcB, vcC, fbSpc, e21, spl_length, d0, d1, eX, eY, spG, all_spl, List.length_append]
          refine ⟨by omega, fun st => ⟨by omega, fun h1 => ⟨by omega, by omega, fun st_1 => ?_⟩, fun h1 => ⟨by omega, fun h2 => ⟨by omega, by omega, fun st_1 => ?_⟩, fun h2 => ⟨by omega, fun h3 => ⟨by omega, by omega, by omega, fun st_1 => ⟨by omega, fun h4 => ⟨by omega, by omega, by omega, fun st_2 => ?_⟩, fun h4 => ?_⟩⟩, fun h3 => ⟨by omega, fun h4 => ⟨by omega, by omega, by omega, fun st_1 => ?_⟩, fun h4 => ?_⟩⟩⟩⟩⟩
          · rw [if_pos (by omega)] at he
            refine Into.at ⟨(i + 1, st_1, out ++ [x]), by show i + 1 ≤ _; omega, by rw [← he]; simp, by simp at *; omega⟩ (by show _ < _; simp; omega) ⟨[.row st 2 [[.int .i64 x.1, .int .i64 x.2]]], by simp⟩ ?_
            simp [WL, leG_self, leG_any, leG_int, leG_tok, spl_append, spl_cons, spl_nil, spG]
          · rw [if_pos (by omega)] at he
            refine Into.at ⟨(i + 1, st_1, out ++ [x]), by show i + 1 ≤ _; omega, by rw [← he]; simp, by simp at *; omega⟩ (by show _ < _; simp; omega) ⟨[.row st 2 [[.int .i64 x.1, .int .i64 x.2]]], by simp⟩ ?_
            simp [WL, leG_self, leG_any, leG_int, leG_tok, spl_append, spl_cons, spl_nil, spG]
          · rw [if_neg (by omega), if_pos h3, if_pos h4] at he
            refine Into.at ⟨(i + 1, st_2, out ++ [(x.1, y.1 - 1)] ++ [(y.2 + 1, x.2)]), by show i + 1 ≤ _; omega, by rw [← he]; simp, by simp at *; omega⟩ (by show _ < _; simp; omega) ⟨[.row st 2 [[.int .i64 x.1, .int .i64 x.2]]], by simp⟩ ?_
            simp [WL, leG_self, leG_any, leG_int, leG_tok, spl_append, spl_cons, spl_nil, spG]
          · rw [if_neg (by omega), if_pos h3, if_neg (by omega)] at he
            refine Into.at ⟨(i + 1, st_1, out ++ [(x.1, y.1 - 1)]), by show i + 1 ≤ _; omega, by rw [← he]; simp, by simp at *; omega⟩ (by show _ < _; simp; omega) ⟨[.row st 2 [[.int .i64 x.1, .int .i64 x.2]]], by simp⟩ ?_
            simp [WL, leG_self, leG_any, leG_int, leG_tok, spl_append, spl_cons, spl_nil, spG]
          · rw [if_neg (by omega), if_neg (by omega), if_pos h4] at he
            refine Into.at ⟨(i + 1, st_1, out ++ [(y.2 + 1, x.2)]), by show i + 1 ≤ _; omega, by rw [← he]; simp, by simp at *; omega⟩ (by show _ < _; simp; omega) ⟨[.row st 2 [[.int .i64 x.1, .int .i64 x.2]]], by simp⟩ ?_
            simp [WL, leG_self, leG_any, leG_int, leG_tok, spl_append, spl_cons, spl_nil, spG]
          · rw [if_neg (by omega), if_neg (by omega), if_neg (by omega)] at he
            refine Into.at ⟨(i + 1, v, out), by show i + 1 ≤ _; omega, by rw [← he]; simp, by simp at *; omega⟩ (by show _ < _; simp; omega) ⟨[.row st 2 [[.int .i64 x.1, .int .i64 x.2]]], by simp⟩ ?_
            simp [WL, leG_self, leG_any, leG_int, leG_tok, spl_append, spl_cons, spl_nil, spG]
        · have d1 : ((i : Int) < (L.length : Int)) = False := eq_false (by omega)
          rw [List.drop_of_length_le (by omega)] at he
          have he' : out = Sp.cut L y := by rw [← he]; simp [Sp.cut]
          subst he'
          simp +contextual -implicitDefEqProofs (maxSteps := 2000000) (disch := omega) only [drawC, ↓lenV, binV, optV, ↓loadV, ↓storeV, ↓fieldAddrV, ↓indexAddrV, ↓allocV, ↓buildV, ↓buildSliceV, ↓sliceV, ↓appendV, ↓srcV, bound, cutTag, hiTag, fillG, fillE, place, GVal.cells, grp, GVal.ofConst, ↓resV, resG, List.map, List.headD, List.take, List.drop, ↓reduceIte, Nat.reduceEqDiff, Nat.reduceAdd, Nat.reduceSub, Nat.reduceLeDiff, reduceCtorEq, implies_true, ne_eq, ↓asrcV, Tag.cap, List.replicate, allSolid, GVal.solid, Nat.reduceBEq, Nat.reduceMul, Nat.reduceLT, List.length_map, List.length_range, splice, vcA, ↓vcB, vcC, fbSpc, e21, spl_length, d0, d1, all_spl, false_imp_iff, true_and]
          exact Into.at ⟨(k + 1, Sp.cut L y), by show k + 1 ≤ _; omega, c1, c4, by show (Sp.cut L y).length ≤ A.length + (k + 1); omega, c5⟩ (by show _ < _; simp; omega) ⟨[.tok v 2], by simp⟩ (by simp [WL, leG_self, leG_any, leG_int, leG_none])
    · have d0 : ((k : Int) < (B.length : Int)) = False := eq_false (by omega)
      rw [List.take_of_length_le (l := B) (i := k) (by omega)] at hh
      simp +contextual -implicitDefEqProofs (maxSteps := 2000000) (disch := omega) only [drawC, ↓lenV, binV, optV, ↓loadV, ↓storeV, ↓fieldAddrV, ↓indexAddrV, ↓allocV, ↓buildV, ↓buildSliceV, ↓sliceV, ↓appendV, ↓srcV, bound, cutTag, hiTag, fillG, fillE, place, GVal.cells, grp, GVal.ofConst, ↓resV, resG, List.map, List.headD, List.take, List.drop, ↓reduceIte, Nat.reduceEqDiff, Nat.reduceAdd, Nat.reduceSub, Nat.reduceLeDiff, reduceCtorEq, implies_true, ne_eq, ↓asrcV, Tag.cap, List.replicate, allSolid, GVal.solid, Nat.reduceBEq, Nat.reduceMul, Nat.reduceLT, List.length_map, List.length_range, splice, vcA, ↓vcB, vcC, fbSpc, e21, spl_length, d0, all_spl, false_imp_iff, true_and]
      rw [fin L hr hh]
end Gv.Try
/- Sets of numbers: the laws of three sets. -/
set_option linter.unusedVariables false
namespace Gv.Sp
open Gv
/-- few spans, with ends that are numbers of the machine -/
def Lim (l : List S) (k : Nat) : Prop := l.length ≤ k ∧ Ok l
theorem Lim.ok {l : List S} {k : Nat} (h : Lim l k) : Ok l := h.2
theorem Lim.uni {a b : List S} {m n : Nat} (ha : Lim a m) (hb : Lim b n) : Lim (uni a b) (m + n) := ⟨by have := uni_len a b; have := ha.1; have := hb.1; omega, uni_ok ha.2 hb.2⟩
theorem Lim.both {a b : List S} {m n : Nat} (ha : Lim a m) (hb : Lim b n) : Lim (bothS a b) (m + n) := ⟨by have := bothS_len a b; have := ha.1; have := hb.1; omega, bothS_ok ha.2⟩
theorem Lim.minus {a b : List S} {m n : Nat} (ha : Lim a m) (hb : Lim b n) : Lim (minus a b) (m + n + 1) := ⟨by have := minus_len a b; have := ha.1; have := hb.1; omega, minus_ok ha.2⟩
theorem Lim.nf {a : List S} {m : Nat} (ha : Lim a m) : Lim (nf a) m := ⟨by have := nf_len a; have := ha.1; omega, nf_ok ha.2⟩
theorem Lim.le {a : List S} {m n : Nat} (ha : Lim a m) (h : m ≤ n) : Lim a n := ⟨by have := ha.1; omega, ha.2⟩
theorem eqv {a b : List S} (ha : Rt 0 a) (hb : Rt 0 b) (h : ∀ n, has a n ↔ has b n) : a = b := uniq ha hb (by omega) (by omega) h
variable {x y z : List S}
theorem apart_1 (hx : Ok x) (hy : Ok y) : bothS (minus x y) (minus y x) = [] := empty_of (bothS_rt _ _) fun n h => by
  rw [bothS_has, minus_has hx hy, minus_has hy hx] at h
  exact h.1.2 h.2.1
theorem apart_2 : uni (uni x y) z = uni x (uni z y) := eqv (uni_rt _ _) (uni_rt _ _) fun n => by
  simp only [uni_has]; constructor
  · rintro ((h | h) | h) <;> simp [h]
  · rintro (h | h | h) <;> simp [h]
theorem apart_3 (hx : Ok x) (hy : Ok y) : minus (uni x y) (bothS x y) = uni (minus x y) (minus y x) := eqv (minus_rt _ _) (uni_rt _ _) fun n => by
  rw [minus_has (uni_ok hx hy) (bothS_ok hx), uni_has, bothS_has, uni_has, minus_has hx hy, minus_has hy hx]
  by_cases h1 : has x n <;> by_cases h2 : has y n <;> simp [h1, h2]
theorem apart_4 (hx : Ok x) (hy : Ok y) (hz : Ok z) : minus x (uni y z) = minus (minus x z) y := eqv (minus_rt _ _) (minus_rt _ _) fun n => by
  rw [minus_has hx (uni_ok hy hz), uni_has, minus_has (minus_ok hx) hy, minus_has hx hz]
  by_cases h1 : has y n <;> by_cases h2 : has z n <;> simp [h1, h2]
theorem apart_5 (hx : Ok x) : minus x x = [] := empty_of (minus_rt _ _) fun n h => by
  rw [minus_has hx hx] at h; exact h.2 h.1
theorem ok_all : Ok [(0, 9223372036854775807)] := fun s hs => by simp at hs; subst hs; simp
theorem apart_6 (hx : Ok x) : bothS [(0, 9223372036854775807)] x = nf x := eqv (bothS_rt _ _) (nf_rt _) fun n => by
  rw [bothS_has, nf_has, has_cons, has_nil, or_false]
  constructor
  · exact fun h => h.2
  · refine fun h => ⟨⟨?_, ?_, hx.has h⟩, h⟩
    · obtain ⟨s, _, h1, _⟩ := h; exact h1
    · obtain ⟨s, _, h1, _⟩ := h; exact h1
end Gv.Sp
