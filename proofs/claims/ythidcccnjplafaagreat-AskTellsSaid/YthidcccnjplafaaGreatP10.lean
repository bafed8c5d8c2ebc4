/- Contracts: spans.Union, Both, rest, Minus. -/
import Derived.Test.YthidcccnjplafaaGreatP9
set_option linter.unusedVariables false
set_option linter.unusedSimpArgs false
set_option maxRecDepth 20000
set_option maxHeartbeats 4000000
namespace Gv.Tryz
open Go Gv Go.Proofs

theorem sGrow (n : Nat) (hn : n ≤ 4398046511104) : GCalls Tryz.prog 92 [.slice [] .nil, .int .i64 n] [] (fun g O' => (n = 0 ∧ g = .slice [] .nil ∧ O' = []) ∨ ∃ st xs, g = .own 0 st 0 0 ∧ O' = [.row st 2 xs]) := by
  refine h92.calls mixS (by simp) ?_
  simp only [gstart, s92, List.cons_append, List.nil_append, List.length_cons, List.length_nil, Nat.reduceAdd, Nat.reduceSub, List.replicate_succ, List.replicate_zero]
  have d0 : ((n : Int) < 0) = False := eq_false (by omega)
  simp +contextual -implicitDefEqProofs (maxSteps := 2000000) (disch := omega) only [↓lenV, binV, optV, ↓sliceV, ↓ifaceV, ↓appendV, ↓srcV, bound, cutTag, hiTag, GVal.cells, grp, GVal.ofConst, ↓resV, resG, List.map, List.headD, List.take, List.drop, ↓reduceIte, Nat.reduceEqDiff, Nat.reduceAdd, Nat.reduceSub, Nat.reduceLeDiff, reduceCtorEq, implies_true, ne_eq, ↓asrcV, ↓capV, Tag.cap, List.replicate, allSolid, GVal.solid, Nat.reduceBEq, Nat.reduceMul, Nat.reduceLT, List.length_map, List.length_range, splice, vcA, ↓vcB, vcC, fbFz, e92, d0, false_imp_iff, true_and]
  refine ⟨fun h => ⟨by omega, by omega, by omega, by omega, by omega, by omega, fun y hy => by rw [(List.mem_replicate.1 hy).2]; rfl, by simp; omega, by simp; omega, .inr trivial, fun st => ⟨by omega, by omega, by omega, .inr ⟨st, _, rfl, rfl⟩⟩⟩, fun h => .inl (by omega)⟩

theorem sConcat (a b : List Sp.S) (ta tb tt : Tag) (hl : a.length + b.length ≤ 4398046511104) : GPure Tryz.prog 76 [.slice [[.slice (spl a) ta], [.slice (spl b) tb]] tt] (.slice (spl (a ++ b)) .none) := by
  refine h76.pureF mixS (by simp) ?_
  simp only [gstart, s76, List.cons_append, List.nil_append, List.length_cons, List.length_nil, Nat.reduceAdd, Nat.reduceSub, List.replicate_succ, List.replicate_zero]
  simp +contextual -implicitDefEqProofs (maxSteps := 2000000) (disch := omega) only [↓lenV, binV, optV, ↓loadV, ↓indexAddrV, ↓sliceV, ↓ifaceV, ↓appendV, ↓srcV, bound, cutTag, hiTag, GVal.cells, grp, GVal.ofConst, ↓resV, resG, List.map, List.headD, List.take, List.drop, ↓reduceIte, Nat.reduceEqDiff, Nat.reduceAdd, Nat.reduceSub, Nat.reduceLeDiff, reduceCtorEq, implies_true, ne_eq, ↓asrcV, Tag.cap, List.replicate, allSolid, GVal.solid, Nat.reduceBEq, Nat.reduceMul, Nat.reduceLT, List.length_map, List.length_range, splice, vcA, ↓vcB, vcC, fbFz, e76]
  refine vcSLoop_by (ι := { p : Nat × Nat // (p.1 = 0 ∧ p.2 = 0) ∨ (p.1 = 1 ∧ p.2 = a.length) ∨ (p.1 = 2 ∧ p.2 = a.length + b.length) }) (fun p => ⟨[.slice [[.slice (spl a) ta], [.slice (spl b) tb]] tt, .any, .any, .int .i64 (p.1.2 : Nat), .any, .any, .any, .any, .any, .slice [[.slice (spl a) ta], [.slice (spl b) tb]] tt, .int .i64 2, .int .i64 (p.1.1 : Nat)] ++ List.replicate 24 .any, []⟩) (fun p => 2 - p.1.1) ?_ ?_
  · exact Into.first ⟨(0, 0), .inl ⟨rfl, rfl⟩⟩ ⟨[], by simp⟩ (by simp [WL, leG_self, leG_any])
  · rintro ⟨⟨k, n⟩, hk⟩
    simp only [] at hk
    rcases hk with ⟨rfl, rfl⟩ | ⟨rfl, rfl⟩ | ⟨rfl, rfl⟩
    · have d1 : ((0 : Int) + a.length < 0) = False := eq_false (by omega)
      simp +contextual -implicitDefEqProofs (maxSteps := 2000000) (disch := omega) only [↓lenV, binV, optV, ↓loadV, ↓indexAddrV, ↓sliceV, ↓ifaceV, ↓appendV, ↓srcV, bound, cutTag, hiTag, GVal.cells, grp, GVal.ofConst, ↓resV, resG, List.map, List.headD, List.take, List.drop, ↓reduceIte, Nat.reduceEqDiff, Nat.reduceAdd, Nat.reduceSub, Nat.reduceLeDiff, reduceCtorEq, implies_true, ne_eq, ↓asrcV, Tag.cap, List.replicate, allSolid, GVal.solid, Nat.reduceBEq, Nat.reduceMul, Nat.reduceLT, List.length_map, List.length_range, splice, vcA, ↓vcB, vcC, fbFz, e76, spl_length, Int.reduceLT, Int.reduceLE, Int.reduceToNat, true_imp_iff, false_imp_iff, d1]
      exact Into.at ⟨(1, a.length), .inr (.inl ⟨rfl, rfl⟩)⟩ (by show _ < _; simp) ⟨[], by simp⟩ (by simp [WL, leG_self, leG_any, leG_int])
    · have d1 : ((a.length : Int) + b.length < 0) = False := eq_false (by omega)
      simp +contextual -implicitDefEqProofs (maxSteps := 2000000) (disch := omega) only [↓lenV, binV, optV, ↓loadV, ↓indexAddrV, ↓sliceV, ↓ifaceV, ↓appendV, ↓srcV, bound, cutTag, hiTag, GVal.cells, grp, GVal.ofConst, ↓resV, resG, List.map, List.headD, List.take, List.drop, ↓reduceIte, Nat.reduceEqDiff, Nat.reduceAdd, Nat.reduceSub, Nat.reduceLeDiff, reduceCtorEq, implies_true, ne_eq, ↓asrcV, Tag.cap, List.replicate, allSolid, GVal.solid, Nat.reduceBEq, Nat.reduceMul, Nat.reduceLT, List.length_map, List.length_range, splice, vcA, ↓vcB, vcC, fbFz, e76, spl_length, Int.reduceLT, Int.reduceLE, Int.reduceToNat, true_imp_iff, false_imp_iff, d1]
      exact Into.at ⟨(2, a.length + b.length), .inr (.inr ⟨rfl, rfl⟩)⟩ (by show _ < _; simp) ⟨[], by simp⟩ (by simp [WL, leG_self, leG_any, leG_int])
    · simp +contextual -implicitDefEqProofs (maxSteps := 2000000) (disch := omega) only [↓lenV, binV, optV, ↓loadV, ↓indexAddrV, ↓sliceV, ↓ifaceV, ↓appendV, ↓srcV, bound, cutTag, hiTag, GVal.cells, grp, GVal.ofConst, ↓resV, resG, List.map, List.headD, List.take, List.drop, ↓reduceIte, Nat.reduceEqDiff, Nat.reduceAdd, Nat.reduceSub, Nat.reduceLeDiff, reduceCtorEq, implies_true, ne_eq, ↓asrcV, Tag.cap, List.replicate, allSolid, GVal.solid, Nat.reduceBEq, Nat.reduceMul, Nat.reduceLT, List.length_map, List.length_range, splice, vcA, ↓vcB, vcC, fbFz, e76, spl_length, Int.reduceLT, Int.reduceLE, Int.reduceToNat, true_imp_iff, false_imp_iff]
      have hg := sGrow (a.length + b.length) hl
      rw [Int.natCast_add] at hg
      refine hg.mono ?_
      clear hg
      rintro g O' hg
      simp +contextual -implicitDefEqProofs (maxSteps := 2000000) (disch := omega) only [↓lenV, binV, optV, ↓loadV, ↓indexAddrV, ↓sliceV, ↓ifaceV, ↓appendV, ↓srcV, bound, cutTag, hiTag, GVal.cells, grp, GVal.ofConst, ↓resV, resG, List.map, List.headD, List.take, List.drop, ↓reduceIte, Nat.reduceEqDiff, Nat.reduceAdd, Nat.reduceSub, Nat.reduceLeDiff, reduceCtorEq, implies_true, ne_eq, ↓asrcV, Tag.cap, List.replicate, allSolid, GVal.solid, Nat.reduceBEq, Nat.reduceMul, Nat.reduceLT, List.length_map, List.length_range, splice, vcA, ↓vcB, vcC, fbFz, e76]
      refine vcSLoop_by (ι := { p : Nat × List Sp.S × Nat × List (List GVal) // (p.1 = 0 ∧ p.2.1 = []) ∨ (p.1 = 1 ∧ p.2.1 = a ∧ p.2.2.2 = spl a) ∨ (p.1 = 2 ∧ p.2.1 = a ++ b ∧ p.2.2.2 = spl (a ++ b)) }) (fun p => ⟨[.any, .any, .any, .any, .any, .any, .own 0 p.1.2.2.1 0 p.1.2.1.length] ++ List.replicate 18 .any ++ [.slice [[.slice (spl a) ta], [.slice (spl b) tb]] tt, .int .i64 2, .int .i64 (p.1.1 : Nat)] ++ List.replicate 8 .any, [.row p.1.2.2.1 2 p.1.2.2.2]⟩) (fun p => 2 - p.1.1) ?_ ?_
      · rcases hg with ⟨_, rfl, rfl⟩ | ⟨st, xs, rfl, rfl⟩
        · refine Into.row 6 2 rfl rfl ?_
          simp +contextual -implicitDefEqProofs (maxSteps := 2000000) (disch := omega) only [↓lenV, binV, optV, ↓loadV, ↓indexAddrV, ↓sliceV, ↓ifaceV, ↓appendV, ↓srcV, bound, cutTag, hiTag, GVal.cells, grp, GVal.ofConst, ↓resV, resG, List.map, List.headD, List.take, List.drop, ↓reduceIte, Nat.reduceEqDiff, Nat.reduceAdd, Nat.reduceSub, Nat.reduceLeDiff, reduceCtorEq, implies_true, ne_eq, ↓asrcV, Tag.cap, List.replicate, allSolid, GVal.solid, Nat.reduceBEq, Nat.reduceMul, Nat.reduceLT, List.length_map, List.length_range, splice, vcA, ↓vcB, vcC, fbFz, e76]
          intro t0
          exact Into.first ⟨(0, [], t0, []), .inl ⟨rfl, rfl⟩⟩ ⟨[], by simp⟩ (by simp [WL, leG_self, leG_any])
        · exact Into.first ⟨(0, [], st, xs), .inl ⟨rfl, rfl⟩⟩ ⟨[], by simp⟩ (by simp [WL, leG_self, leG_any])
      · rintro ⟨⟨k, L, v, xs⟩, hk⟩
        simp only [] at hk
        rcases hk with ⟨rfl, rfl⟩ | ⟨rfl, rfl, rfl⟩ | ⟨rfl, rfl, rfl⟩
        · simp +contextual -implicitDefEqProofs (maxSteps := 2000000) (disch := omega) only [↓lenV, binV, optV, ↓loadV, ↓indexAddrV, ↓sliceV, ↓ifaceV, ↓appendV, ↓srcV, bound, cutTag, hiTag, GVal.cells, grp, GVal.ofConst, ↓resV, resG, List.map, List.headD, List.take, List.drop, ↓reduceIte, Nat.reduceEqDiff, Nat.reduceAdd, Nat.reduceSub, Nat.reduceLeDiff, reduceCtorEq, implies_true, ne_eq, ↓asrcV, Tag.cap, List.replicate, allSolid, GVal.solid, Nat.reduceBEq, Nat.reduceMul, Nat.reduceLT, List.length_map, List.length_range, splice, vcA, ↓vcB, vcC, fbFz, e76, spl_length, Int.reduceLT, Int.reduceLE, Int.reduceToNat, true_imp_iff, false_imp_iff, all_spl]
          exact ⟨by omega, by omega, by omega, fun st => Into.at ⟨(1, a, st, spl a), .inr (.inl ⟨rfl, rfl, rfl⟩)⟩ (by show _ < _; simp) ⟨[], by simp⟩ (by simp [WL, leG_self, leG_any, leG_int])⟩
        · simp +contextual -implicitDefEqProofs (maxSteps := 2000000) (disch := omega) only [↓lenV, binV, optV, ↓loadV, ↓indexAddrV, ↓sliceV, ↓ifaceV, ↓appendV, ↓srcV, bound, cutTag, hiTag, GVal.cells, grp, GVal.ofConst, ↓resV, resG, List.map, List.headD, List.take, List.drop, ↓reduceIte, Nat.reduceEqDiff, Nat.reduceAdd, Nat.reduceSub, Nat.reduceLeDiff, reduceCtorEq, implies_true, ne_eq, ↓asrcV, Tag.cap, List.replicate, allSolid, GVal.solid, Nat.reduceBEq, Nat.reduceMul, Nat.reduceLT, List.length_map, List.length_range, splice, vcA, ↓vcB, vcC, fbFz, e76, spl_length, Int.reduceLT, Int.reduceLE, Int.reduceToNat, true_imp_iff, false_imp_iff, all_spl]
          exact ⟨by omega, by omega, by omega, fun st => Into.at ⟨(2, L ++ b, st, spl (L ++ b)), .inr (.inr ⟨rfl, rfl, rfl⟩)⟩ (by show _ < _; simp) ⟨[], by rw [List.take_of_length_le (by rw [spl_length]; exact Nat.le_refl _), spl_append]; simp⟩ (by simp [WL, leG_self, leG_any, leG_int])⟩
        · simp +contextual -implicitDefEqProofs (maxSteps := 2000000) (disch := omega) only [↓lenV, binV, optV, ↓loadV, ↓indexAddrV, ↓sliceV, ↓ifaceV, ↓appendV, ↓srcV, bound, cutTag, hiTag, GVal.cells, grp, GVal.ofConst, ↓resV, resG, List.map, List.headD, List.take, List.drop, ↓reduceIte, Nat.reduceEqDiff, Nat.reduceAdd, Nat.reduceSub, Nat.reduceLeDiff, reduceCtorEq, implies_true, ne_eq, ↓asrcV, Tag.cap, List.replicate, allSolid, GVal.solid, Nat.reduceBEq, Nat.reduceMul, Nat.reduceLT, List.length_map, List.length_range, splice, vcA, ↓vcB, vcC, fbFz, e76, spl_length, Int.reduceLT, Int.reduceLE, Int.reduceToNat, true_imp_iff, false_imp_iff]
          exact ⟨4, .slice (spl (a ++ b)) .none, frz_own rfl (spl_length _).symm (frz_spl _ 2 _), by rw [leA_slice]⟩

theorem sBoth (a b : List Sp.S) (ta tb : Tag) (hl : a.length + b.length ≤ 4398046511104) (ha : Sp.Ok a) (hb : Sp.Ok b) : GPure Tryz.prog 57 [.slice (spl a) ta, .slice (spl b) tb] (.slice (spl (Sp.bothS a b)) .none) := by
  refine h57.pure mixS (by simp) ?_
  simp only [gstart, s57, List.cons_append, List.nil_append, List.length_cons, List.length_nil, Nat.reduceAdd, Nat.reduceSub, List.replicate_succ, List.replicate_zero]
  simp +contextual -implicitDefEqProofs (maxSteps := 2000000) (disch := omega) only [drawC, drawK, keepT, ↓lenV, binV, optV, ↓loadV, ↓storeV, ↓fieldAddrV, ↓indexAddrV, ↓allocV, ↓buildV, ↓buildSliceV, ↓sliceV, ↓appendV, ↓srcV, ↓minV, bound, cutTag, hiTag, fillG, fillE, place, GVal.cells, grp, GVal.ofConst, ↓resV, resG, List.map, List.headD, List.take, List.drop, ↓reduceIte, Nat.reduceEqDiff, Nat.reduceAdd, Nat.reduceSub, Nat.reduceLeDiff, reduceCtorEq, implies_true, ne_eq, ↓asrcV, Tag.cap, List.replicate, allSolid, GVal.solid, Nat.reduceBEq, Nat.reduceMul, Nat.reduceLT, List.length_map, List.length_range, splice, vcA, ↓vcB, vcC, fbFz, e57]
  refine (sMake a ta (by omega) ha).then ?_ (by rfl)
  simp +contextual -implicitDefEqProofs (maxSteps := 2000000) (disch := omega) only [drawC, drawK, keepT, ↓lenV, binV, optV, ↓loadV, ↓storeV, ↓fieldAddrV, ↓indexAddrV, ↓allocV, ↓buildV, ↓buildSliceV, ↓sliceV, ↓appendV, ↓srcV, ↓minV, bound, cutTag, hiTag, fillG, fillE, place, GVal.cells, grp, GVal.ofConst, ↓resV, resG, List.map, List.headD, List.take, List.drop, ↓reduceIte, Nat.reduceEqDiff, Nat.reduceAdd, Nat.reduceSub, Nat.reduceLeDiff, reduceCtorEq, implies_true, ne_eq, ↓asrcV, Tag.cap, List.replicate, allSolid, GVal.solid, Nat.reduceBEq, Nat.reduceMul, Nat.reduceLT, List.length_map, List.length_range, splice, vcA, ↓vcB, vcC, fbFz, e57]
  refine (sMake b tb (by omega) hb).then ?_ (by rfl)
  simp +contextual -implicitDefEqProofs (maxSteps := 2000000) (disch := omega) only [drawC, drawK, keepT, ↓lenV, binV, optV, ↓loadV, ↓storeV, ↓fieldAddrV, ↓indexAddrV, ↓allocV, ↓buildV, ↓buildSliceV, ↓sliceV, ↓appendV, ↓srcV, ↓minV, bound, cutTag, hiTag, fillG, fillE, place, GVal.cells, grp, GVal.ofConst, ↓resV, resG, List.map, List.headD, List.take, List.drop, ↓reduceIte, Nat.reduceEqDiff, Nat.reduceAdd, Nat.reduceSub, Nat.reduceLeDiff, reduceCtorEq, implies_true, ne_eq, ↓asrcV, Tag.cap, List.replicate, allSolid, GVal.solid, Nat.reduceBEq, Nat.reduceMul, Nat.reduceLT, List.length_map, List.length_range, splice, vcA, ↓vcB, vcC, fbFz, e57, spl_length]
  have hA := Sp.nf_len a
  have hB := Sp.nf_len b
  refine vcSLoop_by (ι := { p : List Sp.S × List Sp.S × List Sp.S × Nat // p.2.2.1 ++ Sp.both p.1 p.2.1 = Sp.bothS a b ∧ Sp.Ok p.1 ∧ Sp.Ok p.2.1 ∧ p.2.2.1.length + p.1.length + p.2.1.length ≤ a.length + b.length }) (fun p => ⟨[.slice (spl p.1.1) .none, .slice (spl p.1.2.1) .none, .any, .any, .any, .slice (spl p.1.2.2.1) (.tok 0 p.1.2.2.2)] ++ List.replicate 55 .any, [.tok p.1.2.2.2 2]⟩) (fun p => p.1.1.length + p.1.2.1.length) ?_ ?_
  · refine Into.tok 5 2 [] rfl rfl ?_
    simp +contextual -implicitDefEqProofs (maxSteps := 2000000) (disch := omega) only [drawC, drawK, keepT, ↓lenV, binV, optV, ↓loadV, ↓storeV, ↓fieldAddrV, ↓indexAddrV, ↓allocV, ↓buildV, ↓buildSliceV, ↓sliceV, ↓appendV, ↓srcV, ↓minV, bound, cutTag, hiTag, fillG, fillE, place, GVal.cells, grp, GVal.ofConst, ↓resV, resG, List.map, List.headD, List.take, List.drop, ↓reduceIte, Nat.reduceEqDiff, Nat.reduceAdd, Nat.reduceSub, Nat.reduceLeDiff, reduceCtorEq, implies_true, ne_eq, ↓asrcV, Tag.cap, List.replicate, allSolid, GVal.solid, Nat.reduceBEq, Nat.reduceMul, Nat.reduceLT, List.length_map, List.length_range, splice, vcA, ↓vcB, vcC, fbFz, e57]
    intro t0
    exact Into.first ⟨(Sp.nf a, Sp.nf b, [], t0), rfl, Sp.nf_ok ha, Sp.nf_ok hb, by simp <;> omega⟩ ⟨[], by simp⟩ (by simp [WL, leG_self, leG_any, spl_nil])
  · rintro ⟨⟨A, B, out, v⟩, he, hoA, hoB, hle⟩
    simp only [] at he hoA hoB hle
    cases A with
    | nil =>
      simp +contextual -implicitDefEqProofs (maxSteps := 2000000) (disch := omega) only [drawC, drawK, keepT, ↓lenV, binV, optV, ↓loadV, ↓storeV, ↓fieldAddrV, ↓indexAddrV, ↓allocV, ↓buildV, ↓buildSliceV, ↓sliceV, ↓appendV, ↓srcV, ↓minV, bound, cutTag, hiTag, fillG, fillE, place, GVal.cells, grp, GVal.ofConst, ↓resV, resG, List.map, List.headD, List.take, List.drop, ↓reduceIte, Nat.reduceEqDiff, Nat.reduceAdd, Nat.reduceSub, Nat.reduceLeDiff, reduceCtorEq, implies_true, ne_eq, ↓asrcV, Tag.cap, List.replicate, allSolid, GVal.solid, Nat.reduceBEq, Nat.reduceMul, Nat.reduceLT, List.length_map, List.length_range, splice, vcA, ↓vcB, vcC, fbFz, e57, spl_length, spl_nil]
      rw [Sp.both_nil, List.append_nil] at he
      exact ⟨fun h => by omega, fun _ => by rw [he]⟩
    | cons x A =>
      cases B with
      | nil =>
        simp +contextual -implicitDefEqProofs (maxSteps := 2000000) (disch := omega) only [drawC, drawK, keepT, ↓lenV, binV, optV, ↓loadV, ↓storeV, ↓fieldAddrV, ↓indexAddrV, ↓allocV, ↓buildV, ↓buildSliceV, ↓sliceV, ↓appendV, ↓srcV, ↓minV, bound, cutTag, hiTag, fillG, fillE, place, GVal.cells, grp, GVal.ofConst, ↓resV, resG, List.map, List.headD, List.take, List.drop, ↓reduceIte, Nat.reduceEqDiff, Nat.reduceAdd, Nat.reduceSub, Nat.reduceLeDiff, reduceCtorEq, implies_true, ne_eq, ↓asrcV, Tag.cap, List.replicate, allSolid, GVal.solid, Nat.reduceBEq, Nat.reduceMul, Nat.reduceLT, List.length_map, List.length_range, splice, vcA, ↓vcB, vcC, fbFz, e57, spl_length, spl_nil, spl_cons]
        rw [Sp.both_nil', List.append_nil] at he
        exact ⟨fun _ => ⟨fun h => by omega, fun _ => by rw [he]⟩, fun h => by omega⟩
      | cons y B =>
        have hx := hoA x (by simp)
        have hy := hoB y (by simp)
        have tA : ((A.length : Int) + 1).toNat = A.length + 1 := by omega
        have tB : ((B.length : Int) + 1).toNat = B.length + 1 := by omega
        have kA : (spl A).take A.length = spl A := List.take_of_length_le (by rw [spl_length]; exact Nat.le_refl _)
        have kB : (spl B).take B.length = spl B := List.take_of_length_le (by rw [spl_length]; exact Nat.le_refl _)
        simp +contextual -implicitDefEqProofs (maxSteps := 2000000) (disch := omega) only [drawC, drawK, keepT, ↓lenV, binV, optV, ↓loadV, ↓storeV, ↓fieldAddrV, ↓indexAddrV, ↓allocV, ↓buildV, ↓buildSliceV, ↓sliceV, ↓appendV, ↓srcV, ↓minV, bound, cutTag, hiTag, fillG, fillE, place, GVal.cells, grp, GVal.ofConst, ↓resV, resG, List.map, List.headD, List.take, List.drop, ↓reduceIte, Nat.reduceEqDiff, Nat.reduceAdd, Nat.reduceSub, Nat.reduceLeDiff, reduceCtorEq, implies_true, ne_eq, ↓asrcV, Tag.cap, List.replicate, allSolid, GVal.solid, Nat.reduceBEq, Nat.reduceMul, Nat.reduceLT, List.length_map, List.length_range, splice, vcA, ↓vcB, vcC, fbFz, e57, spl_length, spl_nil, spl_cons, spG, all_spl, Int.reduceToNat, tA, tB, kA, kB]
        rw [Sp.both_cons] at he
        simp only [List.length_cons] at hle
        refine ⟨fun _ => ⟨fun _ => ⟨by omega, by omega, by omega, by omega, fun st => ⟨⟨_, rfl⟩, fun h1 => ⟨by omega, by omega, fun st_1 => ⟨by omega, by omega, fun h2 => ⟨by omega, by omega, by omega, ?_⟩, fun h2 => ⟨by omega, by omega, by omega, ?_⟩⟩⟩, fun h1 => ⟨by omega, by omega, fun h2 => ⟨by omega, by omega, by omega, ?_⟩, fun h2 => ⟨by omega, by omega, by omega, ?_⟩⟩⟩⟩, fun h => by omega⟩, fun h => by omega⟩
        · rw [if_pos h1, if_pos h2] at he
          refine Into.at ⟨(A, y :: B, out ++ [(max x.1 y.1, min x.2 y.2)], st_1), by rw [← he]; simp, fun s hs => hoA s (by simp [hs]), hoB, by simp <;> omega⟩ (by show _ < _; simp <;> omega) ⟨[.row st 2 [[.int .i64 (max x.1 y.1), .int .i64 (min x.2 y.2)]]], by simp⟩ ?_
          simp [WL, leG_self, leG_any, spl_append, spl_cons, spl_nil, spG]
        · rw [if_pos h1, if_neg (by omega)] at he
          refine Into.at ⟨(x :: A, B, out ++ [(max x.1 y.1, min x.2 y.2)], st_1), by rw [← he]; simp, hoA, fun s hs => hoB s (by simp [hs]), by simp <;> omega⟩ (by show _ < _; simp) ⟨[.row st 2 [[.int .i64 (max x.1 y.1), .int .i64 (min x.2 y.2)]]], by simp⟩ ?_
          simp [WL, leG_self, leG_any, spl_append, spl_cons, spl_nil, spG]
        · rw [if_neg (by omega), if_pos h2] at he
          refine Into.at ⟨(A, y :: B, out, v), by rw [← he, List.nil_append], fun s hs => hoA s (by simp [hs]), hoB, by simp <;> omega⟩ (by show _ < _; simp <;> omega) ⟨[.row st 2 [[.int .i64 (max x.1 y.1), .int .i64 (min x.2 y.2)]]], by simp⟩ ?_
          simp [WL, leG_self, leG_any, spl_append, spl_cons, spl_nil, spG]
        · rw [if_neg (by omega), if_neg (by omega)] at he
          refine Into.at ⟨(x :: A, B, out, v), by rw [← he, List.nil_append], hoA, fun s hs => hoB s (by simp [hs]), by simp <;> omega⟩ (by show _ < _; simp) ⟨[.row st 2 [[.int .i64 (max x.1 y.1), .int .i64 (min x.2 y.2)]]], by simp⟩ ?_
          simp [WL, leG_self, leG_any, spl_append, spl_cons, spl_nil, spG]

theorem sRest (l : List Sp.S) (t : Tag) (hl : l.length ≤ 4398046511104) (ho : Sp.Ok l) : GPure Tryz.prog 77 [.slice (spl l) t] (.slice (spl (Sp.rest (Sp.nf l))) .none) := by
  refine h77.pure mixS (by simp) ?_
  simp only [gstart, s77, List.cons_append, List.nil_append, List.length_cons, List.length_nil, Nat.reduceAdd, Nat.reduceSub, List.replicate_succ, List.replicate_zero]
  simp +contextual -implicitDefEqProofs (maxSteps := 2000000) (disch := omega) only [↓lenV, binV, optV, ↓loadV, ↓storeV, ↓fieldAddrV, ↓indexAddrV, ↓allocV, ↓buildV, ↓buildSliceV, ↓sliceV, ↓appendV, ↓srcV, bound, cutTag, hiTag, fillG, fillE, place, GVal.cells, grp, GVal.ofConst, ↓resV, resG, List.map, List.headD, List.take, List.drop, ↓reduceIte, Nat.reduceEqDiff, Nat.reduceAdd, Nat.reduceSub, Nat.reduceLeDiff, reduceCtorEq, implies_true, ne_eq, ↓asrcV, aggV, Tag.cap, List.replicate, allSolid, GVal.solid, Nat.reduceBEq, Nat.reduceMul, Nat.reduceLT, List.length_map, List.length_range, splice, vcA, ↓vcB, vcC, fbFz, e77]
  refine (sMake l t (by omega) ho).then ?_ (by rfl)
  have hN := Sp.nf_len l
  have hoN := Sp.nf_ok ho
  have hrt := Sp.nf_rt l
  generalize Sp.nf l = N at *
  simp +contextual -implicitDefEqProofs (maxSteps := 2000000) (disch := omega) only [↓lenV, binV, optV, ↓loadV, ↓storeV, ↓fieldAddrV, ↓indexAddrV, ↓allocV, ↓buildV, ↓buildSliceV, ↓sliceV, ↓appendV, ↓srcV, bound, cutTag, hiTag, fillG, fillE, place, GVal.cells, grp, GVal.ofConst, ↓resV, resG, List.map, List.headD, List.take, List.drop, ↓reduceIte, Nat.reduceEqDiff, Nat.reduceAdd, Nat.reduceSub, Nat.reduceLeDiff, reduceCtorEq, implies_true, ne_eq, ↓asrcV, aggV, Tag.cap, List.replicate, allSolid, GVal.solid, Nat.reduceBEq, Nat.reduceMul, Nat.reduceLT, List.length_map, List.length_range, splice, vcA, ↓vcB, vcC, fbFz, e77, spl_length]
  refine vcSLoop_by (ι := { p : Nat × Nat × List Sp.S × Int // p.1 ≤ N.length ∧ p.2.2.1 ++ Sp.restF p.2.2.2 (N.drop p.1) = Sp.rest N ∧ 0 ≤ p.2.2.2 ∧ p.2.2.2 ≤ 9223372036854775807 ∧ p.2.2.1.length ≤ p.1 }) (fun p => ⟨[.any, .any, .any, .slice (spl p.1.2.2.1) (.tok 0 p.1.2.1), .int .i64 p.1.2.2.2, .any, .any, .any, .slice (spl N) .none, .int .i64 N.length, .int .i64 (p.1.1 : Nat)] ++ List.replicate 28 .any, [.tok p.1.2.1 2]⟩) (fun p => N.length - p.1.1) ?_ ?_
  · refine Into.tok 3 2 [] rfl rfl ?_
    simp +contextual -implicitDefEqProofs (maxSteps := 2000000) (disch := omega) only [↓lenV, binV, optV, ↓loadV, ↓storeV, ↓fieldAddrV, ↓indexAddrV, ↓allocV, ↓buildV, ↓buildSliceV, ↓sliceV, ↓appendV, ↓srcV, bound, cutTag, hiTag, fillG, fillE, place, GVal.cells, grp, GVal.ofConst, ↓resV, resG, List.map, List.headD, List.take, List.drop, ↓reduceIte, Nat.reduceEqDiff, Nat.reduceAdd, Nat.reduceSub, Nat.reduceLeDiff, reduceCtorEq, implies_true, ne_eq, ↓asrcV, aggV, Tag.cap, List.replicate, allSolid, GVal.solid, Nat.reduceBEq, Nat.reduceMul, Nat.reduceLT, List.length_map, List.length_range, splice, vcA, ↓vcB, vcC, fbFz, e77]
    intro t0
    exact Into.first ⟨(0, t0, [], 0), by omega, by simp [Sp.rest], by simp, by simp, by simp⟩ ⟨[], by simp⟩ (by simp [WL, leG_self, leG_any, spl_nil])
  · rintro ⟨⟨k, v, out, low⟩, hk, he, h0, h1, hol⟩
    simp only [] at hk he h0 h1 hol
    by_cases h : k < N.length
    · have d0 : ((k : Int) < (N.length : Int)) = True := eq_true (by omega)
      have eS := spl_at N k h
      have hs := hoN.at k
      have hs2 := hrt.at k h
      rw [drop_getD h] at he
      unfold Sp.restF at he
      generalize N.getD k (0, 0) = s at *
      simp +contextual -implicitDefEqProofs (maxSteps := 2000000) (disch := omega) only [↓lenV, binV, optV, ↓loadV, ↓storeV, ↓fieldAddrV, ↓indexAddrV, ↓allocV, ↓buildV, ↓buildSliceV, ↓sliceV, ↓appendV, ↓srcV, bound, cutTag, hiTag, fillG, fillE, place, GVal.cells, grp, GVal.ofConst, ↓resV, resG, List.map, List.headD, List.take, List.drop, ↓reduceIte, Nat.reduceEqDiff, Nat.reduceAdd, Nat.reduceSub, Nat.reduceLeDiff, reduceCtorEq, implies_true, ne_eq, ↓asrcV, aggV, Tag.cap, List.replicate, allSolid, GVal.solid, Nat.reduceBEq, Nat.reduceMul, Nat.reduceLT, List.length_map, List.length_range, splice, vcA, ↓vcB, vcC, fbFz, e77, spl_length, d0, eS, spG, all_spl]
      refine ⟨by omega, fun st => ⟨fun h2 => ⟨by omega, by omega, fun st_1 => ⟨fun h3 => ?_, fun h3 => ?_⟩⟩, fun h2 => ⟨fun h3 => ?_, fun h3 => ?_⟩⟩⟩
      · rw [if_pos h2, if_pos h3] at he
        rw [← he, spl_append, List.append_nil, spl_one]; rfl
      · rw [if_pos h2, if_neg h3] at he
        refine Into.at ⟨(k + 1, st_1, out ++ [(low, s.1 - 1)], s.2 + 1), by show k + 1 ≤ _; omega, by rw [← he]; simp, by show 0 ≤ s.2 + 1; omega, by show s.2 + 1 ≤ _; omega, by simp <;> omega⟩ (by show _ < _; simp; omega) ⟨[.row st 2 [[.int .i64 s.1, .int .i64 s.2]]], by simp⟩ ?_
        simp [WL, leG_self, leG_any, spl_append, spl_cons, spl_nil, spG]
      · rw [if_neg (by omega), if_pos h3] at he
        rw [← he]; simp
      · rw [if_neg (by omega), if_neg h3, List.nil_append] at he
        refine Into.at ⟨(k + 1, v, out, s.2 + 1), by show k + 1 ≤ _; omega, he, by show 0 ≤ s.2 + 1; omega, by show s.2 + 1 ≤ _; omega, by show out.length ≤ k + 1; omega⟩ (by show _ < _; simp; omega) ⟨[.row st 2 [[.int .i64 s.1, .int .i64 s.2]]], by simp⟩ ?_
        simp [WL, leG_self, leG_any, spl_append, spl_cons, spl_nil, spG]
    · have d0 : ((k : Int) < (N.length : Int)) = False := eq_false (by omega)
      simp +contextual -implicitDefEqProofs (maxSteps := 2000000) (disch := omega) only [↓lenV, binV, optV, ↓loadV, ↓storeV, ↓fieldAddrV, ↓indexAddrV, ↓allocV, ↓buildV, ↓buildSliceV, ↓sliceV, ↓appendV, ↓srcV, bound, cutTag, hiTag, fillG, fillE, place, GVal.cells, grp, GVal.ofConst, ↓resV, resG, List.map, List.headD, List.take, List.drop, ↓reduceIte, Nat.reduceEqDiff, Nat.reduceAdd, Nat.reduceSub, Nat.reduceLeDiff, reduceCtorEq, implies_true, ne_eq, ↓asrcV, aggV, Tag.cap, List.replicate, allSolid, GVal.solid, Nat.reduceBEq, Nat.reduceMul, Nat.reduceLT, List.length_map, List.length_range, splice, vcA, ↓vcB, vcC, fbFz, e77, spl_length, d0, all_spl, false_imp_iff, true_and]
      rw [List.drop_of_length_le (by omega)] at he
      exact ⟨by omega, by omega, fun _ => by rw [← he, spl_append]; rfl⟩

theorem sUnion (a b : List Sp.S) (ta tb : Tag) (hl : a.length + b.length ≤ 4398046511104) (ha : Sp.Ok a) (hb : Sp.Ok b) : GPure Tryz.prog 53 [.slice (spl a) ta, .slice (spl b) tb] (.slice (spl (Sp.uni a b)) .none) := by
  refine h53.pure mixS (by simp) ?_
  simp only [gstart, s53, List.cons_append, List.nil_append, List.length_cons, List.length_nil, Nat.reduceAdd, Nat.reduceSub, List.replicate_succ, List.replicate_zero]
  simp +contextual -implicitDefEqProofs (maxSteps := 2000000) (disch := omega) only [optV, ↓buildSliceV, ↓sliceV, bound, cutTag, hiTag, fillE, GVal.cells, grp, GVal.ofConst, ↓resV, resG, List.map, List.headD, List.take, List.drop, ↓reduceIte, Nat.reduceEqDiff, Nat.reduceAdd, Nat.reduceSub, Nat.reduceLeDiff, reduceCtorEq, implies_true, ne_eq, Tag.cap, List.replicate, allSolid, GVal.solid, Nat.reduceBEq, Nat.reduceMul, Nat.reduceLT, List.length_map, List.length_range, splice, vcA, ↓vcB, vcC, fbFz, e53]
  refine (sConcat a b ta tb _ hl).then ?_ (by rfl)
  simp +contextual -implicitDefEqProofs (maxSteps := 2000000) (disch := omega) only [optV, ↓buildSliceV, ↓sliceV, bound, cutTag, hiTag, fillE, GVal.cells, grp, GVal.ofConst, ↓resV, resG, List.map, List.headD, List.take, List.drop, ↓reduceIte, Nat.reduceEqDiff, Nat.reduceAdd, Nat.reduceSub, Nat.reduceLeDiff, reduceCtorEq, implies_true, ne_eq, Tag.cap, List.replicate, allSolid, GVal.solid, Nat.reduceBEq, Nat.reduceMul, Nat.reduceLT, List.length_map, List.length_range, splice, vcA, ↓vcB, vcC, fbFz, e53]
  refine (sMake (a ++ b) .none (by simp; omega) (ha.app hb)).then ?_ (by rfl)
  simp +contextual -implicitDefEqProofs (maxSteps := 2000000) (disch := omega) only [optV, ↓buildSliceV, ↓sliceV, bound, cutTag, hiTag, fillE, GVal.cells, grp, GVal.ofConst, ↓resV, resG, List.map, List.headD, List.take, List.drop, ↓reduceIte, Nat.reduceEqDiff, Nat.reduceAdd, Nat.reduceSub, Nat.reduceLeDiff, reduceCtorEq, implies_true, ne_eq, Tag.cap, List.replicate, allSolid, GVal.solid, Nat.reduceBEq, Nat.reduceMul, Nat.reduceLT, List.length_map, List.length_range, splice, vcA, ↓vcB, vcC, fbFz, e53]
  rfl

theorem sMinus (a b : List Sp.S) (ta tb : Tag) (hl : a.length + b.length < 4398046511104) (ha : Sp.Ok a) (hb : Sp.Ok b) : GPure Tryz.prog 54 [.slice (spl a) ta, .slice (spl b) tb] (.slice (spl (Sp.minus a b)) .none) := by
  have h1 := Sp.restF_len (Sp.nf b) 0
  have h2 := Sp.nf_len b
  refine h54.pure mixS (by simp) ?_
  simp only [gstart, s54, List.cons_append, List.nil_append, List.length_cons, List.length_nil, Nat.reduceAdd, Nat.reduceSub, List.replicate_succ, List.replicate_zero]
  simp +contextual -implicitDefEqProofs (maxSteps := 2000000) (disch := omega) only [optV, ↓sliceV, bound, cutTag, hiTag, GVal.cells, grp, GVal.ofConst, ↓resV, resG, List.map, List.headD, List.take, List.drop, ↓reduceIte, Nat.reduceEqDiff, Nat.reduceAdd, Nat.reduceSub, Nat.reduceLeDiff, reduceCtorEq, implies_true, ne_eq, Tag.cap, List.replicate, allSolid, GVal.solid, Nat.reduceBEq, Nat.reduceMul, Nat.reduceLT, List.length_map, List.length_range, splice, vcA, ↓vcB, vcC, fbFz, e54]
  refine (sRest b tb (by omega) hb).then ?_ (by rfl)
  simp +contextual -implicitDefEqProofs (maxSteps := 2000000) (disch := omega) only [optV, ↓sliceV, bound, cutTag, hiTag, GVal.cells, grp, GVal.ofConst, ↓resV, resG, List.map, List.headD, List.take, List.drop, ↓reduceIte, Nat.reduceEqDiff, Nat.reduceAdd, Nat.reduceSub, Nat.reduceLeDiff, reduceCtorEq, implies_true, ne_eq, Tag.cap, List.replicate, allSolid, GVal.solid, Nat.reduceBEq, Nat.reduceMul, Nat.reduceLT, List.length_map, List.length_range, splice, vcA, ↓vcB, vcC, fbFz, e54]
  refine (sBoth a (Sp.rest (Sp.nf b)) ta .none (by unfold Sp.rest; omega) ha (Sp.rest_ok (Sp.nf_rt b) (Sp.nf_ok hb))).then ?_ (by rfl)
  simp +contextual -implicitDefEqProofs (maxSteps := 2000000) (disch := omega) only [optV, ↓sliceV, bound, cutTag, hiTag, GVal.cells, grp, GVal.ofConst, ↓resV, resG, List.map, List.headD, List.take, List.drop, ↓reduceIte, Nat.reduceEqDiff, Nat.reduceAdd, Nat.reduceSub, Nat.reduceLeDiff, reduceCtorEq, implies_true, ne_eq, Tag.cap, List.replicate, allSolid, GVal.solid, Nat.reduceBEq, Nat.reduceMul, Nat.reduceLT, List.length_map, List.length_range, splice, vcA, ↓vcB, vcC, fbFz, e54]
  rfl

end Gv.Tryz
/- Contracts: the document's answer on spans: join, Make, Right, Union; Has, Count of both. -/
set_option linter.unusedVariables false
set_option linter.unusedSimpArgs false
set_option maxRecDepth 20000
set_option maxHeartbeats 4000000
namespace Gv.Tryz
open Go Gv Go.Proofs

theorem sJoin (l : List Sp.S) (t : Tag) (s : Sp.S) (hl : l.length ≤ 4398046511104) (ho : Sp.Ok l) (hr : Sp.Rt 0 l) (hs : 0 ≤ s.1 ∧ s.1 ≤ s.2 ∧ s.2 ≤ 9223372036854775807) : GPure Tryz.prog 84 [.slice (spl l) t, .agg (spG s)] (.slice (spl (Sp.ins l s)) .none) := by
  refine h84.pure mixS (by simp) ?_
  simp only [gstart, s84, List.cons_append, List.nil_append, List.length_cons, List.length_nil, Nat.reduceAdd, Nat.reduceSub, List.replicate_succ, List.replicate_zero]
  unfold spG
  simp +contextual -implicitDefEqProofs (maxSteps := 2000000) (disch := omega) only [↓lenV, binV, ↓unV, optV, ↓loadV, ↓storeV, ↓fieldAddrV, ↓indexAddrV, ↓allocV, ↓boxV, ↓buildV, ↓buildSliceV, ↓sliceV, ↓appendV, ↓srcV, ↓minV, bound, cutTag, hiTag, fillG, fillE, place, GVal.cells, grp, GVal.ofConst, ↓resV, resG, List.map, List.headD, List.take, List.drop, ↓reduceIte, Nat.reduceEqDiff, Nat.reduceAdd, Nat.reduceSub, Nat.reduceLeDiff, reduceCtorEq, implies_true, ne_eq, ↓asrcV, aggV, Tag.cap, List.replicate, allSolid, GVal.solid, Nat.reduceBEq, Nat.reduceMul, Nat.reduceLT, List.length_map, List.length_range, splice, vcA, ↓vcB, vcC, fbFz, e84, spl_length]
  intro st
  refine vcSLoop_by (ι := { p : Nat × Sp.S × Bool × List Sp.S × Nat // p.1 ≤ l.length ∧ p.2.2.2.1 ++ (if p.2.2.1 = true then l.drop p.1 else Sp.ins (l.drop p.1) p.2.1) = Sp.ins l s ∧ (0 ≤ p.2.1.1 ∧ p.2.1.1 ≤ p.2.1.2 ∧ p.2.1.2 ≤ 9223372036854775807) ∧ (p.2.2.1 = true → Sp.Rt (p.2.1.2 + 2) (l.drop p.1)) ∧ Sp.Rt 0 (l.drop p.1) ∧ p.2.2.2.1.length ≤ p.1 + p.2.2.1.toNat }) (fun p => ⟨[.slice (spl l) t, .any, .any, .ptr 0 st 0 0, .any, .slice (spl p.1.2.2.2.1) (.tok 1 p.1.2.2.2.2), .bool p.1.2.2.1, .int .i64 (p.1.1 : Nat)] ++ List.replicate 69 .any, [.row st 2 [[.int .i64 p.1.2.1.1, .int .i64 p.1.2.1.2]], .tok p.1.2.2.2.2 2]⟩) (fun p => l.length - p.1.1) ?_ ?_
  · refine Into.tok 5 2 [] rfl rfl ?_
    simp +contextual -implicitDefEqProofs (maxSteps := 2000000) (disch := omega) only [↓lenV, binV, ↓unV, optV, ↓loadV, ↓storeV, ↓fieldAddrV, ↓indexAddrV, ↓allocV, ↓boxV, ↓buildV, ↓buildSliceV, ↓sliceV, ↓appendV, ↓srcV, ↓minV, bound, cutTag, hiTag, fillG, fillE, place, GVal.cells, grp, GVal.ofConst, ↓resV, resG, List.map, List.headD, List.take, List.drop, ↓reduceIte, Nat.reduceEqDiff, Nat.reduceAdd, Nat.reduceSub, Nat.reduceLeDiff, reduceCtorEq, implies_true, ne_eq, ↓asrcV, aggV, Tag.cap, List.replicate, allSolid, GVal.solid, Nat.reduceBEq, Nat.reduceMul, Nat.reduceLT, List.length_map, List.length_range, splice, vcA, ↓vcB, vcC, fbFz, e84]
    intro t0
    exact Into.first ⟨(0, s, false, [], t0), by omega, by simp, hs, by simp, hr, by simp⟩ ⟨[], by simp⟩ (by simp [WL, leG_self, leG_any, spl_nil])
  · rintro ⟨⟨k, s', done, out, v⟩, hk, he, hs', hd, hrt, hol⟩
    simp only [] at hk he hs' hd hrt hol
    by_cases h : k < l.length
    · have d0 : ((k : Int) < (l.length : Int)) = True := eq_true (by omega)
      have eS := spl_at l k h
      have hx := ho.at k
      rw [drop_getD h] at he hd hrt
      generalize l.getD k (0, 0) = x at *
      obtain ⟨r1, r2, r3⟩ := hrt
      cases done with
      | true =>
        have hd' := (hd rfl).1
        have hd2 := (hd rfl).2.2
        have dA : (x.2 < s'.1 - 1) = False := eq_false (by omega)
        have dA2 : (x.2 < s'.1) = False := eq_false (by omega)
        have dB : (s'.2 < x.1 - 1) = True := eq_true (by omega)
        rw [if_pos rfl] at he
        simp +contextual -implicitDefEqProofs (maxSteps := 2000000) (disch := omega) only [↓lenV, binV, ↓unV, optV, ↓loadV, ↓storeV, ↓fieldAddrV, ↓indexAddrV, ↓allocV, ↓boxV, ↓buildV, ↓buildSliceV, ↓sliceV, ↓appendV, ↓srcV, ↓minV, bound, cutTag, hiTag, fillG, fillE, place, GVal.cells, grp, GVal.ofConst, ↓resV, resG, List.map, List.headD, List.take, List.drop, ↓reduceIte, Nat.reduceEqDiff, Nat.reduceAdd, Nat.reduceSub, Nat.reduceLeDiff, reduceCtorEq, implies_true, ne_eq, ↓asrcV, aggV, Tag.cap, List.replicate, allSolid, GVal.solid, Nat.reduceBEq, Nat.reduceMul, Nat.reduceLT, List.length_map, List.length_range, splice, vcA, ↓vcB, vcC, fbFz, e84, spl_length, d0, eS, spG, all_spl, dA, dA2, dB, false_imp_iff, true_and, true_imp_iff, and_true]
        refine ⟨by omega, fun st_1 => ⟨by simp at hol; omega, by simp at hol; omega, fun st_2 => ?_⟩⟩
        refine Into.at ⟨(k + 1, s', true, out ++ [x], st_2), by show k + 1 ≤ _; omega, by rw [if_pos rfl, ← he]; simp, hs', fun _ => hd2.weak (by show s'.2 + 2 ≤ _; omega), r3.weak (by omega), by simp at *; omega⟩ (by show _ < _; simp; omega) ⟨[.row st_1 2 [[.int .i64 x.1, .int .i64 x.2]]], by simp⟩ ?_
        simp [WL, leG_self, leG_any, spl_append, spl_cons, spl_nil, spG]
      | false =>
        rw [if_neg (by simp)] at he
        rw [Sp.ins_cons] at he
        by_cases cA : x.2 < s'.1 - 1
        · have dA : (x.2 < s'.1 - 1) = True := eq_true (by omega)
          rw [if_pos (by omega)] at he
          simp +contextual -implicitDefEqProofs (maxSteps := 2000000) (disch := omega) only [↓lenV, binV, ↓unV, optV, ↓loadV, ↓storeV, ↓fieldAddrV, ↓indexAddrV, ↓allocV, ↓boxV, ↓buildV, ↓buildSliceV, ↓sliceV, ↓appendV, ↓srcV, ↓minV, bound, cutTag, hiTag, fillG, fillE, place, GVal.cells, grp, GVal.ofConst, ↓resV, resG, List.map, List.headD, List.take, List.drop, ↓reduceIte, Nat.reduceEqDiff, Nat.reduceAdd, Nat.reduceSub, Nat.reduceLeDiff, reduceCtorEq, implies_true, ne_eq, ↓asrcV, aggV, Tag.cap, List.replicate, allSolid, GVal.solid, Nat.reduceBEq, Nat.reduceMul, Nat.reduceLT, List.length_map, List.length_range, splice, vcA, ↓vcB, vcC, fbFz, e84, spl_length, d0, eS, spG, all_spl, dA, false_imp_iff, true_and, true_imp_iff, and_true]
          refine ⟨by omega, fun st_1 => ⟨by simp at hol; omega, by simp at hol; omega, fun st_2 => ?_⟩⟩
          refine Into.at ⟨(k + 1, s', false, out ++ [x], st_2), by show k + 1 ≤ _; omega, by rw [if_neg (by simp), ← he]; simp, hs', by simp, r3.weak (by omega), by simp at *; omega⟩ (by show _ < _; simp; omega) ⟨[.row st_1 2 [[.int .i64 x.1, .int .i64 x.2]]], by simp⟩ ?_
          simp [WL, leG_self, leG_any, spl_append, spl_cons, spl_nil, spG]
        · have dA : (x.2 < s'.1 - 1) = False := eq_false (by omega)
          rw [if_neg (by omega)] at he
          have dd : (x.2 < s'.1) = False ∨ ((x.2 < s'.1) = True ∧ (s'.1 = 0) = False) := by
            by_cases c : x.2 < s'.1
            · exact .inr ⟨eq_true c, eq_false (by omega)⟩
            · exact .inl (eq_false c)
          by_cases cB : s'.2 < x.1 - 1
          · have dB : (s'.2 < x.1 - 1) = True := eq_true (by omega)
            rw [if_pos (by omega)] at he
            rcases dd with dA2 | ⟨dA2, dZ⟩
            · simp +contextual -implicitDefEqProofs (maxSteps := 2000000) (disch := omega) only [↓lenV, binV, ↓unV, optV, ↓loadV, ↓storeV, ↓fieldAddrV, ↓indexAddrV, ↓allocV, ↓boxV, ↓buildV, ↓buildSliceV, ↓sliceV, ↓appendV, ↓srcV, ↓minV, bound, cutTag, hiTag, fillG, fillE, place, GVal.cells, grp, GVal.ofConst, ↓resV, resG, List.map, List.headD, List.take, List.drop, ↓reduceIte, Nat.reduceEqDiff, Nat.reduceAdd, Nat.reduceSub, Nat.reduceLeDiff, reduceCtorEq, implies_true, ne_eq, ↓asrcV, aggV, Tag.cap, List.replicate, allSolid, GVal.solid, Nat.reduceBEq, Nat.reduceMul, Nat.reduceLT, List.length_map, List.length_range, splice, vcA, ↓vcB, vcC, fbFz, e84, spl_length, d0, eS, spG, all_spl, dA, dA2, dB, false_imp_iff, true_and, true_imp_iff, and_true, List.length_append]
              refine ⟨by omega, fun st_1 => ⟨by simp at hol; omega, by simp at hol; omega, fun st_2 => ⟨by simp at hol; omega, by simp at hol; omega, fun st_3 => ?_⟩⟩⟩
              refine Into.at ⟨(k + 1, s', true, out ++ [s'] ++ [x], st_3), by show k + 1 ≤ _; omega, by rw [if_pos rfl, ← he]; simp, hs', fun _ => r3.weak (by show s'.2 + 2 ≤ _; omega), r3.weak (by omega), by simp at *; omega⟩ (by show _ < _; simp; omega) ⟨[.row st_1 2 [[.int .i64 x.1, .int .i64 x.2]]], by simp⟩ ?_
              simp [WL, leG_self, leG_any, spl_append, spl_cons, spl_nil, spG]
            · simp +contextual -implicitDefEqProofs (maxSteps := 2000000) (disch := omega) only [↓lenV, binV, ↓unV, optV, ↓loadV, ↓storeV, ↓fieldAddrV, ↓indexAddrV, ↓allocV, ↓boxV, ↓buildV, ↓buildSliceV, ↓sliceV, ↓appendV, ↓srcV, ↓minV, bound, cutTag, hiTag, fillG, fillE, place, GVal.cells, grp, GVal.ofConst, ↓resV, resG, List.map, List.headD, List.take, List.drop, ↓reduceIte, Nat.reduceEqDiff, Nat.reduceAdd, Nat.reduceSub, Nat.reduceLeDiff, reduceCtorEq, implies_true, ne_eq, ↓asrcV, aggV, Tag.cap, List.replicate, allSolid, GVal.solid, Nat.reduceBEq, Nat.reduceMul, Nat.reduceLT, List.length_map, List.length_range, splice, vcA, ↓vcB, vcC, fbFz, e84, spl_length, d0, eS, spG, all_spl, dA, dA2, dZ, dB, false_imp_iff, true_and, true_imp_iff, and_true, List.length_append]
              refine ⟨by omega, fun st_1 => ⟨by simp at hol; omega, by simp at hol; omega, fun st_2 => ⟨by simp at hol; omega, by simp at hol; omega, fun st_3 => ?_⟩⟩⟩
              refine Into.at ⟨(k + 1, s', true, out ++ [s'] ++ [x], st_3), by show k + 1 ≤ _; omega, by rw [if_pos rfl, ← he]; simp, hs', fun _ => r3.weak (by show s'.2 + 2 ≤ _; omega), r3.weak (by omega), by simp at *; omega⟩ (by show _ < _; simp; omega) ⟨[.row st_1 2 [[.int .i64 x.1, .int .i64 x.2]]], by simp⟩ ?_
              simp [WL, leG_self, leG_any, spl_append, spl_cons, spl_nil, spG]
          · have dB : (s'.2 < x.1 - 1) = False := eq_false (by omega)
            rw [if_neg (by omega)] at he
            rcases dd with dA2 | ⟨dA2, dZ⟩
            · simp +contextual -implicitDefEqProofs (maxSteps := 2000000) (disch := omega) only [↓lenV, binV, ↓unV, optV, ↓loadV, ↓storeV, ↓fieldAddrV, ↓indexAddrV, ↓allocV, ↓boxV, ↓buildV, ↓buildSliceV, ↓sliceV, ↓appendV, ↓srcV, ↓minV, bound, cutTag, hiTag, fillG, fillE, place, GVal.cells, grp, GVal.ofConst, ↓resV, resG, List.map, List.headD, List.take, List.drop, ↓reduceIte, Nat.reduceEqDiff, Nat.reduceAdd, Nat.reduceSub, Nat.reduceLeDiff, reduceCtorEq, implies_true, ne_eq, ↓asrcV, aggV, Tag.cap, List.replicate, allSolid, GVal.solid, Nat.reduceBEq, Nat.reduceMul, Nat.reduceLT, List.length_map, List.length_range, splice, vcA, ↓vcB, vcC, fbFz, e84, spl_length, d0, eS, spG, all_spl, dA, dA2, dB, false_imp_iff, true_and, true_imp_iff, and_true]
              refine ⟨by omega, fun st_1 => ?_⟩
              refine Into.at ⟨(k + 1, (min s'.1 x.1, max s'.2 x.2), false, out, v), by show k + 1 ≤ _; omega, by rw [if_neg (by simp), ← he], by show 0 ≤ min _ _ ∧ min _ _ ≤ max _ _ ∧ max _ _ ≤ _; omega, by simp, r3.weak (by omega), by simp at *; omega⟩ (by show _ < _; simp; omega) ⟨[.row st_1 2 [[.int .i64 x.1, .int .i64 x.2]]], by simp⟩ ?_
              simp [WL, leG_self, leG_any, spl_append, spl_cons, spl_nil, spG]
            · simp +contextual -implicitDefEqProofs (maxSteps := 2000000) (disch := omega) only [↓lenV, binV, ↓unV, optV, ↓loadV, ↓storeV, ↓fieldAddrV, ↓indexAddrV, ↓allocV, ↓boxV, ↓buildV, ↓buildSliceV, ↓sliceV, ↓appendV, ↓srcV, ↓minV, bound, cutTag, hiTag, fillG, fillE, place, GVal.cells, grp, GVal.ofConst, ↓resV, resG, List.map, List.headD, List.take, List.drop, ↓reduceIte, Nat.reduceEqDiff, Nat.reduceAdd, Nat.reduceSub, Nat.reduceLeDiff, reduceCtorEq, implies_true, ne_eq, ↓asrcV, aggV, Tag.cap, List.replicate, allSolid, GVal.solid, Nat.reduceBEq, Nat.reduceMul, Nat.reduceLT, List.length_map, List.length_range, splice, vcA, ↓vcB, vcC, fbFz, e84, spl_length, d0, eS, spG, all_spl, dA, dA2, dZ, dB, false_imp_iff, true_and, true_imp_iff, and_true]
              refine ⟨by omega, fun st_1 => ?_⟩
              refine Into.at ⟨(k + 1, (min s'.1 x.1, max s'.2 x.2), false, out, v), by show k + 1 ≤ _; omega, by rw [if_neg (by simp), ← he], by show 0 ≤ min _ _ ∧ min _ _ ≤ max _ _ ∧ max _ _ ≤ _; omega, by simp, r3.weak (by omega), by simp at *; omega⟩ (by show _ < _; simp; omega) ⟨[.row st_1 2 [[.int .i64 x.1, .int .i64 x.2]]], by simp⟩ ?_
              simp [WL, leG_self, leG_any, spl_append, spl_cons, spl_nil, spG]
    · have d0 : ((k : Int) < (l.length : Int)) = False := eq_false (by omega)
      rw [List.drop_of_length_le (by omega)] at he
      cases done with
      | true =>
        simp +contextual -implicitDefEqProofs (maxSteps := 2000000) (disch := omega) only [↓lenV, binV, ↓unV, optV, ↓loadV, ↓storeV, ↓fieldAddrV, ↓indexAddrV, ↓allocV, ↓boxV, ↓buildV, ↓buildSliceV, ↓sliceV, ↓appendV, ↓srcV, ↓minV, bound, cutTag, hiTag, fillG, fillE, place, GVal.cells, grp, GVal.ofConst, ↓resV, resG, List.map, List.headD, List.take, List.drop, ↓reduceIte, Nat.reduceEqDiff, Nat.reduceAdd, Nat.reduceSub, Nat.reduceLeDiff, reduceCtorEq, implies_true, ne_eq, ↓asrcV, aggV, Tag.cap, List.replicate, allSolid, GVal.solid, Nat.reduceBEq, Nat.reduceMul, Nat.reduceLT, List.length_map, List.length_range, splice, vcA, ↓vcB, vcC, fbFz, e84, spl_length, d0, all_spl, false_imp_iff, true_and]
        rw [if_pos rfl, List.append_nil] at he
        rw [he]
      | false =>
        simp +contextual -implicitDefEqProofs (maxSteps := 2000000) (disch := omega) only [↓lenV, binV, ↓unV, optV, ↓loadV, ↓storeV, ↓fieldAddrV, ↓indexAddrV, ↓allocV, ↓boxV, ↓buildV, ↓buildSliceV, ↓sliceV, ↓appendV, ↓srcV, ↓minV, bound, cutTag, hiTag, fillG, fillE, place, GVal.cells, grp, GVal.ofConst, ↓resV, resG, List.map, List.headD, List.take, List.drop, ↓reduceIte, Nat.reduceEqDiff, Nat.reduceAdd, Nat.reduceSub, Nat.reduceLeDiff, reduceCtorEq, implies_true, ne_eq, ↓asrcV, aggV, Tag.cap, List.replicate, allSolid, GVal.solid, Nat.reduceBEq, Nat.reduceMul, Nat.reduceLT, List.length_map, List.length_range, splice, vcA, ↓vcB, vcC, fbFz, e84, spl_length, d0, all_spl, false_imp_iff, true_and]
        rw [if_neg (by simp)] at he
        exact ⟨by simp at hol; omega, by simp at hol; omega, fun _ => by rw [← he, spl_append]; rfl⟩

theorem sHas1 (s : Sp.S) (n : Int) : GPure Tryz.prog 67 [.agg (spG s), .ref [.int .i64 n]] (.bool (decide (s.1 ≤ n) && decide (n ≤ s.2))) := by
  refine h67.pure mixS (by simp) ?_
  simp only [gstart, s67, List.cons_append, List.nil_append, List.length_cons, List.length_nil, Nat.reduceAdd, Nat.reduceSub, List.replicate_succ, List.replicate_zero]
  unfold spG
  simp +contextual -implicitDefEqProofs (maxSteps := 2000000) (disch := omega) only [binV, ↓loadV, ↓fieldAddrV, ↓boxV, GVal.cells, grp, GVal.ofConst, ↓resV, resG, List.map, List.headD, List.take, List.drop, ↓reduceIte, Nat.reduceEqDiff, Nat.reduceAdd, Nat.reduceSub, Nat.reduceLeDiff, reduceCtorEq, implies_true, ne_eq, Tag.cap, List.replicate, allSolid, GVal.solid, Nat.reduceBEq, Nat.reduceMul, Nat.reduceLT, List.length_map, List.length_range, splice, vcA, ↓vcB, vcC, fbFz, e67]
  exact ⟨fun h => by simp [h], fun h => by simp; omega⟩

def inB (s : Sp.S) (n : Int) : Bool := decide (s.1 ≤ n) && decide (n ≤ s.2)
def idxB : List Sp.S → Int → Int → Int
  | [], _, _ => -1
  | s :: r, n, i => if inB s n = true then i else idxB r n (i + 1)
theorem idxB_cons (s : Sp.S) (r : List Sp.S) (n i : Int) : idxB (s :: r) n i = if inB s n = true then i else idxB r n (i + 1) := rfl
theorem idxB_ge : ∀ (l : List Sp.S) (n i : Int), 0 ≤ i → decide (0 ≤ idxB l n i) = l.any fun s => inB s n
  | [], n, i, h => by simp [idxB]
  | s :: r, n, i, h => by
    unfold idxB
    by_cases e : inB s n = true
    · simp [e, h]
    · rw [if_neg e, idxB_ge r n (i + 1) (by omega)]; simp [e]
theorem any_hasB {N : List Sp.S} (h : Sp.Rt 0 N) (n : Int) : (N.any fun s => inB s n) = Sp.hasB N n := by
  rw [Bool.eq_iff_iff, Sp.hasB_iff, List.any_eq_true]
  constructor
  · rintro ⟨s, hs, h1⟩
    simp only [inB, Bool.and_eq_true, decide_eq_true_eq] at h1
    have := h.mem hs
    exact ⟨s, hs, by omega, h1.1, h1.2⟩
  · rintro ⟨s, hs, h0, h1, h2⟩
    exact ⟨s, hs, by simp [inB, h1, h2]⟩

theorem sIndexF (l : List Sp.S) (t : Tag) (n : Int) (hl : l.length ≤ 4398046511104) : GPure Tryz.prog 85 [.slice (spl l) t, .func (.func 67) [] [.ref [.int .i64 n]]] (.int .i64 (idxB l n 0)) := by
  refine h85.pure mixS (by simp) ?_
  simp only [gstart, s85, List.cons_append, List.nil_append, List.length_cons, List.length_nil, Nat.reduceAdd, Nat.reduceSub, List.replicate_succ, List.replicate_zero]
  simp +contextual -implicitDefEqProofs (maxSteps := 2000000) (disch := omega) only [↓lenV, binV, ↓loadV, ↓indexAddrV, GVal.cells, grp, GVal.ofConst, ↓resV, resG, List.map, List.headD, List.take, List.drop, ↓reduceIte, Nat.reduceEqDiff, Nat.reduceAdd, Nat.reduceSub, Nat.reduceLeDiff, reduceCtorEq, implies_true, ne_eq, Tag.cap, List.replicate, allSolid, GVal.solid, Nat.reduceBEq, Nat.reduceMul, Nat.reduceLT, List.length_map, List.length_range, splice, vcA, ↓vcB, vcC, fbFz, e85, spl_length]
  refine vcSLoop_by (ι := { k : Nat // k ≤ l.length ∧ idxB (l.drop k) n k = idxB l n 0 }) (fun k => ⟨[.slice (spl l) t, .func (.func 67) [] [.ref [.int .i64 n]], .any, .any, .any, .any, .slice (spl l) t, .int .i64 l.length, .int .i64 (k.1 : Nat)] ++ List.replicate 10 .any, []⟩) (fun k => l.length - k.1) ?_ ?_
  · exact Into.first ⟨0, by omega, by simp⟩ ⟨[], by simp⟩ (by simp [WL, leG_self, leG_any, leG_int])
  · rintro ⟨k, hk, he⟩
    by_cases h : k < l.length
    · have d0 : ((k : Int) < (l.length : Int)) = True := eq_true (by omega)
      have eS := spl_at l k h
      rw [drop_getD h] at he
      generalize l.getD k (0, 0) = x at *
      simp +contextual -implicitDefEqProofs (maxSteps := 2000000) (disch := omega) only [↓lenV, binV, ↓loadV, ↓indexAddrV, GVal.cells, grp, GVal.ofConst, ↓resV, resG, List.map, List.headD, List.take, List.drop, ↓reduceIte, Nat.reduceEqDiff, Nat.reduceAdd, Nat.reduceSub, Nat.reduceLeDiff, reduceCtorEq, implies_true, ne_eq, Tag.cap, List.replicate, allSolid, GVal.solid, Nat.reduceBEq, Nat.reduceMul, Nat.reduceLT, List.length_map, List.length_range, splice, vcA, ↓vcB, vcC, fbFz, e85, spl_length, d0, eS, spG, all_spl]
      refine ⟨by omega, ?_⟩
      refine (sHas1 x n).then ?_ (by rfl)
      have e1 : (decide (x.1 ≤ n) && decide (n ≤ x.2)) = inB x n := rfl
      rw [e1]
      rw [idxB_cons] at he
      cases e : inB x n with
      | true =>
        rw [if_pos e] at he
        simp +contextual -implicitDefEqProofs (maxSteps := 2000000) (disch := omega) only [↓lenV, binV, ↓loadV, ↓indexAddrV, GVal.cells, grp, GVal.ofConst, ↓resV, resG, List.map, List.headD, List.take, List.drop, ↓reduceIte, Nat.reduceEqDiff, Nat.reduceAdd, Nat.reduceSub, Nat.reduceLeDiff, reduceCtorEq, implies_true, ne_eq, Tag.cap, List.replicate, allSolid, GVal.solid, Nat.reduceBEq, Nat.reduceMul, Nat.reduceLT, List.length_map, List.length_range, splice, vcA, ↓vcB, vcC, fbFz, e85, spl_length, d0, eS, spG, all_spl]
        rw [he]
      | false =>
        rw [if_neg (by rw [e]; simp)] at he
        simp +contextual -implicitDefEqProofs (maxSteps := 2000000) (disch := omega) only [↓lenV, binV, ↓loadV, ↓indexAddrV, GVal.cells, grp, GVal.ofConst, ↓resV, resG, List.map, List.headD, List.take, List.drop, ↓reduceIte, Nat.reduceEqDiff, Nat.reduceAdd, Nat.reduceSub, Nat.reduceLeDiff, reduceCtorEq, implies_true, ne_eq, Tag.cap, List.replicate, allSolid, GVal.solid, Nat.reduceBEq, Nat.reduceMul, Nat.reduceLT, List.length_map, List.length_range, splice, vcA, ↓vcB, vcC, fbFz, e85, spl_length, d0, eS, spG, all_spl]
        exact Into.at ⟨k + 1, by omega, by rw [← he]; simp⟩ (by show _ < _; simp; omega) ⟨[], by simp⟩ (by simp [WL, leG_self, leG_any, leG_int])
    · have d0 : ((k : Int) < (l.length : Int)) = False := eq_false (by omega)
      rw [List.drop_of_length_le (by omega)] at he
      simp +contextual -implicitDefEqProofs (maxSteps := 2000000) (disch := omega) only [↓lenV, binV, ↓loadV, ↓indexAddrV, GVal.cells, grp, GVal.ofConst, ↓resV, resG, List.map, List.headD, List.take, List.drop, ↓reduceIte, Nat.reduceEqDiff, Nat.reduceAdd, Nat.reduceSub, Nat.reduceLeDiff, reduceCtorEq, implies_true, ne_eq, Tag.cap, List.replicate, allSolid, GVal.solid, Nat.reduceBEq, Nat.reduceMul, Nat.reduceLT, List.length_map, List.length_range, splice, vcA, ↓vcB, vcC, fbFz, e85, spl_length, d0, all_spl, false_imp_iff, true_and]
      rw [← he]; rfl

theorem sContF (l : List Sp.S) (t : Tag) (n : Int) (hl : l.length ≤ 4398046511104) : GPure Tryz.prog 66 [.slice (spl l) t, .func (.func 67) [] [.ref [.int .i64 n]]] (.bool (l.any fun s => inB s n)) := by
  refine h66.pure mixS (by simp) ?_
  simp only [gstart, s66, List.cons_append, List.nil_append, List.length_cons, List.length_nil, Nat.reduceAdd, Nat.reduceSub, List.replicate_succ, List.replicate_zero]
  simp +contextual -implicitDefEqProofs (maxSteps := 2000000) (disch := omega) only [binV, GVal.cells, grp, GVal.ofConst, ↓resV, resG, List.map, List.headD, List.take, List.drop, ↓reduceIte, Nat.reduceEqDiff, Nat.reduceAdd, Nat.reduceSub, Nat.reduceLeDiff, reduceCtorEq, implies_true, ne_eq, Tag.cap, List.replicate, allSolid, GVal.solid, Nat.reduceBEq, Nat.reduceMul, Nat.reduceLT, List.length_map, List.length_range, splice, vcA, ↓vcB, vcC, fbFz, e66]
  refine (sIndexF l t n hl).then ?_ (by rfl)
  simp +contextual -implicitDefEqProofs (maxSteps := 2000000) (disch := omega) only [binV, GVal.cells, grp, GVal.ofConst, ↓resV, resG, List.map, List.headD, List.take, List.drop, ↓reduceIte, Nat.reduceEqDiff, Nat.reduceAdd, Nat.reduceSub, Nat.reduceLeDiff, reduceCtorEq, implies_true, ne_eq, Tag.cap, List.replicate, allSolid, GVal.solid, Nat.reduceBEq, Nat.reduceMul, Nat.reduceLT, List.length_map, List.length_range, splice, vcA, ↓vcB, vcC, fbFz, e66]
  rw [idxB_ge l n 0 (by omega)]

theorem sHas (l : List Sp.S) (t : Tag) (n : Int) (hl : l.length ≤ 4398046511104) (ho : Sp.Ok l) : GPure Tryz.prog 43 [.slice (spl l) t, .int .i64 n] (.bool (Sp.hasB l n)) := by
  have hN := Sp.nf_len l
  refine h43.pure mixS (by simp) ?_
  simp only [gstart, s43, List.cons_append, List.nil_append, List.length_cons, List.length_nil, Nat.reduceAdd, Nat.reduceSub, List.replicate_succ, List.replicate_zero]
  simp +contextual -implicitDefEqProofs (maxSteps := 2000000) (disch := omega) only [↓boxV, GVal.cells, grp, GVal.ofConst, ↓resV, resG, List.map, List.headD, List.take, List.drop, ↓reduceIte, Nat.reduceEqDiff, Nat.reduceAdd, Nat.reduceSub, Nat.reduceLeDiff, reduceCtorEq, implies_true, ne_eq, Tag.cap, List.replicate, allSolid, GVal.solid, Nat.reduceBEq, Nat.reduceMul, Nat.reduceLT, List.length_map, List.length_range, splice, vcA, ↓vcB, vcC, fbFz, e43]
  refine (sMake l t hl ho).then ?_ (by rfl)
  simp +contextual -implicitDefEqProofs (maxSteps := 2000000) (disch := omega) only [↓boxV, GVal.cells, grp, GVal.ofConst, ↓resV, resG, List.map, List.headD, List.take, List.drop, ↓reduceIte, Nat.reduceEqDiff, Nat.reduceAdd, Nat.reduceSub, Nat.reduceLeDiff, reduceCtorEq, implies_true, ne_eq, Tag.cap, List.replicate, allSolid, GVal.solid, Nat.reduceBEq, Nat.reduceMul, Nat.reduceLT, List.length_map, List.length_range, splice, vcA, ↓vcB, vcC, fbFz, e43]
  refine (sContF (Sp.nf l) .none n (by omega)).then ?_ (by rfl)
  simp +contextual -implicitDefEqProofs (maxSteps := 2000000) (disch := omega) only [↓boxV, GVal.cells, grp, GVal.ofConst, ↓resV, resG, List.map, List.headD, List.take, List.drop, ↓reduceIte, Nat.reduceEqDiff, Nat.reduceAdd, Nat.reduceSub, Nat.reduceLeDiff, reduceCtorEq, implies_true, ne_eq, Tag.cap, List.replicate, allSolid, GVal.solid, Nat.reduceBEq, Nat.reduceMul, Nat.reduceLT, List.length_map, List.length_range, splice, vcA, ↓vcB, vcC, fbFz, e43]
  rw [any_hasB (Sp.nf_rt l), Sp.hasB_eq (Sp.nf_has l n)]

theorem sMakeR (l : List Sp.S) (t : Tag) (hl : l.length ≤ 4398046511104) (ho : Sp.Ok l) : GPure Tryz.prog 65 [.slice (spl l) t] (.slice (spl (Sp.nf l)) .none) := by
  refine h65.pure mixS (by simp) ?_
  simp only [gstart, s65, List.cons_append, List.nil_append, List.length_cons, List.length_nil, Nat.reduceAdd, Nat.reduceSub, List.replicate_succ, List.replicate_zero]
  simp +contextual -implicitDefEqProofs (maxSteps := 2000000) (disch := omega) only [drawC, drawK, keepT, ↓lenV, binV, optV, ↓loadV, ↓storeV, ↓fieldAddrV, ↓indexAddrV, ↓allocV, ↓buildV, ↓sliceV, ↓minV, bound, cutTag, hiTag, fillG, place, GVal.cells, grp, GVal.ofConst, ↓resV, resG, List.map, List.headD, List.take, List.drop, ↓reduceIte, Nat.reduceEqDiff, Nat.reduceAdd, Nat.reduceSub, Nat.reduceLeDiff, reduceCtorEq, implies_true, ne_eq, Tag.cap, List.replicate, allSolid, GVal.solid, Nat.reduceBEq, Nat.reduceMul, Nat.reduceLT, List.length_map, List.length_range, splice, vcA, ↓vcB, vcC, fbFz, e65, spl_length]
  refine vcSLoop_by (ι := { p : Nat × List Sp.S // p.1 ≤ l.length ∧ Sp.nfA p.2 (l.drop p.1) = Sp.nf l ∧ Sp.Rt 0 p.2 ∧ Sp.Ok p.2 ∧ p.2.length ≤ p.1 }) (fun p => ⟨[.slice (spl l) t, .any, .any, .slice (spl p.1.2) .none, .int .i64 (p.1.1 : Nat)] ++ List.replicate 28 .any, []⟩) (fun p => l.length - p.1.1) ?_ ?_
  · exact Into.first ⟨(0, []), by omega, by simp [Sp.nf], trivial, Sp.Ok.nil, by simp⟩ ⟨[], by simp⟩ (by simp [WL, leG_self, leG_any, leG_int, leG_none, spl_nil])
  · rintro ⟨⟨k, acc⟩, hk, he, hr, hok, hal⟩
    simp only [] at hk he hr hok hal
    by_cases h : k < l.length
    · have d0 : ((k : Int) < (l.length : Int)) = True := eq_true (by omega)
      have eS := spl_at l k h
      have hx := ho.at k
      rw [drop_getD h] at he
      generalize l.getD k (0, 0) = x at *
      have hpl : (Sp.put acc x).length ≤ acc.length + 1 := by
        unfold Sp.put; split
        · exact Sp.ins_len _ _
        · omega
      have hpr := Sp.put_rt x hr
      have hpo : Sp.Ok (Sp.put acc x) := Sp.ok_of hpr (by omega) fun n hn => by
        rcases (Sp.put_has x hr n).1 hn with h' | h'
        · exact hok.has h'
        · omega
      change Sp.nfA (Sp.put acc x) (l.drop (k + 1)) = _ at he
      by_cases c : max 0 x.1 ≤ x.2
      · have d1 : (x.2 < max 0 x.1) = False := eq_false (by omega)
        have ep : Sp.put acc x = Sp.ins acc (max 0 x.1, x.2) := by unfold Sp.put; rw [if_pos (by omega), Int.max_comm]
        simp +contextual -implicitDefEqProofs (maxSteps := 2000000) (disch := omega) only [drawC, drawK, keepT, ↓lenV, binV, optV, ↓loadV, ↓storeV, ↓fieldAddrV, ↓indexAddrV, ↓allocV, ↓buildV, ↓sliceV, ↓minV, bound, cutTag, hiTag, fillG, place, GVal.cells, grp, GVal.ofConst, ↓resV, resG, List.map, List.headD, List.take, List.drop, ↓reduceIte, Nat.reduceEqDiff, Nat.reduceAdd, Nat.reduceSub, Nat.reduceLeDiff, reduceCtorEq, implies_true, ne_eq, Tag.cap, List.replicate, allSolid, GVal.solid, Nat.reduceBEq, Nat.reduceMul, Nat.reduceLT, List.length_map, List.length_range, splice, vcA, ↓vcB, vcC, fbFz, e65, spl_length, d0, d1, eS, spG, all_spl, false_imp_iff, true_and, true_imp_iff, and_true]
        refine ⟨by omega, by omega, fun st => ⟨⟨_, rfl⟩, ?_⟩⟩
        refine (sJoin acc .none (max 0 x.1, x.2) (by omega) hok hr ⟨by show 0 ≤ max _ _; omega, c, hx.2.2⟩).then ?_ (by rfl)
        rw [← ep]
        simp +contextual -implicitDefEqProofs (maxSteps := 2000000) (disch := omega) only [drawC, drawK, keepT, ↓lenV, binV, optV, ↓loadV, ↓storeV, ↓fieldAddrV, ↓indexAddrV, ↓allocV, ↓buildV, ↓sliceV, ↓minV, bound, cutTag, hiTag, fillG, place, GVal.cells, grp, GVal.ofConst, ↓resV, resG, List.map, List.headD, List.take, List.drop, ↓reduceIte, Nat.reduceEqDiff, Nat.reduceAdd, Nat.reduceSub, Nat.reduceLeDiff, reduceCtorEq, implies_true, ne_eq, Tag.cap, List.replicate, allSolid, GVal.solid, Nat.reduceBEq, Nat.reduceMul, Nat.reduceLT, List.length_map, List.length_range, splice, vcA, ↓vcB, vcC, fbFz, e65, spl_length, d0, eS, spG, all_spl]
        exact Into.at ⟨(k + 1, Sp.put acc x), by show k + 1 ≤ _; omega, he, hpr, hpo, by show (Sp.put acc x).length ≤ k + 1; omega⟩ (by show _ < _; simp; omega) ⟨[.row st 2 [[.int .i64 (max 0 x.1), .int .i64 x.2]]], by simp⟩ (by simp [WL, leG_self, leG_any, leG_int])
      · have d1 : (x.2 < max 0 x.1) = True := eq_true (by omega)
        have ep : Sp.put acc x = acc := by unfold Sp.put; rw [if_neg (by omega)]
        rw [ep] at he
        simp +contextual -implicitDefEqProofs (maxSteps := 2000000) (disch := omega) only [drawC, drawK, keepT, ↓lenV, binV, optV, ↓loadV, ↓storeV, ↓fieldAddrV, ↓indexAddrV, ↓allocV, ↓buildV, ↓sliceV, ↓minV, bound, cutTag, hiTag, fillG, place, GVal.cells, grp, GVal.ofConst, ↓resV, resG, List.map, List.headD, List.take, List.drop, ↓reduceIte, Nat.reduceEqDiff, Nat.reduceAdd, Nat.reduceSub, Nat.reduceLeDiff, reduceCtorEq, implies_true, ne_eq, Tag.cap, List.replicate, allSolid, GVal.solid, Nat.reduceBEq, Nat.reduceMul, Nat.reduceLT, List.length_map, List.length_range, splice, vcA, ↓vcB, vcC, fbFz, e65, spl_length, d0, d1, eS, spG, all_spl, false_imp_iff, true_and, true_imp_iff, and_true]
        refine ⟨by omega, by omega, fun st => ⟨⟨_, rfl⟩, ?_⟩⟩
        exact Into.at ⟨(k + 1, acc), by show k + 1 ≤ _; omega, he, hr, hok, by show acc.length ≤ k + 1; omega⟩ (by show _ < _; simp; omega) ⟨[.row st 2 [[.int .i64 (max 0 x.1), .int .i64 x.2]]], by simp⟩ (by simp [WL, leG_self, leG_any, leG_int])
    · have d0 : ((k : Int) < (l.length : Int)) = False := eq_false (by omega)
      rw [List.drop_of_length_le (by omega)] at he
      simp +contextual -implicitDefEqProofs (maxSteps := 2000000) (disch := omega) only [drawC, drawK, keepT, ↓lenV, binV, optV, ↓loadV, ↓storeV, ↓fieldAddrV, ↓indexAddrV, ↓allocV, ↓buildV, ↓sliceV, ↓minV, bound, cutTag, hiTag, fillG, place, GVal.cells, grp, GVal.ofConst, ↓resV, resG, List.map, List.headD, List.take, List.drop, ↓reduceIte, Nat.reduceEqDiff, Nat.reduceAdd, Nat.reduceSub, Nat.reduceLeDiff, reduceCtorEq, implies_true, ne_eq, Tag.cap, List.replicate, allSolid, GVal.solid, Nat.reduceBEq, Nat.reduceMul, Nat.reduceLT, List.length_map, List.length_range, splice, vcA, ↓vcB, vcC, fbFz, e65, spl_length, d0, all_spl, false_imp_iff, true_and]
      rw [← he]; rfl

theorem sHasR (l : List Sp.S) (t : Tag) (n : Int) (hl : l.length ≤ 4398046511104) (ho : Sp.Ok l) : GPure Tryz.prog 72 [.slice (spl l) t, .int .i64 n] (.bool (Sp.hasB l n)) := by
  refine h72.pure mixS (by simp) ?_
  simp only [gstart, s72, List.cons_append, List.nil_append, List.length_cons, List.length_nil, Nat.reduceAdd, Nat.reduceSub, List.replicate_succ, List.replicate_zero]
  simp +contextual -implicitDefEqProofs (maxSteps := 2000000) (disch := omega) only [↓lenV, binV, ↓loadV, ↓fieldAddrV, ↓indexAddrV, ↓minV, GVal.cells, grp, GVal.ofConst, ↓resV, resG, List.map, List.headD, List.take, List.drop, ↓reduceIte, Nat.reduceEqDiff, Nat.reduceAdd, Nat.reduceSub, Nat.reduceLeDiff, reduceCtorEq, implies_true, ne_eq, Tag.cap, List.replicate, allSolid, GVal.solid, Nat.reduceBEq, Nat.reduceMul, Nat.reduceLT, List.length_map, List.length_range, splice, vcA, ↓vcB, vcC, fbFz, e72, spl_length]
  refine vcSLoop_by (ι := { k : Nat // k ≤ l.length ∧ Sp.hasB (l.drop k) n = Sp.hasB l n }) (fun k => ⟨[.slice (spl l) t, .int .i64 n, .any, .any, .any, .int .i64 (k.1 : Nat)] ++ List.replicate 23 .any, []⟩) (fun k => l.length - k.1) ?_ ?_
  · exact Into.first ⟨0, by omega, by simp⟩ ⟨[], by simp⟩ (by simp [WL, leG_self, leG_any, leG_int])
  · rintro ⟨k, hk, he⟩
    by_cases h : k < l.length
    · have d0 : ((k : Int) < (l.length : Int)) = True := eq_true (by omega)
      have eS := spl_at l k h
      rw [drop_getD h, Sp.hasB_cons] at he
      generalize l.getD k (0, 0) = x at *
      simp +contextual -implicitDefEqProofs (maxSteps := 2000000) (disch := omega) only [↓lenV, binV, ↓loadV, ↓fieldAddrV, ↓indexAddrV, ↓minV, GVal.cells, grp, GVal.ofConst, ↓resV, resG, List.map, List.headD, List.take, List.drop, ↓reduceIte, Nat.reduceEqDiff, Nat.reduceAdd, Nat.reduceSub, Nat.reduceLeDiff, reduceCtorEq, implies_true, ne_eq, Tag.cap, List.replicate, allSolid, GVal.solid, Nat.reduceBEq, Nat.reduceMul, Nat.reduceLT, List.length_map, List.length_range, splice, vcA, ↓vcB, vcC, fbFz, e72, spl_length, d0, eS, spG, all_spl]
      refine ⟨by omega, fun h1 => ⟨by omega, fun h2 => ?_, fun h2 => ?_⟩, fun h1 => ?_⟩
      · rw [← he, decide_eq_true (p := (0 : Int) ≤ n) (by omega), decide_eq_true (p := x.1 ≤ n) (by omega), decide_eq_true (p := n ≤ x.2) h2]; rfl
      · refine Into.at ⟨k + 1, by omega, ?_⟩ (by show _ < _; simp; omega) ⟨[], by simp⟩ (by simp [WL, leG_self, leG_any, leG_int])
        rw [← he, decide_eq_false (p := n ≤ x.2) (by omega)]; simp
      · refine Into.at ⟨k + 1, by omega, ?_⟩ (by show _ < _; simp; omega) ⟨[], by simp⟩ (by simp [WL, leG_self, leG_any, leG_int])
        have : (decide (0 ≤ n) && (decide (x.1 ≤ n) && decide (n ≤ x.2))) = false := by simp; omega
        rw [← he, this, Bool.false_or]
    · have d0 : ((k : Int) < (l.length : Int)) = False := eq_false (by omega)
      rw [List.drop_of_length_le (by omega)] at he
      simp +contextual -implicitDefEqProofs (maxSteps := 2000000) (disch := omega) only [↓lenV, binV, ↓loadV, ↓fieldAddrV, ↓indexAddrV, ↓minV, GVal.cells, grp, GVal.ofConst, ↓resV, resG, List.map, List.headD, List.take, List.drop, ↓reduceIte, Nat.reduceEqDiff, Nat.reduceAdd, Nat.reduceSub, Nat.reduceLeDiff, reduceCtorEq, implies_true, ne_eq, Tag.cap, List.replicate, allSolid, GVal.solid, Nat.reduceBEq, Nat.reduceMul, Nat.reduceLT, List.length_map, List.length_range, splice, vcA, ↓vcB, vcC, fbFz, e72, spl_length, d0, all_spl, false_imp_iff, true_and]
      rw [← he]; rfl

end Gv.Tryz
/- Contracts: the document's answer on spans: Both, Minus. -/
set_option linter.unusedVariables false
set_option linter.unusedSimpArgs false
set_option maxRecDepth 20000
set_option maxHeartbeats 4000000
namespace Gv.Tryz
open Go Gv Go.Proofs

def meet (x y : Sp.S) : Sp.S := (max x.1 y.1, min x.2 y.2)
theorem meets_take (A B : List Sp.S) (i : Nat) (h : i < A.length) : Sp.meets (A.take (i + 1)) B = Sp.meets (A.take i) B ++ B.map (meet (A.getD i (0, 0))) := by
  rw [take_getD h]; simp only [Sp.meets, List.flatMap_append, List.flatMap_cons, List.flatMap_nil, List.append_nil]; rfl
theorem meets_len (A B : List Sp.S) : (Sp.meets A B).length = A.length * B.length := by
  induction A with
  | nil => simp [Sp.meets]
  | cons a r ih =>
    have : Sp.meets (a :: r) B = B.map (meet a) ++ Sp.meets r B := rfl
    rw [this, List.length_append, ih]; simp [Nat.succ_mul, Nat.add_comm]
theorem map_take (f : Sp.S → Sp.S) (B : List Sp.S) (k : Nat) (h : k < B.length) : (B.take (k + 1)).map f = (B.take k).map f ++ [f (B.getD k (0, 0))] := by
  rw [take_getD h]; simp

theorem sBothR (a b : List Sp.S) (ta tb : Tag) (hl : a.length ≤ 1000 ∧ b.length ≤ 1000) (ha : Sp.Ok a) (hb : Sp.Ok b) : GPure Tryz.prog 58 [.slice (spl a) ta, .slice (spl b) tb] (.slice (spl (Sp.bothS a b)) .none) := by
  refine h58.pure mixS (by simp) ?_
  simp only [gstart, s58, List.cons_append, List.nil_append, List.length_cons, List.length_nil, Nat.reduceAdd, Nat.reduceSub, List.replicate_succ, List.replicate_zero]
  simp +contextual -implicitDefEqProofs (maxSteps := 2000000) (disch := omega) only [drawC, drawK, keepT, ↓lenV, binV, optV, ↓loadV, ↓fieldAddrV, ↓indexAddrV, ↓buildV, ↓buildSliceV, ↓sliceV, ↓appendV, ↓srcV, ↓minV, bound, cutTag, hiTag, fillG, fillE, place, GVal.cells, grp, GVal.ofConst, ↓resV, resG, List.map, List.headD, List.take, List.drop, ↓reduceIte, Nat.reduceEqDiff, Nat.reduceAdd, Nat.reduceSub, Nat.reduceLeDiff, reduceCtorEq, implies_true, ne_eq, ↓asrcV, Tag.cap, List.replicate, allSolid, GVal.solid, Nat.reduceBEq, Nat.reduceMul, Nat.reduceLT, List.length_map, List.length_range, splice, vcA, ↓vcB, vcC, fbFz, e58]
  refine (sMakeR a ta (by omega) ha).then ?_ (by rfl)
  simp +contextual -implicitDefEqProofs (maxSteps := 2000000) (disch := omega) only [drawC, drawK, keepT, ↓lenV, binV, optV, ↓loadV, ↓fieldAddrV, ↓indexAddrV, ↓buildV, ↓buildSliceV, ↓sliceV, ↓appendV, ↓srcV, ↓minV, bound, cutTag, hiTag, fillG, fillE, place, GVal.cells, grp, GVal.ofConst, ↓resV, resG, List.map, List.headD, List.take, List.drop, ↓reduceIte, Nat.reduceEqDiff, Nat.reduceAdd, Nat.reduceSub, Nat.reduceLeDiff, reduceCtorEq, implies_true, ne_eq, ↓asrcV, Tag.cap, List.replicate, allSolid, GVal.solid, Nat.reduceBEq, Nat.reduceMul, Nat.reduceLT, List.length_map, List.length_range, splice, vcA, ↓vcB, vcC, fbFz, e58]
  refine (sMakeR b tb (by omega) hb).then ?_ (by rfl)
  have hA := Sp.nf_len a
  have hB := Sp.nf_len b
  have oA := Sp.nf_ok ha
  have oB := Sp.nf_ok hb
  have fin : Sp.nf (Sp.meets (Sp.nf a) (Sp.nf b)) = Sp.bothS a b := Sp.nf_eq (Sp.bothS_rt a b) fun n => by rw [Sp.meets_has, Sp.bothS_has, Sp.nf_has, Sp.nf_has]
  generalize Sp.nf a = A at *
  generalize Sp.nf b = B at *
  simp +contextual -implicitDefEqProofs (maxSteps := 2000000) (disch := omega) only [drawC, drawK, keepT, ↓lenV, binV, optV, ↓loadV, ↓fieldAddrV, ↓indexAddrV, ↓buildV, ↓buildSliceV, ↓sliceV, ↓appendV, ↓srcV, ↓minV, bound, cutTag, hiTag, fillG, fillE, place, GVal.cells, grp, GVal.ofConst, ↓resV, resG, List.map, List.headD, List.take, List.drop, ↓reduceIte, Nat.reduceEqDiff, Nat.reduceAdd, Nat.reduceSub, Nat.reduceLeDiff, reduceCtorEq, implies_true, ne_eq, ↓asrcV, Tag.cap, List.replicate, allSolid, GVal.solid, Nat.reduceBEq, Nat.reduceMul, Nat.reduceLT, List.length_map, List.length_range, splice, vcA, ↓vcB, vcC, fbFz, e58, spl_length]
  refine vcSLoop_by (ι := { p : Nat × Nat // p.1 ≤ A.length }) (fun p => ⟨[.slice (spl A) .none, .slice (spl B) .none, .any, .any, .any, .slice (spl (Sp.meets (A.take p.1.1) B)) (.tok 0 p.1.2), .int .i64 (p.1.1 : Nat)] ++ List.replicate 45 .any, [.tok p.1.2 2]⟩) (fun p => A.length - p.1.1) ?_ ?_
  · refine Into.tok 5 2 [] rfl rfl ?_
    simp +contextual -implicitDefEqProofs (maxSteps := 2000000) (disch := omega) only [drawC, drawK, keepT, ↓lenV, binV, optV, ↓loadV, ↓fieldAddrV, ↓indexAddrV, ↓buildV, ↓buildSliceV, ↓sliceV, ↓appendV, ↓srcV, ↓minV, bound, cutTag, hiTag, fillG, fillE, place, GVal.cells, grp, GVal.ofConst, ↓resV, resG, List.map, List.headD, List.take, List.drop, ↓reduceIte, Nat.reduceEqDiff, Nat.reduceAdd, Nat.reduceSub, Nat.reduceLeDiff, reduceCtorEq, implies_true, ne_eq, ↓asrcV, Tag.cap, List.replicate, allSolid, GVal.solid, Nat.reduceBEq, Nat.reduceMul, Nat.reduceLT, List.length_map, List.length_range, splice, vcA, ↓vcB, vcC, fbFz, e58]
    intro t0
    exact Into.first ⟨(0, t0), by omega⟩ ⟨[], by simp⟩ (by simp [WL, leG_self, leG_any, spl_nil, Sp.meets])
  · rintro ⟨⟨i, v⟩, hi⟩
    simp only [] at hi
    have hml := meets_len (A.take i) B
    rw [List.length_take, Nat.min_eq_left hi] at hml
    have hm1 : i * B.length ≤ 1000 * 1000 := Nat.mul_le_mul (by omega) (by omega)
    by_cases h : i < A.length
    · have d0 : ((i : Int) < (A.length : Int)) = True := eq_true (by omega)
      have eX := spl_at A i h
      have hx := oA.at i
      have eM := meets_take A B i h
      generalize A.getD i (0, 0) = x at *
      generalize Sp.meets (A.take i) B = M at *
      simp +contextual -implicitDefEqProofs (maxSteps := 2000000) (disch := omega) only [drawC, drawK, keepT, ↓lenV, binV, optV, ↓loadV, ↓fieldAddrV, ↓indexAddrV, ↓buildV, ↓buildSliceV, ↓sliceV, ↓appendV, ↓srcV, ↓minV, bound, cutTag, hiTag, fillG, fillE, place, GVal.cells, grp, GVal.ofConst, ↓resV, resG, List.map, List.headD, List.take, List.drop, ↓reduceIte, Nat.reduceEqDiff, Nat.reduceAdd, Nat.reduceSub, Nat.reduceLeDiff, reduceCtorEq, implies_true, ne_eq, ↓asrcV, Tag.cap, List.replicate, allSolid, GVal.solid, Nat.reduceBEq, Nat.reduceMul, Nat.reduceLT, List.length_map, List.length_range, splice, vcA, ↓vcB, vcC, fbFz, e58, spl_length, d0]
      refine vcSLoop_by (ι := { p : Nat × Nat // p.1 ≤ B.length }) (fun p => ⟨[.slice (spl A) .none, .slice (spl B) .none, .any, .any, .any, .slice (spl (M ++ (B.take p.1.1).map (meet x))) (.tok 0 p.1.2), .int .i64 (i : Nat), .int .i64 (p.1.1 : Nat)] ++ List.replicate 44 .any, [.tok p.1.2 2]⟩) (fun p => B.length - p.1.1) ?_ ?_
      · exact Into.first ⟨(0, v), by omega⟩ ⟨[], by simp⟩ (by simp [WL, leG_self, leG_any, leG_int])
      · rintro ⟨⟨k, u⟩, hk⟩
        simp only [] at hk
        by_cases h' : k < B.length
        · have d1 : ((k : Int) < (B.length : Int)) = True := eq_true (by omega)
          have eY := spl_at B k h'
          have hy := oB.at k
          have eN := map_take (meet x) B k h'
          generalize B.getD k (0, 0) = y at *
          have hz : ((B.take k).map (meet x)).length ≤ 1000 := by simp; omega
          generalize (B.take k).map (meet x) = Z at *
          simp +contextual -implicitDefEqProofs (maxSteps := 2000000) (disch := omega) only [drawC, drawK, keepT, ↓lenV, binV, optV, ↓loadV, ↓fieldAddrV, ↓indexAddrV, ↓buildV, ↓buildSliceV, ↓sliceV, ↓appendV, ↓srcV, ↓minV, bound, cutTag, hiTag, fillG, fillE, place, GVal.cells, grp, GVal.ofConst, ↓resV, resG, List.map, List.headD, List.take, List.drop, ↓reduceIte, Nat.reduceEqDiff, Nat.reduceAdd, Nat.reduceSub, Nat.reduceLeDiff, reduceCtorEq, implies_true, ne_eq, ↓asrcV, Tag.cap, List.replicate, allSolid, GVal.solid, Nat.reduceBEq, Nat.reduceMul, Nat.reduceLT, List.length_map, List.length_range, splice, vcA, ↓vcB, vcC, fbFz, e58, spl_length, d0, d1, eX, eY, spG, all_spl, List.length_append]
          refine ⟨by omega, by omega, by omega, by omega, by omega, by omega, fun st => ?_⟩
          refine Into.at ⟨(k + 1, st), by show k + 1 ≤ _; omega⟩ (by show _ < _; simp; omega) ⟨[], by simp⟩ ?_
          have e2 : meet x y = (max x.1 y.1, min x.2 y.2) := rfl
          simp [WL, leG_self, leG_any, leG_int, leG_tok, eN, spl_append, spl_cons, spl_nil, spG, e2]
        · have d1 : ((k : Int) < (B.length : Int)) = False := eq_false (by omega)
          rw [List.take_of_length_le (l := B) (i := k) (by omega), ← eM]
          simp +contextual -implicitDefEqProofs (maxSteps := 2000000) (disch := omega) only [drawC, drawK, keepT, ↓lenV, binV, optV, ↓loadV, ↓fieldAddrV, ↓indexAddrV, ↓buildV, ↓buildSliceV, ↓sliceV, ↓appendV, ↓srcV, ↓minV, bound, cutTag, hiTag, fillG, fillE, place, GVal.cells, grp, GVal.ofConst, ↓resV, resG, List.map, List.headD, List.take, List.drop, ↓reduceIte, Nat.reduceEqDiff, Nat.reduceAdd, Nat.reduceSub, Nat.reduceLeDiff, reduceCtorEq, implies_true, ne_eq, ↓asrcV, Tag.cap, List.replicate, allSolid, GVal.solid, Nat.reduceBEq, Nat.reduceMul, Nat.reduceLT, List.length_map, List.length_range, splice, vcA, ↓vcB, vcC, fbFz, e58, spl_length, d0, d1, all_spl, false_imp_iff, true_and]
          exact Into.at ⟨(i + 1, u), by show i + 1 ≤ _; omega⟩ (by show _ < _; simp; omega) ⟨[], by simp⟩ (by simp [WL, leG_self, leG_any, leG_int])
    · have d0 : ((i : Int) < (A.length : Int)) = False := eq_false (by omega)
      rw [List.take_of_length_le (l := A) (i := i) (by omega)] at hml ⊢
      have hok : Sp.Ok (Sp.meets A B) := by
        intro s hs
        simp only [Sp.meets, List.mem_flatMap, List.mem_map] at hs
        obtain ⟨x, hx, y, hy, rfl⟩ := hs
        have := oA x hx
        have := oB y hy
        exact ⟨by show _ ≤ max _ _ ∧ max _ _ ≤ _; omega, by show _ ≤ min _ _ ∧ min _ _ ≤ _; omega⟩
      simp +contextual -implicitDefEqProofs (maxSteps := 2000000) (disch := omega) only [drawC, drawK, keepT, ↓lenV, binV, optV, ↓loadV, ↓fieldAddrV, ↓indexAddrV, ↓buildV, ↓buildSliceV, ↓sliceV, ↓appendV, ↓srcV, ↓minV, bound, cutTag, hiTag, fillG, fillE, place, GVal.cells, grp, GVal.ofConst, ↓resV, resG, List.map, List.headD, List.take, List.drop, ↓reduceIte, Nat.reduceEqDiff, Nat.reduceAdd, Nat.reduceSub, Nat.reduceLeDiff, reduceCtorEq, implies_true, ne_eq, ↓asrcV, Tag.cap, List.replicate, allSolid, GVal.solid, Nat.reduceBEq, Nat.reduceMul, Nat.reduceLT, List.length_map, List.length_range, splice, vcA, ↓vcB, vcC, fbFz, e58, spl_length, d0, all_spl, false_imp_iff, true_and]
      refine (sMakeR (Sp.meets A B) _ (by omega) hok).then ?_ (by rfl)
      simp +contextual -implicitDefEqProofs (maxSteps := 2000000) (disch := omega) only [drawC, drawK, keepT, ↓lenV, binV, optV, ↓loadV, ↓fieldAddrV, ↓indexAddrV, ↓buildV, ↓buildSliceV, ↓sliceV, ↓appendV, ↓srcV, ↓minV, bound, cutTag, hiTag, fillG, fillE, place, GVal.cells, grp, GVal.ofConst, ↓resV, resG, List.map, List.headD, List.take, List.drop, ↓reduceIte, Nat.reduceEqDiff, Nat.reduceAdd, Nat.reduceSub, Nat.reduceLeDiff, reduceCtorEq, implies_true, ne_eq, ↓asrcV, Tag.cap, List.replicate, allSolid, GVal.solid, Nat.reduceBEq, Nat.reduceMul, Nat.reduceLT, List.length_map, List.length_range, splice, vcA, ↓vcB, vcC, fbFz, e58]
      rw [fin]

theorem sMinusR (a b : List Sp.S) (ta tb : Tag) (hl : a.length ≤ 1000 ∧ b.length ≤ 1000) (ha : Sp.Ok a) (hb : Sp.Ok b) : GPure Tryz.prog 56 [.slice (spl a) ta, .slice (spl b) tb] (.slice (spl (Sp.minus a b)) .none) := by
  refine h56.pure mixS (by simp) ?_
  simp only [gstart, s56, List.cons_append, List.nil_append, List.length_cons, List.length_nil, Nat.reduceAdd, Nat.reduceSub, List.replicate_succ, List.replicate_zero]
  simp +contextual -implicitDefEqProofs (maxSteps := 2000000) (disch := omega) only [drawC, drawK, keepT, ↓lenV, binV, optV, ↓loadV, ↓storeV, ↓fieldAddrV, ↓indexAddrV, ↓allocV, ↓buildV, ↓buildSliceV, ↓sliceV, ↓appendV, ↓srcV, bound, cutTag, hiTag, fillG, fillE, place, GVal.cells, grp, GVal.ofConst, ↓resV, resG, List.map, List.headD, List.take, List.drop, ↓reduceIte, Nat.reduceEqDiff, Nat.reduceAdd, Nat.reduceSub, Nat.reduceLeDiff, reduceCtorEq, implies_true, ne_eq, ↓asrcV, Tag.cap, List.replicate, allSolid, GVal.solid, Nat.reduceBEq, Nat.reduceMul, Nat.reduceLT, List.length_map, List.length_range, splice, vcA, ↓vcB, vcC, fbFz, e56]
  refine (sMakeR a ta (by omega) ha).then ?_ (by rfl)
  simp +contextual -implicitDefEqProofs (maxSteps := 2000000) (disch := omega) only [drawC, drawK, keepT, ↓lenV, binV, optV, ↓loadV, ↓storeV, ↓fieldAddrV, ↓indexAddrV, ↓allocV, ↓buildV, ↓buildSliceV, ↓sliceV, ↓appendV, ↓srcV, bound, cutTag, hiTag, fillG, fillE, place, GVal.cells, grp, GVal.ofConst, ↓resV, resG, List.map, List.headD, List.take, List.drop, ↓reduceIte, Nat.reduceEqDiff, Nat.reduceAdd, Nat.reduceSub, Nat.reduceLeDiff, reduceCtorEq, implies_true, ne_eq, ↓asrcV, Tag.cap, List.replicate, allSolid, GVal.solid, Nat.reduceBEq, Nat.reduceMul, Nat.reduceLT, List.length_map, List.length_range, splice, vcA, ↓vcB, vcC, fbFz, e56]
  refine (sMakeR b tb (by omega) hb).then ?_ (by rfl)
  have hA := Sp.nf_len a
  have hB := Sp.nf_len b
  have oA := Sp.nf_ok ha
  have oB := Sp.nf_ok hb
  have rA := Sp.nf_rt a
  have rB := Sp.nf_rt b
  have fin : ∀ r, Sp.Rt 0 r → (∀ n, Sp.has r n ↔ Sp.has (Sp.nf a) n ∧ ¬ Sp.has (Sp.nf b) n) → r = Sp.minus a b := fun r h1 h2 => Sp.uniq h1 (Sp.minus_rt a b) (by omega) (by omega) fun n => by rw [h2, Sp.minus_has ha hb, Sp.nf_has, Sp.nf_has]
  generalize Sp.nf a = A at *
  generalize Sp.nf b = B at *
  simp +contextual -implicitDefEqProofs (maxSteps := 2000000) (disch := omega) only [drawC, drawK, keepT, ↓lenV, binV, optV, ↓loadV, ↓storeV, ↓fieldAddrV, ↓indexAddrV, ↓allocV, ↓buildV, ↓buildSliceV, ↓sliceV, ↓appendV, ↓srcV, bound, cutTag, hiTag, fillG, fillE, place, GVal.cells, grp, GVal.ofConst, ↓resV, resG, List.map, List.headD, List.take, List.drop, ↓reduceIte, Nat.reduceEqDiff, Nat.reduceAdd, Nat.reduceSub, Nat.reduceLeDiff, reduceCtorEq, implies_true, ne_eq, ↓asrcV, Tag.cap, List.replicate, allSolid, GVal.solid, Nat.reduceBEq, Nat.reduceMul, Nat.reduceLT, List.length_map, List.length_range, splice, vcA, ↓vcB, vcC, fbFz, e56, spl_length]
  refine vcSLoop_by (ι := { p : Nat × List Sp.S // p.1 ≤ B.length ∧ Sp.Rt 0 p.2 ∧ Sp.Ok p.2 ∧ p.2.length ≤ A.length + p.1 ∧ ∀ n, Sp.has p.2 n ↔ Sp.has A n ∧ ¬ Sp.has (B.take p.1) n }) (fun p => ⟨[.slice (spl p.1.2) .none, .slice (spl B) .none, .any, .any, .any, .int .i64 (p.1.1 : Nat)] ++ List.replicate 87 .any, []⟩) (fun p => B.length - p.1.1) ?_ ?_
  · exact Into.first ⟨(0, A), by omega, rA, oA, by simp, fun n => by simp [Sp.has_nil]⟩ ⟨[], by simp⟩ (by simp [WL, leG_self, leG_any, leG_int])
  · rintro ⟨⟨k, L⟩, hk, hr, hok, hll, hh⟩
    simp only [] at hk hr hok hll hh
    by_cases h : k < B.length
    · have d0 : ((k : Int) < (B.length : Int)) = True := eq_true (by omega)
      have eY := spl_at B k h
      have hy := oB.at k
      have hy2 := rB.at k h
      have ht := fun n => Sp.has_take B k h n
      generalize B.getD k (0, 0) = y at *
      have c1 := Sp.cut_rt y hy2.2 L 0 hr
      have c2 := fun n => Sp.cut_has y hy2.2 n L
      have c3 := Sp.cut_len2 y hy2.2 L 0 hr
      have c4 : Sp.Ok (Sp.cut L y) := Sp.ok_of c1 (by omega) fun n hn => hok.has ((c2 n).1 hn).1
      have c5 : ∀ n, Sp.has (Sp.cut L y) n ↔ Sp.has A n ∧ ¬ Sp.has (B.take (k + 1)) n := fun n => by
        rw [c2, hh, ht, and_assoc, not_or]
        refine and_congr_right fun hA' => and_congr_right fun _ => ?_
        obtain ⟨_, _, h0, _⟩ := hA'
        exact ⟨fun q w => q w.2, fun q w => q ⟨h0, w⟩⟩
      simp +contextual -implicitDefEqProofs (maxSteps := 2000000) (disch := omega) only [drawC, drawK, keepT, ↓lenV, binV, optV, ↓loadV, ↓storeV, ↓fieldAddrV, ↓indexAddrV, ↓allocV, ↓buildV, ↓buildSliceV, ↓sliceV, ↓appendV, ↓srcV, bound, cutTag, hiTag, fillG, fillE, place, GVal.cells, grp, GVal.ofConst, ↓resV, resG, List.map, List.headD, List.take, List.drop, ↓reduceIte, Nat.reduceEqDiff, Nat.reduceAdd, Nat.reduceSub, Nat.reduceLeDiff, reduceCtorEq, implies_true, ne_eq, ↓asrcV, Tag.cap, List.replicate, allSolid, GVal.solid, Nat.reduceBEq, Nat.reduceMul, Nat.reduceLT, List.length_map, List.length_range, splice, vcA, ↓vcB, vcC, fbFz, e56, spl_length, d0]
      refine vcSLoop_by (ι := { p : Nat × Nat × List Sp.S // p.1 ≤ L.length ∧ p.2.2 ++ Sp.cut (L.drop p.1) y = Sp.cut L y ∧ p.2.2.length ≤ 2 * p.1 }) (fun p => ⟨[.slice (spl L) .none, .slice (spl B) .none, .any, .any, .any, .int .i64 (k : Nat), .slice (spl p.1.2.2) (.tok 0 p.1.2.1), .int .i64 (p.1.1 : Nat)] ++ List.replicate 85 .any, [.tok p.1.2.1 2]⟩) (fun p => L.length - p.1.1) ?_ ?_
      · refine Into.tok 6 2 [] rfl rfl ?_
        simp +contextual -implicitDefEqProofs (maxSteps := 2000000) (disch := omega) only [drawC, drawK, keepT, ↓lenV, binV, optV, ↓loadV, ↓storeV, ↓fieldAddrV, ↓indexAddrV, ↓allocV, ↓buildV, ↓buildSliceV, ↓sliceV, ↓appendV, ↓srcV, bound, cutTag, hiTag, fillG, fillE, place, GVal.cells, grp, GVal.ofConst, ↓resV, resG, List.map, List.headD, List.take, List.drop, ↓reduceIte, Nat.reduceEqDiff, Nat.reduceAdd, Nat.reduceSub, Nat.reduceLeDiff, reduceCtorEq, implies_true, ne_eq, ↓asrcV, Tag.cap, List.replicate, allSolid, GVal.solid, Nat.reduceBEq, Nat.reduceMul, Nat.reduceLT, List.length_map, List.length_range, splice, vcA, ↓vcB, vcC, fbFz, e56]
        intro t0
        exact Into.first ⟨(0, t0, []), by omega, by simp, by simp⟩ ⟨[], by simp⟩ (by simp [WL, leG_self, leG_any, leG_int, spl_nil])
      · rintro ⟨⟨i, v, out⟩, hi, he, hol⟩
        simp only [] at hi he hol
        by_cases h' : i < L.length
        · have d1 : ((i : Int) < (L.length : Int)) = True := eq_true (by omega)
          have eX := spl_at L i h'
          have hx := hok.at i
          have hx2 := hr.at i h'
          rw [drop_getD h', Sp.cut_cons] at he
          generalize L.getD i (0, 0) = x at *
          simp +contextual -implicitDefEqProofs (maxSteps := 2000000) (disch := omega) only [drawC, drawK, keepT, ↓lenV, binV, optV, ↓loadV, ↓storeV, ↓fieldAddrV, ↓indexAddrV, ↓allocV, ↓buildV, ↓buildSliceV, ↓sliceV, ↓appendV, ↓srcV, bound, cutTag, hiTag, fillG, fillE, place, GVal.cells, grp, GVal.ofConst, ↓resV, resG, List.map, List.headD, List.take, List.drop, ↓reduceIte, Nat.reduceEqDiff, Nat.reduceAdd, Nat.reduceSub, Nat.reduceLeDiff, reduceCtorEq, implies_true, ne_eq, ↓asrcV, Tag.cap, List.replicate, allSolid, GVal.solid, Nat.reduceBEq, Nat.reduceMul, Nat.reduceLT, List.length_map, List.length_range, splice, vcA, ↓vcB, vcC, fbFz, e56, spl_length, d0, d1, eX, eY, spG, all_spl, List.length_append]
          refine ⟨by omega, fun st => ⟨by omega, fun h1 => ⟨by omega, by omega, fun st_1 => ?_⟩, fun h1 => ⟨by omega, fun h2 => ⟨by omega, by omega, fun st_1 => ?_⟩, fun h2 => ⟨by omega, fun h3 => ⟨by omega, by omega, by omega, fun st_1 => ⟨by omega, fun h4 => ⟨by omega, by omega, by omega, fun st_2 => ?_⟩, fun h4 => ?_⟩⟩, fun h3 => ⟨by omega, fun h4 => ⟨by omega, by omega, by omega, fun st_1 => ?_⟩, fun h4 => ?_⟩⟩⟩⟩⟩
          · rw [if_pos (by omega)] at he
            refine Into.at ⟨(i + 1, st_1, out ++ [x]), by show i + 1 ≤ _; omega, by rw [← he]; simp, by simp at *; omega⟩ (by show _ < _; simp; omega) ⟨[.row st 2 [[.int .i64 x.1, .int .i64 x.2]]], by simp⟩ ?_
            simp [WL, leG_self, leG_any, leG_int, leG_tok, spl_append, spl_cons, spl_nil, spG]
          · rw [if_pos (by omega)] at he
            refine Into.at ⟨(i + 1, st_1, out ++ [x]), by show i + 1 ≤ _; omega, by rw [← he]; simp, by simp at *; omega⟩ (by show _ < _; simp; omega) ⟨[.row st 2 [[.int .i64 x.1, .int .i64 x.2]]], by simp⟩ ?_
            simp [WL, leG_self, leG_any, leG_int, leG_tok, spl_append, spl_cons, spl_nil, spG]
          · rw [if_neg (by omega), if_pos h3, if_pos h4] at he
            refine Into.at ⟨(i + 1, st_2, out ++ [(x.1, y.1 - 1)] ++ [(y.2 + 1, x.2)]), by show i + 1 ≤ _; omega, by rw [← he]; simp, by simp at *; omega⟩ (by show _ < _; simp; omega) ⟨[.row st 2 [[.int .i64 x.1, .int .i64 x.2]]], by simp⟩ ?_
            simp [WL, leG_self, leG_any, leG_int, leG_tok, spl_append, spl_cons, spl_nil, spG]
          · rw [if_neg (by omega), if_pos h3, if_neg (by omega)] at he
            refine Into.at ⟨(i + 1, st_1, out ++ [(x.1, y.1 - 1)]), by show i + 1 ≤ _; omega, by rw [← he]; simp, by simp at *; omega⟩ (by show _ < _; simp; omega) ⟨[.row st 2 [[.int .i64 x.1, .int .i64 x.2]]], by simp⟩ ?_
            simp [WL, leG_self, leG_any, leG_int, leG_tok, spl_append, spl_cons, spl_nil, spG]
          · rw [if_neg (by omega), if_neg (by omega), if_pos h4] at he
            refine Into.at ⟨(i + 1, st_1, out ++ [(y.2 + 1, x.2)]), by show i + 1 ≤ _; omega, by rw [← he]; simp, by simp at *; omega⟩ (by show _ < _; simp; omega) ⟨[.row st 2 [[.int .i64 x.1, .int .i64 x.2]]], by simp⟩ ?_
            simp [WL, leG_self, leG_any, leG_int, leG_tok, spl_append, spl_cons, spl_nil, spG]
          · rw [if_neg (by omega), if_neg (by omega), if_neg (by omega)] at he
            refine Into.at ⟨(i + 1, v, out), by show i + 1 ≤ _; omega, by rw [← he]; simp, by simp at *; omega⟩ (by show _ < _; simp; omega) ⟨[.row st 2 [[.int .i64 x.1, .int .i64 x.2]]], by simp⟩ ?_
            simp [WL, leG_self, leG_any, leG_int, leG_tok, spl_append, spl_cons, spl_nil, spG]
        · have d1 : ((i : Int) < (L.length : Int)) = False := eq_false (by omega)
          rw [List.drop_of_length_le (by omega)] at he
          have he' : out = Sp.cut L y := by rw [← he]; simp [Sp.cut]
          subst he'
          simp +contextual -implicitDefEqProofs (maxSteps := 2000000) (disch := omega) only [drawC, drawK, keepT, ↓lenV, binV, optV, ↓loadV, ↓storeV, ↓fieldAddrV, ↓indexAddrV, ↓allocV, ↓buildV, ↓buildSliceV, ↓sliceV, ↓appendV, ↓srcV, bound, cutTag, hiTag, fillG, fillE, place, GVal.cells, grp, GVal.ofConst, ↓resV, resG, List.map, List.headD, List.take, List.drop, ↓reduceIte, Nat.reduceEqDiff, Nat.reduceAdd, Nat.reduceSub, Nat.reduceLeDiff, reduceCtorEq, implies_true, ne_eq, ↓asrcV, Tag.cap, List.replicate, allSolid, GVal.solid, Nat.reduceBEq, Nat.reduceMul, Nat.reduceLT, List.length_map, List.length_range, splice, vcA, ↓vcB, vcC, fbFz, e56, spl_length, d0, d1, all_spl, false_imp_iff, true_and]
          exact Into.at ⟨(k + 1, Sp.cut L y), by show k + 1 ≤ _; omega, c1, c4, by show (Sp.cut L y).length ≤ A.length + (k + 1); omega, c5⟩ (by show _ < _; simp; omega) ⟨[.tok v 2], by simp⟩ (by simp [WL, leG_self, leG_any, leG_int, leG_none])
    · have d0 : ((k : Int) < (B.length : Int)) = False := eq_false (by omega)
      rw [List.take_of_length_le (l := B) (i := k) (by omega)] at hh
      simp +contextual -implicitDefEqProofs (maxSteps := 2000000) (disch := omega) only [drawC, drawK, keepT, ↓lenV, binV, optV, ↓loadV, ↓storeV, ↓fieldAddrV, ↓indexAddrV, ↓allocV, ↓buildV, ↓buildSliceV, ↓sliceV, ↓appendV, ↓srcV, bound, cutTag, hiTag, fillG, fillE, place, GVal.cells, grp, GVal.ofConst, ↓resV, resG, List.map, List.headD, List.take, List.drop, ↓reduceIte, Nat.reduceEqDiff, Nat.reduceAdd, Nat.reduceSub, Nat.reduceLeDiff, reduceCtorEq, implies_true, ne_eq, ↓asrcV, Tag.cap, List.replicate, allSolid, GVal.solid, Nat.reduceBEq, Nat.reduceMul, Nat.reduceLT, List.length_map, List.length_range, splice, vcA, ↓vcB, vcC, fbFz, e56, spl_length, d0, all_spl, false_imp_iff, true_and]
      rw [fin L hr hh]
end Gv.Tryz
/- Sets of numbers: the greatest, the least, one by one. -/
set_option linter.unusedVariables false
namespace Gv.Sp
open Gv
abbrev sz (s : S) : Int := s.2 - s.1 + 1
def topF : List S → Int → List S
  | [], _ => []
  | s :: r, n => if n ≤ 0 then [] else (s.2 - (min n (sz s) - 1), s.2) :: topF r (n - min n (sz s))
def topO : List S → Int → List S
  | [], _ => []
  | s :: r, n => if n ≤ 0 then s :: r else if sz s ≤ n then topO r (n - sz s) else (s.1, s.2 - n) :: r
theorem topF_cons (s : S) (r : List S) (n : Int) : topF (s :: r) n = if n ≤ 0 then [] else (s.2 - (min n (sz s) - 1), s.2) :: topF r (n - min n (sz s)) := rfl
theorem topO_cons (s : S) (r : List S) (n : Int) : topO (s :: r) n = if n ≤ 0 then s :: r else if sz s ≤ n then topO r (n - sz s) else (s.1, s.2 - n) :: r := rfl
theorem topF_len : ∀ (r : List S) (n : Int), (topF r n).length ≤ r.length
  | [], n => by simp [topF]
  | s :: r, n => by
    rw [topF_cons]; split
    · simp
    · have := topF_len r (n - min n (sz s)); simp; omega
def lowF : List S → Int → List S
  | [], _ => []
  | s :: r, n => if n ≤ 0 then [] else (s.1, s.1 + (min n (sz s) - 1)) :: lowF r (n - min n (sz s))
theorem lowF_cons (s : S) (r : List S) (n : Int) : lowF (s :: r) n = if n ≤ 0 then [] else (s.1, s.1 + (min n (sz s) - 1)) :: lowF r (n - min n (sz s)) := rfl
theorem lowF_len : ∀ (r : List S) (n : Int), (lowF r n).length ≤ r.length
  | [], n => by simp [lowF]
  | s :: r, n => by
    rw [lowF_cons]; split
    · simp
    · have := lowF_len r (n - min n (sz s)); simp; omega
def firstS (N : List S) (n : Int) : List S := (topF N.reverse n).reverse
def skipS (N : List S) (n : Int) : List S := (topO N.reverse n).reverse
def down (h : Int) (k : Nat) : List Int := (List.range k).map fun (i : Nat) => h - i
theorem down_len (h : Int) (k : Nat) : (down h k).length = k := by simp [down]
theorem down_zero (h : Int) : down h 0 = [] := rfl
theorem down_snoc (h : Int) (k : Nat) : down h (k + 1) = down h k ++ [h - k] := by simp [down, List.range_succ]
theorem down_add (h : Int) (j : Nat) : ∀ k, down h (j + k) = down h j ++ down (h - j) k
  | 0 => by simp [down_zero]
  | k + 1 => by rw [← Nat.add_assoc, down_snoc, down_add h j k, down_snoc, List.append_assoc]; congr 3; simp; omega
theorem down_mem (n h : Int) (k : Nat) : n ∈ down h k ↔ h - k < n ∧ n ≤ h := by
  simp only [down, List.mem_map, List.mem_range]
  constructor
  · rintro ⟨i, hi, rfl⟩; omega
  · rintro ⟨h1, h2⟩; exact ⟨(h - n).toNat, by omega, by omega⟩
def elsR (r : List S) : List Int := r.flatMap fun s => down s.2 (sz s).toNat
def els (N : List S) : List Int := elsR N.reverse
theorem elsR_cons (s : S) (r : List S) : elsR (s :: r) = down s.2 (sz s).toNat ++ elsR r := rfl
theorem els_cons (s : S) (r : List S) : els (s :: r) = els r ++ down s.2 (sz s).toNat := by simp [els, elsR]
theorem elsR_top : ∀ (r : List S) (n : Int), (∀ s ∈ r, s.1 ≤ s.2) → elsR (topF r n) = (elsR r).take n.toNat
  | [], n, _ => by simp [topF, elsR]
  | s :: r, n, h => by
    have hs := h s (by simp)
    rw [topF_cons]
    split
    · have : n.toNat = 0 := by omega
      rw [this]; rfl
    · rw [elsR_cons, elsR_cons, elsR_top r _ (fun x hx => h x (by simp [hx])), List.take_append, down_len]
      have hz : sz s = s.2 - s.1 + 1 := rfl
      have hz' : sz (s.2 - (min n (sz s) - 1), s.2) = s.2 - (s.2 - (min n (sz s) - 1)) + 1 := rfl
      have e1 : (sz (s.2 - (min n (sz s) - 1), s.2)).toNat = min n.toNat (sz s).toNat := by omega
      rw [e1]
      have e2 : (n - min n (sz s)).toNat = n.toNat - (sz s).toNat := by omega
      rw [e2]
      congr 1
      show down s.2 _ = _
      by_cases c : n.toNat ≤ (sz s).toNat
      · obtain ⟨j, hj⟩ := Nat.exists_eq_add_of_le c
        rw [hj, Nat.min_eq_left (by omega), down_add, List.take_append_of_le_length (by rw [down_len]; omega), List.take_of_length_le (by rw [down_len]; omega)]
      · rw [Nat.min_eq_right (by omega), List.take_of_length_le (by rw [down_len]; omega)]
theorem elsR_rest : ∀ (r : List S) (n : Int), (∀ s ∈ r, s.1 ≤ s.2) → elsR (topO r n) = (elsR r).drop n.toNat
  | [], n, _ => by simp [topO, elsR]
  | s :: r, n, h => by
    have hs := h s (by simp)
    rw [topO_cons]
    split
    · have : n.toNat = 0 := by omega
      rw [this]; rfl
    · split
      · rw [elsR_rest r _ (fun x hx => h x (by simp [hx])), elsR_cons, List.drop_append, down_len, List.drop_of_length_le (l := down s.2 (sz s).toNat) (by rw [down_len]; omega), List.nil_append]
        have hz : sz s = s.2 - s.1 + 1 := rfl
        congr 1; omega
      · rw [elsR_cons, elsR_cons, List.drop_append_of_le_length (by rw [down_len]; omega)]
        congr 1
        have hz : sz s = s.2 - s.1 + 1 := rfl
        have hz' : sz (s.1, s.2 - n) = s.2 - n - s.1 + 1 := rfl
        have e : (sz s).toNat = n.toNat + (sz (s.1, s.2 - n)).toNat := by omega
        rw [e, down_add, List.drop_append_of_le_length (by rw [down_len]; exact Nat.le_refl _), List.drop_of_length_le (by rw [down_len]; exact Nat.le_refl _), List.nil_append]
        congr 1; show s.2 - n = _; omega
theorem Rt.all_le {N : List S} {b : Int} (h : Rt b N) : ∀ s ∈ N, s.1 ≤ s.2 := fun s hs => (h.mem hs).2
theorem els_first {N : List S} (h : Rt 0 N) (n : Int) : els (firstS N n) = (els N).take n.toNat := by
  rw [els, firstS, List.reverse_reverse, elsR_top _ _ (fun s hs => h.all_le s (by simpa using hs))]; rfl
theorem els_skip {N : List S} (h : Rt 0 N) (n : Int) : els (skipS N n) = (els N).drop n.toNat := by
  rw [els, skipS, List.reverse_reverse, elsR_rest _ _ (fun s hs => h.all_le s (by simpa using hs))]; rfl
theorem els_low : ∀ (N : List S) (n : Int), (∀ s ∈ N, s.1 ≤ s.2) → els (lowF N n) = (els N).drop ((els N).length - n.toNat)
  | [], n, _ => by simp [lowF, els, elsR]
  | s :: r, n, h => by
    have hs := h s (by simp)
    rw [lowF_cons]
    split
    · have : n.toNat = 0 := by omega
      rw [this, Nat.sub_zero, List.drop_length]; rfl
    · rw [els_cons, els_cons, els_low r _ (fun x hx => h x (by simp [hx])), List.length_append, down_len]
      have hz : sz s = s.2 - s.1 + 1 := rfl
      have e2 : (n - min n (sz s)).toNat = n.toNat - (sz s).toNat := by omega
      have hz' : sz (s.1, s.1 + (min n (sz s) - 1)) = s.1 + (min n (sz s) - 1) - s.1 + 1 := rfl
      have e1 : (sz (s.1, s.1 + (min n (sz s) - 1))).toNat = min n.toNat (sz s).toNat := by omega
      rw [e1, e2]
      show _ ++ down (s.1 + (min n (sz s) - 1)) _ = _
      by_cases c : n.toNat ≤ (sz s).toNat
      · obtain ⟨j, hj⟩ := Nat.exists_eq_add_of_le' c
        have e3 : n.toNat - (sz s).toNat = 0 := by omega
        rw [e3, Nat.sub_zero, List.drop_length, List.nil_append, Nat.min_eq_left c, List.drop_append]
        have e4 : (els r).length + (sz s).toNat - n.toNat = (els r).length + j := by omega
        rw [e4, List.drop_of_length_le (by omega), List.nil_append]
        have e5 : (els r).length + j - (els r).length = j := by omega
        rw [e5, hj, down_add, List.drop_append_of_le_length (by rw [down_len]; exact Nat.le_refl _), List.drop_of_length_le (by rw [down_len]; exact Nat.le_refl _), List.nil_append]
        congr 1
        have e6 : min n (sz s) = n := by omega
        rw [e6]
        have : sz s = j + n := by omega
        simp only [sz] at this
        omega
      · have e4 : (els r).length + (sz s).toNat - n.toNat = (els r).length - (n.toNat - (sz s).toNat) := by omega
        rw [e4, List.drop_append_of_le_length (by omega), Nat.min_eq_right (by omega)]
        congr 2
        have e6 : min n (sz s) = sz s := by omega
        rw [e6]; simp only [sz]; omega
theorem els_mem : ∀ {N : List S} {b : Int}, Rt b N → 0 ≤ b → ∀ n, n ∈ els N ↔ has N n
  | [], b, _, _, n => by simp [els, elsR, has_nil]
  | s :: r, b, ⟨h1, h2, h3⟩, hb, n => by
    rw [els_cons, List.mem_append, els_mem h3 (by omega), has_cons, down_mem, or_comm]
    refine or_congr ?_ Iff.rfl
    simp only [sz]; omega
theorem topF_rt : ∀ (r : List S) (n : Int), Rt 0 r.reverse → Rt 0 (topF r n).reverse ∧ ∀ s ∈ topF r n, ∀ b, (∀ x ∈ r, x.2 < b) → s.2 < b
  | [], n, _ => by simp [topF, Rt]
  | s :: r, n, h => by
    rw [List.reverse_cons] at h
    obtain ⟨h1, h2, h3, h4⟩ := (Rt_snoc s _ 0).1 h
    rw [topF_cons]
    split
    · exact ⟨trivial, by simp⟩
    · obtain ⟨i1, i2⟩ := topF_rt r (n - min n (sz s)) h1
      have hk : 1 ≤ min n (sz s) ∧ min n (sz s) ≤ sz s := by simp only [sz]; omega
      simp only [sz] at hk
      constructor
      · rw [List.reverse_cons]
        refine (Rt_snoc _ _ 0).2 ⟨i1, by show 0 ≤ s.2 - (min n (s.2 - s.1 + 1) - 1); omega, by show s.2 - (min n (s.2 - s.1 + 1) - 1) ≤ s.2; omega, fun y hy => ?_⟩
        have := i2 y (by simpa using hy) (s.1 - 1) (fun x hx => by have := h4 x (by simpa using hx); omega)
        show y.2 + 2 ≤ s.2 - (min n (s.2 - s.1 + 1) - 1)
        omega
      · intro x hx b hb
        rcases List.mem_cons.1 hx with rfl | hx
        · exact hb s (by simp)
        · exact i2 x hx b fun z hz => hb z (by simp [hz])
theorem topO_rt : ∀ (r : List S) (n : Int), Rt 0 r.reverse → Rt 0 (topO r n).reverse
  | [], n, _ => trivial
  | s :: r, n, h => by
    have h' := h
    rw [List.reverse_cons] at h
    obtain ⟨h1, h2, h3, h4⟩ := (Rt_snoc s _ 0).1 h
    rw [topO_cons]
    split
    · exact h'
    · split
      · exact topO_rt r _ h1
      · rename_i c
        simp only [sz] at c
        rw [List.reverse_cons]
        exact (Rt_snoc _ _ 0).2 ⟨h1, h2, by show s.1 ≤ s.2 - n; omega, h4⟩
theorem first_rt {N : List S} (h : Rt 0 N) (n : Int) : Rt 0 (firstS N n) := (topF_rt N.reverse n (by simpa using h)).1
theorem skip_rt {N : List S} (h : Rt 0 N) (n : Int) : Rt 0 (skipS N n) := topO_rt N.reverse n (by simpa using h)
theorem low_rt : ∀ (N : List S) (n b : Int), Rt b N → Rt b (lowF N n)
  | [], n, b, _ => trivial
  | s :: r, n, b, ⟨h1, h2, h3⟩ => by
    rw [lowF_cons]
    split
    · trivial
    · have hk : 1 ≤ min n (sz s) ∧ min n (sz s) ≤ sz s := by simp only [sz]; omega
      simp only [sz] at hk
      exact ⟨h1, by show s.1 ≤ s.1 + (min n (s.2 - s.1 + 1) - 1); omega, (low_rt r _ _ h3).weak (by show s.1 + (min n (s.2 - s.1 + 1) - 1) + 2 ≤ _; omega)⟩
theorem first_len (N : List S) (n : Int) : (firstS N n).length ≤ N.length := by have := topF_len N.reverse n; simpa [firstS] using this
theorem topO_len : ∀ (r : List S) (n : Int), (topO r n).length ≤ r.length
  | [], n => by simp [topO]
  | s :: r, n => by
    rw [topO_cons]; split
    · exact Nat.le_refl _
    · split
      · have := topO_len r (n - sz s); simp; omega
      · simp
theorem skip_len (N : List S) (n : Int) : (skipS N n).length ≤ N.length := by have := topO_len N.reverse n; simpa [skipS] using this
theorem first_has {N : List S} (h : Rt 0 N) (n m : Int) (hm : has (firstS N n) m) : has N m := by
  rw [← els_mem (first_rt h n) (by omega), els_first h] at hm
  exact (els_mem h (by omega) m).1 (List.mem_of_mem_take hm)
theorem skip_has {N : List S} (h : Rt 0 N) (n m : Int) (hm : has (skipS N n) m) : has N m := by
  rw [← els_mem (skip_rt h n) (by omega), els_skip h] at hm
  exact (els_mem h (by omega) m).1 (List.mem_of_mem_drop hm)
theorem low_has {N : List S} (h : Rt 0 N) (n m : Int) (hm : has (lowF N n) m) : has N m := by
  rw [← els_mem (low_rt N n 0 h) (by omega), els_low N n h.all_le] at hm
  exact (els_mem h (by omega) m).1 (List.mem_of_mem_drop hm)
theorem first_ok {N : List S} (h : Rt 0 N) (ho : Ok N) (n : Int) : Ok (firstS N n) := ok_of (first_rt h n) (by omega) fun m hm => ho.has (first_has h n m hm)
theorem skip_ok {N : List S} (h : Rt 0 N) (ho : Ok N) (n : Int) : Ok (skipS N n) := ok_of (skip_rt h n) (by omega) fun m hm => ho.has (skip_has h n m hm)
theorem low_ok {N : List S} (h : Rt 0 N) (ho : Ok N) (n : Int) : Ok (lowF N n) := ok_of (low_rt N n 0 h) (by omega) fun m hm => ho.has (low_has h n m hm)
end Gv.Sp
