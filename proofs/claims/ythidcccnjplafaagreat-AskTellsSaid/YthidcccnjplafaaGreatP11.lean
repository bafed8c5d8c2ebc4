/- Contracts: Low, High, Of, Last, First, Skip, IDs. -/
import Derived.Test.YthidcccnjplafaaGreatP10
import Derived.Test.YthidcccnjplafaaGreatP9
import Derived.Test.YthidcccnjplafaaGreatP7
import Derived.Test.YthidcccnjplafaaGreatSlimFz
import Derived.Test.YthidcccnjplafaaGreatP6
import Derived.Test.YthidcccnjplafaaGreatP5
import Derived.Test.YthidcccnjplafaaGreatP8
set_option linter.unusedVariables false
set_option linter.unusedSimpArgs false
set_option maxRecDepth 20000
set_option maxHeartbeats 4000000
namespace Gv.Tryz
open Go Gv Go.Proofs
open Gv.Sp (Lim)

theorem WL_self : ∀ l : List GVal, WL l l
  | [] => trivial
  | x :: r => ⟨by rw [leG_self]; trivial, WL_self r⟩
def lowV (N : List Sp.S) : GVal := .tuple [.int .i64 (N.getD 0 (0, 0)).1, .bool (decide (0 < N.length))]
def highV (N : List Sp.S) : GVal := .tuple [.int .i64 (N.getD (N.length - 1) (0, 0)).2, .bool (decide (0 < N.length))]
theorem sLow (l : List Sp.S) (t : Tag) (hl : l.length ≤ 4398046511104) (ho : Sp.Ok l) : GPure Tryz.prog 55 [.slice (spl l) t] (lowV (Sp.nf l)) := by
  refine h55.pure mixS (by simp) ?_
  simp only [gstart, s55, List.cons_append, List.nil_append, List.length_cons, List.length_nil, Nat.reduceAdd, Nat.reduceSub, List.replicate_succ, List.replicate_zero]
  simp +contextual -implicitDefEqProofs (maxSteps := 2000000) (disch := omega) only [↓lenV, binV, ↓loadV, ↓fieldAddrV, ↓indexAddrV, GVal.cells, grp, GVal.ofConst, ↓resV, resG, List.map, List.headD, List.take, List.drop, ↓reduceIte, Nat.reduceEqDiff, Nat.reduceAdd, Nat.reduceSub, Nat.reduceLeDiff, reduceCtorEq, implies_true, ne_eq, aggV, Tag.cap, List.replicate, allSolid, GVal.solid, Nat.reduceBEq, Nat.reduceMul, Nat.reduceLT, List.length_map, List.length_range, splice, vcA, ↓vcB, vcC, fbFz, e55]
  refine (sMake l t hl ho).then ?_ (by rfl)
  have hN := Sp.nf_len l
  generalize Sp.nf l = N at *
  cases N with
  | nil =>
    simp +contextual -implicitDefEqProofs (maxSteps := 2000000) (disch := omega) only [↓lenV, binV, ↓loadV, ↓fieldAddrV, ↓indexAddrV, GVal.cells, grp, GVal.ofConst, ↓resV, resG, List.map, List.headD, List.take, List.drop, ↓reduceIte, Nat.reduceEqDiff, Nat.reduceAdd, Nat.reduceSub, Nat.reduceLeDiff, reduceCtorEq, implies_true, ne_eq, aggV, Tag.cap, List.replicate, allSolid, GVal.solid, Nat.reduceBEq, Nat.reduceMul, Nat.reduceLT, List.length_map, List.length_range, splice, vcA, ↓vcB, vcC, fbFz, e55, spl_nil, spl_length]
    exact WL_self _
  | cons s r =>
    have d0 : ((r.length : Int) + 1 = 0) = False := eq_false (by omega)
    simp +contextual -implicitDefEqProofs (maxSteps := 2000000) (disch := omega) only [↓lenV, binV, ↓loadV, ↓fieldAddrV, ↓indexAddrV, GVal.cells, grp, GVal.ofConst, ↓resV, resG, List.map, List.headD, List.take, List.drop, ↓reduceIte, Nat.reduceEqDiff, Nat.reduceAdd, Nat.reduceSub, Nat.reduceLeDiff, reduceCtorEq, implies_true, ne_eq, aggV, Tag.cap, List.replicate, allSolid, GVal.solid, Nat.reduceBEq, Nat.reduceMul, Nat.reduceLT, List.length_map, List.length_range, splice, vcA, ↓vcB, vcC, fbFz, e55, spl_cons, spl_length, spG, d0, Int.reduceToNat]
    exact ⟨by omega, by omega, WL_self _⟩
theorem sHigh (l : List Sp.S) (t : Tag) (hl : l.length ≤ 4398046511104) (ho : Sp.Ok l) : GPure Tryz.prog 51 [.slice (spl l) t] (highV (Sp.nf l)) := by
  refine h51.pure mixS (by simp) ?_
  simp only [gstart, s51, List.cons_append, List.nil_append, List.length_cons, List.length_nil, Nat.reduceAdd, Nat.reduceSub, List.replicate_succ, List.replicate_zero]
  simp +contextual -implicitDefEqProofs (maxSteps := 2000000) (disch := omega) only [↓lenV, binV, ↓loadV, ↓fieldAddrV, ↓indexAddrV, GVal.cells, grp, GVal.ofConst, ↓resV, resG, List.map, List.headD, List.take, List.drop, ↓reduceIte, Nat.reduceEqDiff, Nat.reduceAdd, Nat.reduceSub, Nat.reduceLeDiff, reduceCtorEq, implies_true, ne_eq, aggV, Tag.cap, List.replicate, allSolid, GVal.solid, Nat.reduceBEq, Nat.reduceMul, Nat.reduceLT, List.length_map, List.length_range, splice, vcA, ↓vcB, vcC, fbFz, e51]
  refine (sMake l t hl ho).then ?_ (by rfl)
  have hN := Sp.nf_len l
  generalize Sp.nf l = N at *
  by_cases h : N.length = 0
  · have e : N = [] := List.length_eq_zero_iff.1 h
    subst e
    simp +contextual -implicitDefEqProofs (maxSteps := 2000000) (disch := omega) only [↓lenV, binV, ↓loadV, ↓fieldAddrV, ↓indexAddrV, GVal.cells, grp, GVal.ofConst, ↓resV, resG, List.map, List.headD, List.take, List.drop, ↓reduceIte, Nat.reduceEqDiff, Nat.reduceAdd, Nat.reduceSub, Nat.reduceLeDiff, reduceCtorEq, implies_true, ne_eq, aggV, Tag.cap, List.replicate, allSolid, GVal.solid, Nat.reduceBEq, Nat.reduceMul, Nat.reduceLT, List.length_map, List.length_range, splice, vcA, ↓vcB, vcC, fbFz, e51, spl_nil, spl_length]
    exact WL_self _
  · have d0 : ((N.length : Int) = 0) = False := eq_false (by omega)
    have d1 : ((N.length : Int) - 1).toNat = N.length - 1 := by omega
    have eS := spl_at N (N.length - 1) (by omega)
    simp +contextual -implicitDefEqProofs (maxSteps := 2000000) (disch := omega) only [↓lenV, binV, ↓loadV, ↓fieldAddrV, ↓indexAddrV, GVal.cells, grp, GVal.ofConst, ↓resV, resG, List.map, List.headD, List.take, List.drop, ↓reduceIte, Nat.reduceEqDiff, Nat.reduceAdd, Nat.reduceSub, Nat.reduceLeDiff, reduceCtorEq, implies_true, ne_eq, aggV, Tag.cap, List.replicate, allSolid, GVal.solid, Nat.reduceBEq, Nat.reduceMul, Nat.reduceLT, List.length_map, List.length_range, splice, vcA, ↓vcB, vcC, fbFz, e51, spl_length, spG, d0, d1, eS]
    have e : decide (0 < N.length) = true := decide_eq_true (by omega)
    exact ⟨by omega, by omega, by rw [highV, e]; exact WL_self _⟩

theorem sOf (l : List Int) (t : Tag) (hl : l.length ≤ 1000) (hi : ∀ i, -9223372036854775808 ≤ l.getD i 0 ∧ l.getD i 0 ≤ 9223372036854775807) : GPure Tryz.prog 44 [.slice (ints l) t] (.slice (spl (Sp.nf (l.map fun i => (i, i)))) .none) := by
  have ho : Sp.Ok (l.map fun i => ((i, i) : Sp.S)) := fun s hs => by
    obtain ⟨i, h, rfl⟩ := List.mem_map.1 hs
    obtain ⟨j, hj, rfl⟩ := List.getElem_of_mem h
    have := hi j
    rw [List.getD_eq_getElem?_getD, List.getElem?_eq_getElem hj] at this
    exact ⟨this, this⟩
  refine h44.pure mixS (by simp) ?_
  simp only [gstart, s44, List.cons_append, List.nil_append, List.length_cons, List.length_nil, Nat.reduceAdd, Nat.reduceSub, List.replicate_succ, List.replicate_zero]
  simp +contextual -implicitDefEqProofs (maxSteps := 2000000) (disch := omega) only [↓lenV, binV, optV, ↓loadV, ↓indexAddrV, ↓buildV, ↓buildSliceV, ↓sliceV, ↓appendV, ↓srcV, bound, cutTag, hiTag, fillG, fillE, place, GVal.cells, grp, GVal.ofConst, ↓resV, resG, List.map, List.headD, List.take, List.drop, ↓reduceIte, Nat.reduceEqDiff, Nat.reduceAdd, Nat.reduceSub, Nat.reduceLeDiff, reduceCtorEq, implies_true, ne_eq, ↓asrcV, Tag.cap, List.replicate, allSolid, GVal.solid, Nat.reduceBEq, Nat.reduceMul, Nat.reduceLT, List.length_map, List.length_range, splice, vcA, ↓vcB, vcC, fbFz, e44]
  refine vcSLoop_by (ι := { p : Nat × Nat // p.1 ≤ l.length }) (fun p => ⟨[.any, .any, .any, .slice (spl ((l.take p.1.1).map fun i => (i, i))) (.tok 0 p.1.2), .any, .any, .slice (ints l) t, .int .i64 l.length, .int .i64 (p.1.1 : Nat)] ++ List.replicate 12 .any, [.tok p.1.2 2]⟩) (fun p => l.length - p.1.1) ?_ ?_
  · refine Into.tok 3 2 [] rfl rfl ?_
    simp +contextual -implicitDefEqProofs (maxSteps := 2000000) (disch := omega) only [↓lenV, binV, optV, ↓loadV, ↓indexAddrV, ↓buildV, ↓buildSliceV, ↓sliceV, ↓appendV, ↓srcV, bound, cutTag, hiTag, fillG, fillE, place, GVal.cells, grp, GVal.ofConst, ↓resV, resG, List.map, List.headD, List.take, List.drop, ↓reduceIte, Nat.reduceEqDiff, Nat.reduceAdd, Nat.reduceSub, Nat.reduceLeDiff, reduceCtorEq, implies_true, ne_eq, ↓asrcV, Tag.cap, List.replicate, allSolid, GVal.solid, Nat.reduceBEq, Nat.reduceMul, Nat.reduceLT, List.length_map, List.length_range, splice, vcA, ↓vcB, vcC, fbFz, e44]
    intro t0
    exact Into.first ⟨(0, t0), by omega⟩ ⟨[], by simp⟩ (by simp [WL, leG_self, leG_any, spl_nil])
  · rintro ⟨⟨k, v⟩, hk⟩
    simp only [] at hk
    by_cases h : k < l.length
    · have d0 : ((k : Int) < (l.length : Int)) = True := eq_true (by omega)
      have eN : (l.take (k + 1)).map (fun i => ((i, i) : Sp.S)) = (l.take k).map (fun i => (i, i)) ++ [(l.getD k 0, l.getD k 0)] := by rw [List.take_add_one, List.map_append]; simp [List.getD, h]
      have hz : ((l.take k).map (fun i => ((i, i) : Sp.S))).length ≤ 1000 := by simp; omega
      generalize (l.take k).map (fun i => ((i, i) : Sp.S)) = Z at *
      simp +contextual -implicitDefEqProofs (maxSteps := 2000000) (disch := omega) only [↓lenV, binV, optV, ↓loadV, ↓indexAddrV, ↓buildV, ↓buildSliceV, ↓sliceV, ↓appendV, ↓srcV, bound, cutTag, hiTag, fillG, fillE, place, GVal.cells, grp, GVal.ofConst, ↓resV, resG, List.map, List.headD, List.take, List.drop, ↓reduceIte, Nat.reduceEqDiff, Nat.reduceAdd, Nat.reduceSub, Nat.reduceLeDiff, reduceCtorEq, implies_true, ne_eq, ↓asrcV, Tag.cap, List.replicate, allSolid, GVal.solid, Nat.reduceBEq, Nat.reduceMul, Nat.reduceLT, List.length_map, List.length_range, splice, vcA, ↓vcB, vcC, fbFz, e44, d0, spl_length, all_spl]
      refine ⟨by omega, by omega, by omega, fun st => ?_⟩
      refine Into.at ⟨(k + 1, st), by show k + 1 ≤ _; omega⟩ (by show _ < _; simp; omega) ⟨[], by simp⟩ ?_
      simp [WL, leG_self, leG_any, leG_int, leG_tok, eN, spl_append, spl_cons, spl_nil, spG]
    · have d0 : ((k : Int) < (l.length : Int)) = False := eq_false (by omega)
      rw [List.take_of_length_le (l := l) (i := k) (by omega)]
      simp +contextual -implicitDefEqProofs (maxSteps := 2000000) (disch := omega) only [↓lenV, binV, optV, ↓loadV, ↓indexAddrV, ↓buildV, ↓buildSliceV, ↓sliceV, ↓appendV, ↓srcV, bound, cutTag, hiTag, fillG, fillE, place, GVal.cells, grp, GVal.ofConst, ↓resV, resG, List.map, List.headD, List.take, List.drop, ↓reduceIte, Nat.reduceEqDiff, Nat.reduceAdd, Nat.reduceSub, Nat.reduceLeDiff, reduceCtorEq, implies_true, ne_eq, ↓asrcV, Tag.cap, List.replicate, allSolid, GVal.solid, Nat.reduceBEq, Nat.reduceMul, Nat.reduceLT, List.length_map, List.length_range, splice, vcA, ↓vcB, vcC, fbFz, e44, d0, false_imp_iff, true_and]
      refine (sMake _ _ (by simp; omega) ho).then ?_ (by rfl)
      simp +contextual -implicitDefEqProofs (maxSteps := 2000000) (disch := omega) only [↓lenV, binV, optV, ↓loadV, ↓indexAddrV, ↓buildV, ↓buildSliceV, ↓sliceV, ↓appendV, ↓srcV, bound, cutTag, hiTag, fillG, fillE, place, GVal.cells, grp, GVal.ofConst, ↓resV, resG, List.map, List.headD, List.take, List.drop, ↓reduceIte, Nat.reduceEqDiff, Nat.reduceAdd, Nat.reduceSub, Nat.reduceLeDiff, reduceCtorEq, implies_true, ne_eq, ↓asrcV, Tag.cap, List.replicate, allSolid, GVal.solid, Nat.reduceBEq, Nat.reduceMul, Nat.reduceLT, List.length_map, List.length_range, splice, vcA, ↓vcB, vcC, fbFz, e44]

end Gv.Tryz
/- Contracts: IDs; the document's First, Last, Skip, IDs, Of. -/
set_option linter.unusedVariables false
set_option linter.unusedSimpArgs false
set_option maxRecDepth 20000
set_option maxHeartbeats 4000000
namespace Gv.Tryz
open Go Gv Go.Proofs
open Gv.Sp (Lim)
end Gv.Tryz
/- The laws of chapter 10: three sets. -/
set_option linter.unusedVariables false
set_option linter.unusedSimpArgs false
set_option maxRecDepth 20000
set_option maxHeartbeats 4000000
namespace Gv.Tryz
open Go Gv Go.Proofs
open Gv.Sp (Lim)
def Ints (l : List Int) : Prop := l.length ≤ 9223372036854775807 ∧ ∀ i, -9223372036854775808 ≤ l.getD i 0 ∧ l.getD i 0 ≤ 9223372036854775807
end Gv.Tryz
/- Contracts: the document's IDs, Of, Skip; all of them for few spans. -/
set_option linter.unusedVariables false
set_option linter.unusedSimpArgs false
set_option maxRecDepth 20000
set_option maxHeartbeats 4000000
namespace Gv.Tryz
open Go Gv Go.Proofs
open Gv.Sp (Lim)

theorem sOfR (l : List Int) (t : Tag) (hl : l.length ≤ 100000) (hi : ∀ i, -9223372036854775808 ≤ l.getD i 0 ∧ l.getD i 0 ≤ 9223372036854775807) : GPure Tryz.prog 40 [.slice (ints l) t] (.slice (spl (Sp.nf (l.map fun i => (i, i)))) .none) := by
  have ho : Sp.Ok (l.map fun i => ((i, i) : Sp.S)) := fun s hs => by
    obtain ⟨i, h, rfl⟩ := List.mem_map.1 hs
    obtain ⟨j, hj, rfl⟩ := List.getElem_of_mem h
    have := hi j
    rw [List.getD_eq_getElem?_getD, List.getElem?_eq_getElem hj] at this
    exact ⟨this, this⟩
  refine h40.pure mixS (by simp) ?_
  simp only [gstart, s40, List.cons_append, List.nil_append, List.length_cons, List.length_nil, Nat.reduceAdd, Nat.reduceSub, List.replicate_succ, List.replicate_zero]
  simp +contextual -implicitDefEqProofs (maxSteps := 2000000) (disch := omega) only [drawC, drawK, keepT, ↓lenV, binV, optV, ↓loadV, ↓indexAddrV, ↓buildV, ↓buildSliceV, ↓sliceV, ↓appendV, ↓srcV, bound, cutTag, hiTag, fillG, fillE, place, GVal.cells, grp, GVal.ofConst, ↓resV, resG, List.map, List.headD, List.take, List.drop, ↓reduceIte, Nat.reduceEqDiff, Nat.reduceAdd, Nat.reduceSub, Nat.reduceLeDiff, reduceCtorEq, implies_true, ne_eq, ↓asrcV, Tag.cap, List.replicate, allSolid, GVal.solid, Nat.reduceBEq, Nat.reduceMul, Nat.reduceLT, List.length_map, List.length_range, splice, vcA, ↓vcB, vcC, fbFz, e40]
  refine vcSLoop_by (ι := { p : Nat × Nat // p.1 ≤ l.length }) (fun p => ⟨[.slice (ints l) t, .any, .any, .slice (spl ((l.take p.1.1).map fun i => (i, i))) (.tok 0 p.1.2), .int .i64 (p.1.1 : Nat)] ++ List.replicate 20 .any, [.tok p.1.2 2]⟩) (fun p => l.length - p.1.1) ?_ ?_
  · refine Into.tok 3 2 [] rfl rfl ?_
    simp +contextual -implicitDefEqProofs (maxSteps := 2000000) (disch := omega) only [drawC, drawK, keepT, ↓lenV, binV, optV, ↓loadV, ↓indexAddrV, ↓buildV, ↓buildSliceV, ↓sliceV, ↓appendV, ↓srcV, bound, cutTag, hiTag, fillG, fillE, place, GVal.cells, grp, GVal.ofConst, ↓resV, resG, List.map, List.headD, List.take, List.drop, ↓reduceIte, Nat.reduceEqDiff, Nat.reduceAdd, Nat.reduceSub, Nat.reduceLeDiff, reduceCtorEq, implies_true, ne_eq, ↓asrcV, Tag.cap, List.replicate, allSolid, GVal.solid, Nat.reduceBEq, Nat.reduceMul, Nat.reduceLT, List.length_map, List.length_range, splice, vcA, ↓vcB, vcC, fbFz, e40]
    intro t0
    exact Into.first ⟨(0, t0), by omega⟩ ⟨[], by simp⟩ (by simp [WL, leG_self, leG_any, spl_nil])
  · rintro ⟨⟨k, v⟩, hk⟩
    simp only [] at hk
    by_cases h : k < l.length
    · have d0 : ((k : Int) < (l.length : Int)) = True := eq_true (by omega)
      have eN : (l.take (k + 1)).map (fun i => ((i, i) : Sp.S)) = (l.take k).map (fun i => (i, i)) ++ [(l.getD k 0, l.getD k 0)] := by rw [List.take_add_one, List.map_append]; simp [List.getD, h]
      have hz : ((l.take k).map (fun i => ((i, i) : Sp.S))).length ≤ 100000 := by simp; omega
      generalize (l.take k).map (fun i => ((i, i) : Sp.S)) = Z at *
      simp +contextual -implicitDefEqProofs (maxSteps := 2000000) (disch := omega) only [drawC, drawK, keepT, ↓lenV, binV, optV, ↓loadV, ↓indexAddrV, ↓buildV, ↓buildSliceV, ↓sliceV, ↓appendV, ↓srcV, bound, cutTag, hiTag, fillG, fillE, place, GVal.cells, grp, GVal.ofConst, ↓resV, resG, List.map, List.headD, List.take, List.drop, ↓reduceIte, Nat.reduceEqDiff, Nat.reduceAdd, Nat.reduceSub, Nat.reduceLeDiff, reduceCtorEq, implies_true, ne_eq, ↓asrcV, Tag.cap, List.replicate, allSolid, GVal.solid, Nat.reduceBEq, Nat.reduceMul, Nat.reduceLT, List.length_map, List.length_range, splice, vcA, ↓vcB, vcC, fbFz, e40, d0, spl_length, all_spl]
      refine ⟨by omega, by omega, by omega, by omega, fun st => ?_⟩
      refine Into.at ⟨(k + 1, st), by show k + 1 ≤ _; omega⟩ (by show _ < _; simp; omega) ⟨[], by simp⟩ ?_
      simp [WL, leG_self, leG_any, leG_int, leG_tok, eN, spl_append, spl_cons, spl_nil, spG]
    · have d0 : ((k : Int) < (l.length : Int)) = False := eq_false (by omega)
      rw [List.take_of_length_le (l := l) (i := k) (by omega)]
      simp +contextual -implicitDefEqProofs (maxSteps := 2000000) (disch := omega) only [drawC, drawK, keepT, ↓lenV, binV, optV, ↓loadV, ↓indexAddrV, ↓buildV, ↓buildSliceV, ↓sliceV, ↓appendV, ↓srcV, bound, cutTag, hiTag, fillG, fillE, place, GVal.cells, grp, GVal.ofConst, ↓resV, resG, List.map, List.headD, List.take, List.drop, ↓reduceIte, Nat.reduceEqDiff, Nat.reduceAdd, Nat.reduceSub, Nat.reduceLeDiff, reduceCtorEq, implies_true, ne_eq, ↓asrcV, Tag.cap, List.replicate, allSolid, GVal.solid, Nat.reduceBEq, Nat.reduceMul, Nat.reduceLT, List.length_map, List.length_range, splice, vcA, ↓vcB, vcC, fbFz, e40, d0, false_imp_iff, true_and]
      refine (sMakeR _ _ (by simp; omega) ho).then ?_ (by rfl)
      simp +contextual -implicitDefEqProofs (maxSteps := 2000000) (disch := omega) only [drawC, drawK, keepT, ↓lenV, binV, optV, ↓loadV, ↓indexAddrV, ↓buildV, ↓buildSliceV, ↓sliceV, ↓appendV, ↓srcV, bound, cutTag, hiTag, fillG, fillE, place, GVal.cells, grp, GVal.ofConst, ↓resV, resG, List.map, List.headD, List.take, List.drop, ↓reduceIte, Nat.reduceEqDiff, Nat.reduceAdd, Nat.reduceSub, Nat.reduceLeDiff, reduceCtorEq, implies_true, ne_eq, ↓asrcV, Tag.cap, List.replicate, allSolid, GVal.solid, Nat.reduceBEq, Nat.reduceMul, Nat.reduceLT, List.length_map, List.length_range, splice, vcA, ↓vcB, vcC, fbFz, e40]

theorem Lim.first {a : List Sp.S} {m : Nat} (ha : Lim a m) (n : Int) : Lim (Sp.firstS (Sp.nf a) n) m := ⟨by have := Sp.first_len (Sp.nf a) n; have := Sp.nf_len a; have := ha.1; omega, Sp.first_ok (Sp.nf_rt a) (Sp.nf_ok ha.2) n⟩
theorem Lim.skip {a : List Sp.S} {m : Nat} (ha : Lim a m) (n : Int) : Lim (Sp.skipS (Sp.nf a) n) m := ⟨by have := Sp.skip_len (Sp.nf a) n; have := Sp.nf_len a; have := ha.1; omega, Sp.skip_ok (Sp.nf_rt a) (Sp.nf_ok ha.2) n⟩
theorem Lim.low {a : List Sp.S} {m : Nat} (ha : Lim a m) (n : Int) : Lim (Sp.lowF (Sp.nf a) n) m := ⟨by have := Sp.lowF_len (Sp.nf a) n; have := Sp.nf_len a; have := ha.1; omega, Sp.low_ok (Sp.nf_rt a) (Sp.nf_ok ha.2) n⟩
end Gv.Tryz
/- The plain law of growing. -/
set_option linter.unusedVariables false
set_option maxRecDepth 20000
set_option linter.unusedSimpArgs false
namespace Gv.Tryz
open Go Gv Go.Proofs

theorem hdel_mem (q : List Int) : ∀ (l : List Int) (x : Int), x ∈ hdel l q → x ∈ l := by
  induction q with
  | nil => intro l x h; exact h
  | cons p r ih => intro l x h; exact List.mem_of_mem_erase (ih _ _ h)
theorem lrun_heads (frm : Int) (l : List (List Int)) : ∀ k, (∀ x ∈ (lrun frm l k).hs, x < frm + k) ∧ (k ≠ 0 → frm + k - 1 ∈ (lrun frm l k).hs) ∧
    (k ≠ 0 → ((lrun frm l k).out.getD ((lrun frm l k).out.length - 1) default).head = decide ((lrun frm l k).hs.length = 1))
  | 0 => by simp [lrun]
  | k + 1 => by
    obtain ⟨i1, i2, i3⟩ := lrun_heads frm l k
    have hne := (lrun_len frm l k).2
    rw [lrun]
    generalize lrun frm l k = s at *
    generalize l.getD k [] = q
    have hh : (lstep frm s k q).hs = hins (hdel s.hs q) (frm + k) := by unfold lstep; simp only; split <;> rfl
    have hm : frm + (k : Int) ∈ hins (hdel s.hs q) (frm + k) := by unfold hins; split <;> simp_all
    refine ⟨fun x hx => ?_, fun _ => ?_, fun _ => ?_⟩
    · rw [hh] at hx
      unfold hins at hx
      split at hx
      · have := i1 x (hdel_mem _ _ _ hx); omega
      · rcases List.mem_append.1 hx with hx | hx
        · have := i1 x (hdel_mem _ _ _ hx); omega
        · simp at hx; omega
    · rw [hh]; have e : frm + ((k + 1 : Nat) : Int) - 1 = frm + k := by omega
      rw [e]; exact hm
    · rw [hh]
      unfold lstep
      simp only
      split
      · rename_i h
        have h1 : 0 < s.out.length := List.length_pos_iff.2 (hne (by omega))
        rw [List.length_set, getD_set_same _ _ _ _ (by omega)]
      · simp [List.getD]

end Gv.Tryz

/- The law FlatGrows gives true. -/
set_option linter.unusedVariables false
set_option linter.unusedSimpArgs false
set_option maxRecDepth 20000
namespace Gv.Tryz
open Go Gv Go.Proofs

theorem okS_all {m o : List (List Int)} (hr : rightI m o = true) : ∀ (L : List Seg) (n : Nat), okS m o n L → ∀ s ∈ L, 0 ≤ s.lo ∧ s.lo ≤ s.hi ∧ s.hi ≤ split + 1000 ∧ s.par.length ≤ 4
  | [], _, _, s, hs => by simp at hs
  | a :: r, n, h, s, hs => by
    rw [okS] at h
    obtain ⟨⟨h1, h2, h3⟩, _, h4, _, _, h5⟩ := h
    rcases List.mem_cons.1 hs with rfl | hs
    · refine ⟨h1, h2, h3, ?_⟩
      rw [← h4]; exact okRow_len hr _
    · exact okS_all hr r _ h5 s hs
theorem build_segs (m o : List (List Int)) (hm : m.length ≤ 1000) (ho : o.length ≤ 1000) (hr : rightI m o = true) (i : Nat) :
    0 ≤ ((buildI m o).getD i default).lo ∧ ((buildI m o).getD i default).lo ≤ ((buildI m o).getD i default).hi ∧ ((buildI m o).getD i default).hi ≤ split + 1000 ∧ ((buildI m o).getD i default).par.length ≤ 4 := by
  by_cases h : i < (buildI m o).length
  · have e : (buildI m o).getD i default = (buildI m o)[i] := by simp [List.getD, h]
    rw [e]
    exact okS_all hr _ 0 (build_okS m o hm ho hr) _ (List.getElem_mem h)
  · have e : (buildI m o).getD i default = default := by simp [List.getD, List.getElem?_eq_none (Nat.le_of_not_lt h)]
    rw [e]
    exact ⟨by decide, by decide, by decide, by decide⟩
end Gv.Tryz


/- Contracts: equal lists of lists and of segments. -/
set_option linter.unusedVariables false
set_option linter.unusedSimpArgs false
set_option maxRecDepth 20000
set_option maxHeartbeats 4000000
namespace Gv.Tryz
open Go Gv Go.Proofs

theorem spec63 (a b : List Int) (ta tb : Tag) (ha : a.length ≤ 17592186044416) : GPure Tryz.prog 83 [.slice (ints a) ta, .slice (ints b) tb] (.bool (a == b)) := by
  refine h83.pure mixS (by simp) ?_
  simp only [gstart, s83, List.cons_append, List.nil_append, List.length_cons, List.length_nil, Nat.reduceAdd, Nat.reduceSub, List.replicate_succ, List.replicate_zero]
  simp +contextual -implicitDefEqProofs (maxSteps := 2000000) (disch := omega) only [drawC, drawK, keepT, ↓lenV, binV, ↓loadV, ↓indexAddrV, GVal.cells, grp, GVal.ofConst, ↓resV, resG, List.map, List.headD, List.take, List.drop, ↓reduceIte, Nat.reduceEqDiff, Nat.reduceAdd, Nat.reduceSub, Nat.reduceLeDiff, reduceCtorEq, implies_true, ne_eq, aggV, Tag.cap, List.replicate, allSolid, GVal.solid, Nat.reduceBEq, Nat.reduceMul, Nat.reduceLT, List.length_map, List.length_range, splice, vcA, ↓vcB, vcC, fbFz, e83]
  refine ⟨fun h => ?_, fun h => ?_⟩
  · rw [eq_comm, beq_eq_false_iff_ne]; intro e; subst e; exact h rfl
  · have hlen : a.length = b.length := by omega
    refine vcSLoop_by (ι := { k : Nat // k ≤ a.length ∧ ∀ j, j < k → a.getD j 0 = b.getD j 0 }) (fun k => ⟨[.slice (ints a) ta, .slice (ints b) tb] ++ List.replicate 10 .any ++ [.int .i64 a.length, .int .i64 (k.1 : Nat)] ++ List.replicate 12 .any, []⟩) (fun k => a.length - k.1) ?_ ?_
    · exact Into.first ⟨0, by omega, by omega⟩ ⟨[], by simp⟩ (by simp [WL, leG_self, leG_any, leG_int, hlen])
    rintro ⟨k, hk, hj⟩
    simp only [List.replicate_succ, List.replicate_zero, List.cons_append, List.nil_append]
    simp +contextual -implicitDefEqProofs (maxSteps := 2000000) (disch := omega) only [drawC, drawK, keepT, ↓lenV, binV, ↓loadV, ↓indexAddrV, GVal.cells, grp, GVal.ofConst, ↓resV, resG, List.map, List.headD, List.take, List.drop, ↓reduceIte, Nat.reduceEqDiff, Nat.reduceAdd, Nat.reduceSub, Nat.reduceLeDiff, reduceCtorEq, implies_true, ne_eq, aggV, Tag.cap, List.replicate, allSolid, GVal.solid, Nat.reduceBEq, Nat.reduceMul, Nat.reduceLT, List.length_map, List.length_range, splice, vcA, ↓vcB, vcC, fbFz, e83]
    refine ⟨fun h1 => ⟨by omega, by omega, by omega, fun h2 => ?_, fun h2 => ?_⟩, fun h1 => ?_⟩
    · rw [eq_comm, beq_eq_false_iff_ne]; intro e; subst e; exact h2 rfl
    · refine Into.at ⟨k + 1, by omega, fun j hj' => ?_⟩ (by show _ < _; simp; omega) ⟨[], by simp⟩ (by simp [WL, leG_self, leG_any, leG_int])
      by_cases e : j = k
      · rw [e, h2]
      · exact hj j (by omega)
    · rw [eq_comm, beq_iff_eq]
      apply List.ext_getElem hlen
      intro i h3 h4
      have := hj i (by omega)
      simpa [List.getD, h3, h4] using this

theorem spec51 (a b : Seg) (ha : a.par.length ≤ 17592186044416) : GPure Tryz.prog 64 [.agg (segG a), .agg (segG b)] (.bool (decide (a = b))) := by
  obtain ⟨lo, hi, par, root, head⟩ := a
  obtain ⟨lo', hi', par', root', head'⟩ := b
  have c63 := spec63 par par' .none .none ha
  simp only [segG]
  refine h64.pure mixS (by simp) ?_
  simp only [gstart, s64, List.cons_append, List.nil_append, List.length_cons, List.length_nil, Nat.reduceAdd, Nat.reduceSub, List.replicate_succ, List.replicate_zero]
  simp +contextual -implicitDefEqProofs (maxSteps := 2000000) (disch := omega) only [binV, ↓loadV, ↓fieldAddrV, ↓boxV, GVal.cells, grp, GVal.ofConst, ↓resV, resG, List.map, List.headD, List.take, List.drop, ↓reduceIte, Nat.reduceEqDiff, Nat.reduceAdd, Nat.reduceSub, Nat.reduceLeDiff, reduceCtorEq, implies_true, ne_eq, aggV, Tag.cap, List.replicate, allSolid, GVal.solid, Nat.reduceBEq, Nat.reduceMul, Nat.reduceLT, List.length_map, List.length_range, splice, vcA, ↓vcB, vcC, fbFz, e64]
  simp only [Seg.mk.injEq]
  refine ⟨fun h1 => ⟨fun h2 => c63.then ?_, fun h2 => ?_⟩, fun h1 => ?_⟩
  · cases hp : (par == par')
    · simp +contextual -implicitDefEqProofs (maxSteps := 2000000) (disch := omega) only [binV, ↓loadV, ↓fieldAddrV, ↓boxV, GVal.cells, grp, GVal.ofConst, ↓resV, resG, List.map, List.headD, List.take, List.drop, ↓reduceIte, Nat.reduceEqDiff, Nat.reduceAdd, Nat.reduceSub, Nat.reduceLeDiff, reduceCtorEq, implies_true, ne_eq, aggV, Tag.cap, List.replicate, allSolid, GVal.solid, Nat.reduceBEq, Nat.reduceMul, Nat.reduceLT, List.length_map, List.length_range, splice, vcA, ↓vcB, vcC, fbFz, e64]
      have : ¬ par = par' := by simpa using hp
      simp [this]
    · have : par = par' := by simpa using hp
      cases root <;> cases root' <;> cases head <;> cases head' <;> simp +contextual -implicitDefEqProofs (maxSteps := 2000000) (disch := omega) only [binV, ↓loadV, ↓fieldAddrV, ↓boxV, GVal.cells, grp, GVal.ofConst, ↓resV, resG, List.map, List.headD, List.take, List.drop, ↓reduceIte, Nat.reduceEqDiff, Nat.reduceAdd, Nat.reduceSub, Nat.reduceLeDiff, reduceCtorEq, implies_true, ne_eq, aggV, Tag.cap, List.replicate, allSolid, GVal.solid, Nat.reduceBEq, Nat.reduceMul, Nat.reduceLT, List.length_map, List.length_range, splice, vcA, ↓vcB, vcC, fbFz, e64] <;> simp [h1, h2, this]
  · simp [h2]
  · simp [h1]

theorem segs_ext {a b : List Seg} (h : a.length = b.length) (hj : ∀ j, j < a.length → a.getD j default = b.getD j default) : a = b := by
  apply List.ext_getElem h
  intro i h3 h4
  have := hj i h3
  simpa [List.getD, h3, h4] using this

theorem spec50 (a b : List Seg) (ta tb : Tag) (ha : a.length ≤ 17592186044416) (hp : ∀ i, (a.getD i default).par.length ≤ 17592186044416) : GPure Tryz.prog 63 [.slice (segsG a) ta, .slice (segsG b) tb, .func (.func 64) [] []] (.bool (decide (a = b))) := by
  refine h63.pure mixS (by simp) ?_
  simp only [gstart, s63, List.cons_append, List.nil_append, List.length_cons, List.length_nil, Nat.reduceAdd, Nat.reduceSub, List.replicate_succ, List.replicate_zero]
  simp +contextual -implicitDefEqProofs (maxSteps := 2000000) (disch := omega) only [↓lenV, binV, ↓unV, ↓loadV, ↓storeV, ↓indexAddrV, ↓allocV, GVal.cells, grp, GVal.ofConst, ↓resV, resG, List.map, List.headD, List.take, List.drop, ↓reduceIte, Nat.reduceEqDiff, Nat.reduceAdd, Nat.reduceSub, Nat.reduceLeDiff, reduceCtorEq, implies_true, ne_eq, aggV, Tag.cap, List.replicate, allSolid, GVal.solid, Nat.reduceBEq, Nat.reduceMul, Nat.reduceLT, List.length_map, List.length_range, splice, vcA, ↓vcB, vcC, fbFz, e63, segsG_length]
  refine ⟨fun h => ?_, fun h => ?_⟩
  · rw [eq_comm, decide_eq_false_iff_not]; intro e; subst e; exact h rfl
  · have hlen : a.length = b.length := by omega
    refine vcSLoop_by (ι := { k : Nat // k ≤ a.length ∧ ∀ j, j < k → a.getD j default = b.getD j default }) (fun k => ⟨[.slice (segsG a) ta, .slice (segsG b) tb, .func (.func 64) [] []] ++ List.replicate 12 .any ++ [.slice (segsG a) ta, .int .i64 a.length, .int .i64 (k.1 : Nat)] ++ List.replicate 14 .any, []⟩) (fun k => a.length - k.1) ?_ ?_
    · exact Into.first ⟨0, by omega, by omega⟩ ⟨[], by simp⟩ (by simp [WL, leG_self, leG_any, leG_int, hlen])
    rintro ⟨k, hk, hj⟩
    simp only [List.replicate_succ, List.replicate_zero, List.cons_append, List.nil_append]
    have c51 := spec51 (a.getD k default) (b.getD k default) (hp k)
    simp +contextual -implicitDefEqProofs (maxSteps := 2000000) (disch := omega) only [↓lenV, binV, ↓unV, ↓loadV, ↓storeV, ↓indexAddrV, ↓allocV, GVal.cells, grp, GVal.ofConst, ↓resV, resG, List.map, List.headD, List.take, List.drop, ↓reduceIte, Nat.reduceEqDiff, Nat.reduceAdd, Nat.reduceSub, Nat.reduceLeDiff, reduceCtorEq, implies_true, ne_eq, aggV, Tag.cap, List.replicate, allSolid, GVal.solid, Nat.reduceBEq, Nat.reduceMul, Nat.reduceLT, List.length_map, List.length_range, splice, vcA, ↓vcB, vcC, fbFz, e63, segsG_length, segsG_at, segG]
    refine ⟨fun h1 => ⟨by omega, fun s1 => ⟨by omega, by omega, fun s2 => c51.then ?_⟩⟩, fun h1 => ?_⟩
    · by_cases e : a.getD k default = b.getD k default
      · rw [decide_eq_true e]
        simp +contextual -implicitDefEqProofs (maxSteps := 2000000) (disch := omega) only [↓lenV, binV, ↓unV, ↓loadV, ↓storeV, ↓indexAddrV, ↓allocV, GVal.cells, grp, GVal.ofConst, ↓resV, resG, List.map, List.headD, List.take, List.drop, ↓reduceIte, Nat.reduceEqDiff, Nat.reduceAdd, Nat.reduceSub, Nat.reduceLeDiff, reduceCtorEq, implies_true, ne_eq, aggV, Tag.cap, List.replicate, allSolid, GVal.solid, Nat.reduceBEq, Nat.reduceMul, Nat.reduceLT, List.length_map, List.length_range, splice, vcA, ↓vcB, vcC, fbFz, e63]
        refine Into.at ⟨k + 1, by omega, fun j hj' => ?_⟩ (by show _ < _; simp; omega) ⟨_, rfl⟩ (by simp [WL, leG_self, leG_any, leG_int])
        by_cases e : j = k
        · rw [e]; assumption
        · exact hj j (by omega)
      · rw [decide_eq_false e]
        simp +contextual -implicitDefEqProofs (maxSteps := 2000000) (disch := omega) only [↓lenV, binV, ↓unV, ↓loadV, ↓storeV, ↓indexAddrV, ↓allocV, GVal.cells, grp, GVal.ofConst, ↓resV, resG, List.map, List.headD, List.take, List.drop, ↓reduceIte, Nat.reduceEqDiff, Nat.reduceAdd, Nat.reduceSub, Nat.reduceLeDiff, reduceCtorEq, implies_true, ne_eq, aggV, Tag.cap, List.replicate, allSolid, GVal.solid, Nat.reduceBEq, Nat.reduceMul, Nat.reduceLT, List.length_map, List.length_range, splice, vcA, ↓vcB, vcC, fbFz, e63]
        rw [eq_comm, decide_eq_false_iff_not]; intro e'; exact e (by rw [e'])
    · rw [eq_comm, decide_eq_true_iff]
      exact segs_ext hlen fun j h => hj j (by omega)

end Gv.Tryz
/- Contracts: the same tables, the document's Find. -/
set_option linter.unusedVariables false
set_option linter.unusedSimpArgs false
set_option maxRecDepth 20000
set_option maxHeartbeats 4000000
namespace Gv.Tryz
open Go Gv Go.Proofs

def fnd (id : Int) : List Seg → Nat → Int × Bool
  | [], _ => (0, false)
  | s :: r, k => if s.lo ≤ id ∧ id ≤ s.hi then ((k : Int), true) else fnd id r (k + 1)
end Gv.Tryz
/- Contracts: a segment's rows put behind a table's. -/
set_option linter.unusedVariables false
set_option linter.unusedSimpArgs false
set_option maxRecDepth 20000
set_option maxHeartbeats 8000000
namespace Gv.Tryz
open Go Gv Go.Proofs

def ones (l : List Int) : List (List Int) := l.map fun n => [n]
theorem ones_append (a b : List Int) : ones (a ++ b) = ones a ++ ones b := by simp [ones]
def rowsS (s : Seg) : List (List Int) := s.par :: ones (ups s.lo (s.hi - s.lo).toNat)
theorem rowsS_len (s : Seg) : (rowsS s).length = (s.hi - s.lo).toNat + 1 := by simp [rowsS, ones, ups]
def putOK (s : Seg) (next room : Int) : Bool := decide (s.lo = next ∧ s.lo ≤ s.hi ∧ s.hi - s.lo < room)
def putG (s : Seg) (next room : Int) (l : List (List Int)) (i v : Nat) : GVal := if putOK s next room = true then .tuple [.slice (tabG (l ++ rowsS s)) (.tok i v), .bool true] else .tuple [.slice [] .nil, .bool false]
theorem tabG_snoc (l : List (List Int)) (p : List Int) : tabG l ++ [[.slice (ints p) .none]] = tabG (l ++ [p]) := by rw [tabG_append]; rfl

theorem c49M (l : List (List Int)) (s : Seg) (next room : Int) (a b v w e : Nat) (c1 c2 c3 : List GVal) (h0 : 0 ≤ next) (h1 : next ≤ 1099511628776) (hl : l.length ≤ 1000) (hr : room ≤ 1000) (hp : s.par.length ≤ 17592186044416) (hh : s.hi ≤ 9223372036854775807) :
    GCalls Tryz.prog 62 [.slice (tabG l) (.tok 2 v), .agg (segG s), .int .i64 next, .int .i64 room] [.row a 2 [c1], .row b 2 [c2], .tok v 1, .tok w 1, .row e 5 [c3]]
      (fun g O' => ∃ u, g = putG s next room l 2 u ∧ O' = [.row a 2 [c1], .row b 2 [c2], .tok u 1, .tok w 1, .row e 5 [c3]]) := by
  obtain ⟨lo, hi, par, root, head⟩ := s
  simp only [segG]
  change hi ≤ 9223372036854775807 at hh
  refine h62.calls mixS (by simp) ?_
  simp only [gstart, s62, List.cons_append, List.nil_append, List.length_cons, List.length_nil, Nat.reduceAdd, Nat.reduceSub, List.replicate_succ, List.replicate_zero]
  simp +contextual -implicitDefEqProofs (maxSteps := 2000000) (disch := omega) only [binV, optV, ↓loadV, ↓fieldAddrV, ↓boxV, ↓buildSliceV, ↓sliceV, ↓appendV, ↓srcV, bound, cutTag, hiTag, fillE, GVal.cells, grp, GVal.ofConst, ↓resV, resG, List.map, List.headD, List.take, List.drop, ↓reduceIte, Nat.reduceEqDiff, Nat.reduceAdd, Nat.reduceSub, Nat.reduceLeDiff, reduceCtorEq, implies_true, ne_eq, ↓asrcV, aggV, Tag.cap, List.replicate, allSolid, GVal.solid, Nat.reduceBEq, Nat.reduceMul, Nat.reduceLT, List.length_map, List.length_range, splice, vcA, ↓vcB, vcC, fbFz, e62]
  have bad : ¬ (lo = next ∧ lo ≤ hi ∧ hi - lo < room) → putOK ⟨lo, hi, par, root, head⟩ next room = false := fun h => decide_eq_false h
  have putF : putOK ⟨lo, hi, par, root, head⟩ next room = false → ∃ u, GVal.tuple [GVal.slice [] Tag.nil, GVal.bool false] = putG ⟨lo, hi, par, root, head⟩ next room l 2 u ∧ [GObj.row a 2 [c1], GObj.row b 2 [c2], GObj.tok v 1, GObj.tok w 1, GObj.row e 5 [c3]] = [GObj.row a 2 [c1], GObj.row b 2 [c2], .tok u 1, .tok w 1, GObj.row e 5 [c3]] := fun h => ⟨v, by rw [putG, if_neg (by rw [h]; simp)], rfl⟩
  refine ⟨fun h2 => putF (bad fun h => h2 h.1), fun h2 => ?_⟩
  · subst h2
    refine ⟨fun h3 => putF (bad (by omega)), fun h3 => ?_⟩
    refine ⟨fun h4 => putF (bad (by omega)), fun h4 => ?_⟩
    have hok : putOK ⟨lo, hi, par, root, head⟩ lo room = true := decide_eq_true ⟨rfl, h3, h4⟩
    refine (spec58 par .none hp (by simp)).then ?_
    simp +contextual -implicitDefEqProofs (maxSteps := 2000000) (disch := omega) only [binV, optV, ↓loadV, ↓fieldAddrV, ↓boxV, ↓buildSliceV, ↓sliceV, ↓appendV, ↓srcV, bound, cutTag, hiTag, fillE, GVal.cells, grp, GVal.ofConst, ↓resV, resG, List.map, List.headD, List.take, List.drop, ↓reduceIte, Nat.reduceEqDiff, Nat.reduceAdd, Nat.reduceSub, Nat.reduceLeDiff, reduceCtorEq, implies_true, ne_eq, ↓asrcV, aggV, Tag.cap, List.replicate, allSolid, GVal.solid, Nat.reduceBEq, Nat.reduceMul, Nat.reduceLT, List.length_map, List.length_range, splice, vcA, ↓vcB, vcC, fbFz, e62]
    repeat (refine ⟨by omega, ?_⟩)
    intro u0
    refine vcSLoop_by (ι := { p : Nat × Nat // (p.1 : Int) ≤ hi - lo }) (fun p => ⟨[.slice (tabG (l ++ par :: ones (ups lo p.1.1))) (.tok 2 p.1.2), .agg (segG ⟨lo, hi, par, root, head⟩), .int .i64 lo, .int .i64 room, .any, .ref (segG ⟨lo, hi, par, root, head⟩), .any, .any, .any, .any, .int .i64 (lo + p.1.1 + 1)] ++ List.replicate 42 .any, [.row a 2 [c1], .row b 2 [c2], .tok p.1.2 1, .tok w 1, .row e 5 [c3]]⟩) (fun p => (hi - lo).toNat - p.1.1) ?_ ?_
    · exact Into.first ⟨(0, u0), by show ((0 : Nat) : Int) ≤ hi - lo; omega⟩ ⟨[], by simp⟩ (by simp [WL, leG_self, leG_any, segG, ups_zero, ones, tabG])
    · rintro ⟨⟨k, u⟩, hk⟩
      change (k : Int) ≤ hi - lo at hk
      simp +contextual -implicitDefEqProofs (maxSteps := 2000000) (disch := omega) only [binV, optV, ↓loadV, ↓fieldAddrV, ↓boxV, ↓buildSliceV, ↓sliceV, ↓appendV, ↓srcV, bound, cutTag, hiTag, fillE, GVal.cells, grp, GVal.ofConst, ↓resV, resG, List.map, List.headD, List.take, List.drop, ↓reduceIte, Nat.reduceEqDiff, Nat.reduceAdd, Nat.reduceSub, Nat.reduceLeDiff, reduceCtorEq, implies_true, ne_eq, ↓asrcV, aggV, Tag.cap, List.replicate, allSolid, GVal.solid, Nat.reduceBEq, Nat.reduceMul, Nat.reduceLT, List.length_map, List.length_range, splice, vcA, ↓vcB, vcC, fbFz, e62, segG]
      refine ⟨fun h5 => ?_, fun h5 => ?_⟩
      · have eL : (l ++ par :: ones (ups lo k)).length = l.length + (k + 1) := by simp [ones, ups]
        refine ⟨by omega, by omega, fun st => ?_⟩
        rw [show lo + (k : Int) + 1 - 1 = lo + k from by omega]
        refine Into.snoc 0 _ _ [.slice (ints [lo + k]) .none] _ rfl (by simp [WL, leG_none, ints]) ?_
        refine Into.at ⟨(k + 1, st), by show ((k + 1 : Nat) : Int) ≤ _; omega⟩ (by show _ < _; simp; omega) ⟨[], by simp⟩ ?_
        have e1 : tabG (l ++ par :: ones (ups lo k)) ++ [[.slice (ints [lo + k]) .none]] = tabG (l ++ par :: ones (ups lo (k + 1))) := by
          rw [tabG_snoc, ups_succ, ones_append]; simp [ones]
        rw [e1]
        simp [WL, leG_self, leG_any, leG_int, segG]; omega
      · have hk2 : k = (hi - lo).toNat := by omega
        refine ⟨u, ?_, rfl⟩
        rw [putG, if_pos hok, hk2]; rfl

theorem c49O (l : List (List Int)) (s : Seg) (next room : Int) (a b v w e : Nat) (c1 c2 c3 : List GVal) (h0 : 0 ≤ next) (h1 : next ≤ 1099511628776) (hl : l.length ≤ 1000) (hr : room ≤ 1000) (hp : s.par.length ≤ 17592186044416) (hh : s.hi ≤ 9223372036854775807) :
    GCalls Tryz.prog 62 [.slice (tabG l) (.tok 3 w), .agg (segG s), .int .i64 next, .int .i64 room] [.row a 2 [c1], .row b 2 [c2], .tok v 1, .tok w 1, .row e 5 [c3]]
      (fun g O' => ∃ u, g = putG s next room l 3 u ∧ O' = [.row a 2 [c1], .row b 2 [c2], .tok v 1, .tok u 1, .row e 5 [c3]]) := by
  obtain ⟨lo, hi, par, root, head⟩ := s
  simp only [segG]
  change hi ≤ 9223372036854775807 at hh
  refine h62.calls mixS (by simp) ?_
  simp only [gstart, s62, List.cons_append, List.nil_append, List.length_cons, List.length_nil, Nat.reduceAdd, Nat.reduceSub, List.replicate_succ, List.replicate_zero]
  simp +contextual -implicitDefEqProofs (maxSteps := 2000000) (disch := omega) only [binV, optV, ↓loadV, ↓fieldAddrV, ↓boxV, ↓buildSliceV, ↓sliceV, ↓appendV, ↓srcV, bound, cutTag, hiTag, fillE, GVal.cells, grp, GVal.ofConst, ↓resV, resG, List.map, List.headD, List.take, List.drop, ↓reduceIte, Nat.reduceEqDiff, Nat.reduceAdd, Nat.reduceSub, Nat.reduceLeDiff, reduceCtorEq, implies_true, ne_eq, ↓asrcV, aggV, Tag.cap, List.replicate, allSolid, GVal.solid, Nat.reduceBEq, Nat.reduceMul, Nat.reduceLT, List.length_map, List.length_range, splice, vcA, ↓vcB, vcC, fbFz, e62]
  have bad : ¬ (lo = next ∧ lo ≤ hi ∧ hi - lo < room) → putOK ⟨lo, hi, par, root, head⟩ next room = false := fun h => decide_eq_false h
  have putF : putOK ⟨lo, hi, par, root, head⟩ next room = false → ∃ u, GVal.tuple [GVal.slice [] Tag.nil, GVal.bool false] = putG ⟨lo, hi, par, root, head⟩ next room l 3 u ∧ [GObj.row a 2 [c1], GObj.row b 2 [c2], GObj.tok v 1, GObj.tok w 1, GObj.row e 5 [c3]] = [GObj.row a 2 [c1], GObj.row b 2 [c2], .tok v 1, .tok u 1, GObj.row e 5 [c3]] := fun h => ⟨w, by rw [putG, if_neg (by rw [h]; simp)], rfl⟩
  refine ⟨fun h2 => putF (bad fun h => h2 h.1), fun h2 => ?_⟩
  · subst h2
    refine ⟨fun h3 => putF (bad (by omega)), fun h3 => ?_⟩
    refine ⟨fun h4 => putF (bad (by omega)), fun h4 => ?_⟩
    have hok : putOK ⟨lo, hi, par, root, head⟩ lo room = true := decide_eq_true ⟨rfl, h3, h4⟩
    refine (spec58 par .none hp (by simp)).then ?_
    simp +contextual -implicitDefEqProofs (maxSteps := 2000000) (disch := omega) only [binV, optV, ↓loadV, ↓fieldAddrV, ↓boxV, ↓buildSliceV, ↓sliceV, ↓appendV, ↓srcV, bound, cutTag, hiTag, fillE, GVal.cells, grp, GVal.ofConst, ↓resV, resG, List.map, List.headD, List.take, List.drop, ↓reduceIte, Nat.reduceEqDiff, Nat.reduceAdd, Nat.reduceSub, Nat.reduceLeDiff, reduceCtorEq, implies_true, ne_eq, ↓asrcV, aggV, Tag.cap, List.replicate, allSolid, GVal.solid, Nat.reduceBEq, Nat.reduceMul, Nat.reduceLT, List.length_map, List.length_range, splice, vcA, ↓vcB, vcC, fbFz, e62]
    repeat (refine ⟨by omega, ?_⟩)
    intro u0
    refine vcSLoop_by (ι := { p : Nat × Nat // (p.1 : Int) ≤ hi - lo }) (fun p => ⟨[.slice (tabG (l ++ par :: ones (ups lo p.1.1))) (.tok 3 p.1.2), .agg (segG ⟨lo, hi, par, root, head⟩), .int .i64 lo, .int .i64 room, .any, .ref (segG ⟨lo, hi, par, root, head⟩), .any, .any, .any, .any, .int .i64 (lo + p.1.1 + 1)] ++ List.replicate 42 .any, [.row a 2 [c1], .row b 2 [c2], .tok v 1, .tok p.1.2 1, .row e 5 [c3]]⟩) (fun p => (hi - lo).toNat - p.1.1) ?_ ?_
    · exact Into.first ⟨(0, u0), by show ((0 : Nat) : Int) ≤ hi - lo; omega⟩ ⟨[], by simp⟩ (by simp [WL, leG_self, leG_any, segG, ups_zero, ones, tabG])
    · rintro ⟨⟨k, u⟩, hk⟩
      change (k : Int) ≤ hi - lo at hk
      simp +contextual -implicitDefEqProofs (maxSteps := 2000000) (disch := omega) only [binV, optV, ↓loadV, ↓fieldAddrV, ↓boxV, ↓buildSliceV, ↓sliceV, ↓appendV, ↓srcV, bound, cutTag, hiTag, fillE, GVal.cells, grp, GVal.ofConst, ↓resV, resG, List.map, List.headD, List.take, List.drop, ↓reduceIte, Nat.reduceEqDiff, Nat.reduceAdd, Nat.reduceSub, Nat.reduceLeDiff, reduceCtorEq, implies_true, ne_eq, ↓asrcV, aggV, Tag.cap, List.replicate, allSolid, GVal.solid, Nat.reduceBEq, Nat.reduceMul, Nat.reduceLT, List.length_map, List.length_range, splice, vcA, ↓vcB, vcC, fbFz, e62, segG]
      refine ⟨fun h5 => ?_, fun h5 => ?_⟩
      · have eL : (l ++ par :: ones (ups lo k)).length = l.length + (k + 1) := by simp [ones, ups]
        refine ⟨by omega, by omega, fun st => ?_⟩
        rw [show lo + (k : Int) + 1 - 1 = lo + k from by omega]
        refine Into.snoc 0 _ _ [.slice (ints [lo + k]) .none] _ rfl (by simp [WL, leG_none, ints]) ?_
        refine Into.at ⟨(k + 1, st), by show ((k + 1 : Nat) : Int) ≤ _; omega⟩ (by show _ < _; simp; omega) ⟨[], by simp⟩ ?_
        have e1 : tabG (l ++ par :: ones (ups lo k)) ++ [[.slice (ints [lo + k]) .none]] = tabG (l ++ par :: ones (ups lo (k + 1))) := by
          rw [tabG_snoc, ups_succ, ones_append]; simp [ones]
        rw [e1]
        simp [WL, leG_self, leG_any, leG_int, segG]; omega
      · have hk2 : k = (hi - lo).toNat := by omega
        refine ⟨u, ?_, rfl⟩
        rw [putG, if_pos hok, hk2]; rfl

end Gv.Tryz
/- Contract: the table of segments. -/
set_option linter.unusedVariables false
set_option linter.unusedSimpArgs false
set_option maxRecDepth 20000
set_option maxHeartbeats 8000000
namespace Gv.Tryz
open Go Gv Go.Proofs

abbrev Tab := List (List Int) × List (List Int)
def roomT (t : Tab) : Int := 1000 - (t.1.length : Int) - (t.2.length : Int)
def bstep (t : Tab) (s : Seg) : Option Tab :=
  if s.lo < 1099511627776 then (if putOK s (t.1.length : Int) (roomT t) = true then some (t.1 ++ rowsS s, t.2) else none)
  else (if putOK s (1099511627776 + (t.2.length : Int)) (roomT t) = true then some (t.1, t.2 ++ rowsS s) else none)
def bfold : Tab → List Seg → Option Tab
  | t, [] => some t
  | t, s :: r => match bstep t s with
    | none => none
    | some t' => bfold t' r
theorem bfold_drop (t : Tab) (l : List Seg) (k : Nat) (hk : k < l.length) : bfold t (l.drop k) = match bstep t (l.getD k default) with | none => none | some t' => bfold t' (l.drop (k + 1)) := by
  rw [List.drop_eq_getElem_cons hk, bfold]; simp [List.getD, hk]
def backI (l : List Seg) : Option Tab := match bfold ([], []) l with
  | none => none
  | some t => if rightI t.1 t.2 = true ∧ buildI t.1 t.2 = l then some t else none
def tabOf (o : Option Tab) : Tab := match o with | some t => t | none => ([], [])
def tgOf (o : Option Tab) : Tag := match o with | some _ => .none | none => .nil
def pairTG (o : Option Tab) : GVal := .tuple [.agg [.slice (tabG (tabOf o).1) (tgOf o), .slice (tabG (tabOf o).2) (tgOf o)], .bool o.isSome]
def okT (t : Tab) : Prop := t.1.length + t.2.length ≤ 1000 ∧ (∀ p ∈ t.1, p.length ≤ 17592186044416) ∧ ∀ p ∈ t.2, p.length ≤ 17592186044416
theorem rowsS_le (s : Seg) (h : s.par.length ≤ 17592186044416) : ∀ p ∈ rowsS s, p.length ≤ 17592186044416 := by
  intro p hp
  rw [rowsS, ones] at hp
  rcases List.mem_cons.1 hp with rfl | hp
  · exact h
  · obtain ⟨n, _, rfl⟩ := List.mem_map.1 hp; simp
theorem bstep_ok {t t' : Tab} {s : Seg} (h : okT t) (hs : s.par.length ≤ 17592186044416) (hb : bstep t s = some t') : okT t' := by
  obtain ⟨h1, h2, h3⟩ := h
  unfold bstep at hb
  have hr : roomT t = 1000 - (t.1.length : Int) - (t.2.length : Int) := rfl
  have hl := rowsS_len s
  have hq := rowsS_le s hs
  split at hb
  · split at hb
    · rename_i hp
      simp only [Option.some.injEq] at hb
      subst hb
      have hp := of_decide_eq_true hp
      refine ⟨?_, fun p hp => ?_, h3⟩
      · show (t.1 ++ rowsS s).length + t.2.length ≤ _
        rw [List.length_append]; omega
      · rcases List.mem_append.1 hp with hp | hp
        · exact h2 p hp
        · exact hq p hp
    · cases hb
  · split at hb
    · rename_i hp
      simp only [Option.some.injEq] at hb
      subst hb
      have hp := of_decide_eq_true hp
      refine ⟨?_, h2, fun p hp => ?_⟩
      · show t.1.length + (t.2 ++ rowsS s).length ≤ _
        rw [List.length_append]; omega
      · rcases List.mem_append.1 hp with hp | hp
        · exact h3 p hp
        · exact hq p hp
    · cases hb

theorem build_len (m o : List (List Int)) : (buildI m o).length ≤ m.length + o.length := by
  have q1 := (lrun_len 0 m m.length).1
  have q2 := (lrun_len split o o.length).1
  rw [buildI]
  split
  · rw [List.length_append, linesI, linesI]; omega
  · simp
theorem frz_pair (O : List GObj) (M N : List (List Int)) (t1 t2 : Tag) (b : Bool) : frzTo (.tuple [.agg [.slice (tabG M) t1.frz, .slice (tabG N) t2.frz], .bool b]) (.tuple [.agg [.slice (tabG M) t1, .slice (tabG N) t2], .bool b]) O := by
  have h1 : Gv.frz O 4 (.agg [.slice (tabG M) t1, .slice (tabG N) t2]) = some (.agg [.slice (tabG M) t1.frz, .slice (tabG N) t2.frz]) := frz_agg2 (frz_tabS _ 0 _ _) (frz_tabS _ 0 _ _)
  have h2 : Gv.frz O 4 (.bool b) = some (.bool b) := rfl
  refine ⟨5, .tuple [.agg [.slice (tabG M) t1.frz, .slice (tabG N) t2.frz], .bool b], ?_, ?_⟩
  · rw [Gv.frz]; simp only [frzL, h1, h2]
  · rw [leA_tuple]; simp [WL, leG_self]

theorem spec27 (l : List Seg) (t : Tag) (hl : l.length ≤ 17592186044416) (hp : ∀ i, (l.getD i default).par.length ≤ 17592186044416) (hh : ∀ i, (l.getD i default).hi ≤ 9223372036854775807) :
    GPure Tryz.prog 34 [.slice (segsG l) t] (pairTG (backI l)) := by
  refine h34.pureF mixS (by simp) ?_
  simp only [gstart, s34, List.cons_append, List.nil_append, List.length_cons, List.length_nil, Nat.reduceAdd, Nat.reduceSub, List.replicate_succ, List.replicate_zero]
  simp +contextual -implicitDefEqProofs (maxSteps := 2000000) (disch := omega) only [↓lenV, binV, ↓unV, ↓loadV, ↓storeV, ↓fieldAddrV, ↓indexAddrV, ↓allocV, ↓buildV, fillG, place, GVal.cells, grp, GVal.ofConst, ↓resV, resG, List.map, List.headD, List.take, List.drop, ↓reduceIte, Nat.reduceEqDiff, Nat.reduceAdd, Nat.reduceSub, Nat.reduceLeDiff, reduceCtorEq, implies_true, ne_eq, Tag.cap, List.replicate, allSolid, GVal.solid, Nat.reduceBEq, Nat.reduceMul, Nat.reduceLT, List.length_map, List.length_range, splice, vcA, ↓vcB, vcC, fbFz, e34, segsG_length]
  intro st0 st1
  refine vcSLoop_by (ι := { p : Nat × Tab × Nat × Nat // p.1 ≤ l.length ∧ bfold ([], []) l = bfold p.2.1 (l.drop p.1) ∧ okT p.2.1 }) (fun p => ⟨[.slice (segsG l) t, .any, .ptr 0 st0 0 0, .any, .ptr 1 st1 0 0, .any, .any, .any, .any, .slice (segsG l) t, .int .i64 l.length, .int .i64 (p.1.1 : Nat)] ++ List.replicate 55 .any, [.row st0 2 [[.slice [] .nil, .slice [] .nil]], .row st1 2 [[.slice (tabG p.1.2.1.1) (.tok 2 p.1.2.2.1), .slice (tabG p.1.2.1.2) (.tok 3 p.1.2.2.2)]], .tok p.1.2.2.1 1, .tok p.1.2.2.2 1]⟩) (fun p => l.length - p.1.1) ?_ ?_
  · refine Into.cellTok 1 0 1 [] rfl rfl rfl rfl ?_
    simp +contextual -implicitDefEqProofs (maxSteps := 2000000) (disch := omega) only [↓lenV, binV, ↓unV, ↓loadV, ↓storeV, ↓fieldAddrV, ↓indexAddrV, ↓allocV, ↓buildV, fillG, place, GVal.cells, grp, GVal.ofConst, ↓resV, resG, List.map, List.headD, List.take, List.drop, ↓reduceIte, Nat.reduceEqDiff, Nat.reduceAdd, Nat.reduceSub, Nat.reduceLeDiff, reduceCtorEq, implies_true, ne_eq, Tag.cap, List.replicate, allSolid, GVal.solid, Nat.reduceBEq, Nat.reduceMul, Nat.reduceLT, List.length_map, List.length_range, splice, vcA, ↓vcB, vcC, fbFz, e34]
    intro v
    refine Into.cellTok 1 1 1 [] rfl rfl rfl rfl ?_
    simp +contextual -implicitDefEqProofs (maxSteps := 2000000) (disch := omega) only [↓lenV, binV, ↓unV, ↓loadV, ↓storeV, ↓fieldAddrV, ↓indexAddrV, ↓allocV, ↓buildV, fillG, place, GVal.cells, grp, GVal.ofConst, ↓resV, resG, List.map, List.headD, List.take, List.drop, ↓reduceIte, Nat.reduceEqDiff, Nat.reduceAdd, Nat.reduceSub, Nat.reduceLeDiff, reduceCtorEq, implies_true, ne_eq, Tag.cap, List.replicate, allSolid, GVal.solid, Nat.reduceBEq, Nat.reduceMul, Nat.reduceLT, List.length_map, List.length_range, splice, vcA, ↓vcB, vcC, fbFz, e34]
    intro w
    exact Into.first ⟨(0, ([], []), v, w), by omega, by simp, by simp [okT]⟩ ⟨[], by simp [tabG_nil]⟩ (by simp [WL, leG_self, leG_any])
  · rintro ⟨⟨k, ⟨M, O⟩, v, w⟩, hk, hx, hok⟩
    change bfold ([], []) l = bfold (M, O) (l.drop k) at hx
    change okT (M, O) at hok
    have hlen : M.length + O.length ≤ 1000 := hok.1
    by_cases h : k < l.length
    · rw [bfold_drop _ _ _ h] at hx
      have hpk := hp k
      have hhk := hh k
      have eS : (segsG l).getD k [] = segG (l.getD k default) := segsG_at l k h
      have d0 : decide ((k : Int) < (l.length : Int)) = true := decide_eq_true (by omega)
      generalize l.getD k default = s at *
      have hrt : roomT (M, O) = 1000 - (M.length : Int) - (O.length : Int) := rfl
      simp +contextual -implicitDefEqProofs (maxSteps := 2000000) (disch := omega) only [↓lenV, binV, ↓unV, ↓loadV, ↓storeV, ↓fieldAddrV, ↓indexAddrV, ↓allocV, ↓buildV, fillG, place, GVal.cells, grp, GVal.ofConst, ↓resV, resG, List.map, List.headD, List.take, List.drop, ↓reduceIte, Nat.reduceEqDiff, Nat.reduceAdd, Nat.reduceSub, Nat.reduceLeDiff, reduceCtorEq, implies_true, ne_eq, Tag.cap, List.replicate, allSolid, GVal.solid, Nat.reduceBEq, Nat.reduceMul, Nat.reduceLT, List.length_map, List.length_range, splice, vcA, ↓vcB, vcC, fbFz, e34, segsG_length, eS, segG, d0, setO_3, setO_4]
      repeat (refine ⟨by omega, ?_⟩)
      intro st2
      have back0 : bstep (M, O) s = none → backI l = none := fun e => by rw [backI, hx, e]
      refine ⟨fun h1 => ?_, fun h1 => ?_⟩
      · refine (c49M M s M.length (1000 - (M.length : Int) - (O.length : Int)) st0 st1 v w st2 _ _ _ (by omega) (by omega) (by omega) (by omega) hpk hhk).mono ?_
        rintro g O' ⟨u, rfl, rfl⟩
        have hb : bstep (M, O) s = if putOK s M.length (1000 - (M.length : Int) - (O.length : Int)) = true then some (M ++ rowsS s, O) else none := by rw [bstep, if_pos h1]; rfl
        rw [putG]
        by_cases hq : putOK s M.length (1000 - (M.length : Int) - (O.length : Int)) = true
        · rw [if_pos hq] at hb ⊢
          rw [hb] at hx
          simp +contextual -implicitDefEqProofs (maxSteps := 2000000) (disch := omega) only [↓lenV, binV, ↓unV, ↓loadV, ↓storeV, ↓fieldAddrV, ↓indexAddrV, ↓allocV, ↓buildV, fillG, place, GVal.cells, grp, GVal.ofConst, ↓resV, resG, List.map, List.headD, List.take, List.drop, ↓reduceIte, Nat.reduceEqDiff, Nat.reduceAdd, Nat.reduceSub, Nat.reduceLeDiff, reduceCtorEq, implies_true, ne_eq, Tag.cap, List.replicate, allSolid, GVal.solid, Nat.reduceBEq, Nat.reduceMul, Nat.reduceLT, List.length_map, List.length_range, splice, vcA, ↓vcB, vcC, fbFz, e34, setO_3, setO_4]
          exact Into.at ⟨(k + 1, (M ++ rowsS s, O), u, w), by show k + 1 ≤ _; omega, hx, bstep_ok hok hpk hb⟩ (by show _ < _; simp; omega) ⟨_, rfl⟩ (by simp [WL, leG_self, leG_any, leG_int])
        · rw [if_neg hq] at hb ⊢
          rw [back0 hb]
          simp +contextual -implicitDefEqProofs (maxSteps := 2000000) (disch := omega) only [↓lenV, binV, ↓unV, ↓loadV, ↓storeV, ↓fieldAddrV, ↓indexAddrV, ↓allocV, ↓buildV, fillG, place, GVal.cells, grp, GVal.ofConst, ↓resV, resG, List.map, List.headD, List.take, List.drop, ↓reduceIte, Nat.reduceEqDiff, Nat.reduceAdd, Nat.reduceSub, Nat.reduceLeDiff, reduceCtorEq, implies_true, ne_eq, Tag.cap, List.replicate, allSolid, GVal.solid, Nat.reduceBEq, Nat.reduceMul, Nat.reduceLT, List.length_map, List.length_range, splice, vcA, ↓vcB, vcC, fbFz, e34, setO_3, setO_4]
          exact frz_pair _ [] [] .nil .nil false
      · refine (c49O O s (1099511627776 + (O.length : Int)) (1000 - (M.length : Int) - (O.length : Int)) st0 st1 v w st2 _ _ _ (by omega) (by omega) (by omega) (by omega) hpk hhk).mono ?_
        rintro g O' ⟨u, rfl, rfl⟩
        have hb : bstep (M, O) s = if putOK s (1099511627776 + (O.length : Int)) (1000 - (M.length : Int) - (O.length : Int)) = true then some (M, O ++ rowsS s) else none := by rw [bstep, if_neg (by omega)]; rfl
        rw [putG]
        by_cases hq : putOK s (1099511627776 + (O.length : Int)) (1000 - (M.length : Int) - (O.length : Int)) = true
        · rw [if_pos hq] at hb ⊢
          rw [hb] at hx
          simp +contextual -implicitDefEqProofs (maxSteps := 2000000) (disch := omega) only [↓lenV, binV, ↓unV, ↓loadV, ↓storeV, ↓fieldAddrV, ↓indexAddrV, ↓allocV, ↓buildV, fillG, place, GVal.cells, grp, GVal.ofConst, ↓resV, resG, List.map, List.headD, List.take, List.drop, ↓reduceIte, Nat.reduceEqDiff, Nat.reduceAdd, Nat.reduceSub, Nat.reduceLeDiff, reduceCtorEq, implies_true, ne_eq, Tag.cap, List.replicate, allSolid, GVal.solid, Nat.reduceBEq, Nat.reduceMul, Nat.reduceLT, List.length_map, List.length_range, splice, vcA, ↓vcB, vcC, fbFz, e34, setO_3, setO_4]
          exact Into.at ⟨(k + 1, (M, O ++ rowsS s), v, u), by show k + 1 ≤ _; omega, hx, bstep_ok hok hpk hb⟩ (by show _ < _; simp; omega) ⟨_, rfl⟩ (by simp [WL, leG_self, leG_any, leG_int])
        · rw [if_neg hq] at hb ⊢
          rw [back0 hb]
          simp +contextual -implicitDefEqProofs (maxSteps := 2000000) (disch := omega) only [↓lenV, binV, ↓unV, ↓loadV, ↓storeV, ↓fieldAddrV, ↓indexAddrV, ↓allocV, ↓buildV, fillG, place, GVal.cells, grp, GVal.ofConst, ↓resV, resG, List.map, List.headD, List.take, List.drop, ↓reduceIte, Nat.reduceEqDiff, Nat.reduceAdd, Nat.reduceSub, Nat.reduceLeDiff, reduceCtorEq, implies_true, ne_eq, Tag.cap, List.replicate, allSolid, GVal.solid, Nat.reduceBEq, Nat.reduceMul, Nat.reduceLT, List.length_map, List.length_range, splice, vcA, ↓vcB, vcC, fbFz, e34, setO_3, setO_4]
          exact frz_pair _ [] [] .nil .nil false
    · have hk2 : k = l.length := by change k ≤ l.length at hk; omega
      have d0 : decide ((k : Int) < (l.length : Int)) = false := decide_eq_false (by omega)
      rw [List.drop_eq_nil_of_le (by omega)] at hx
      have hbi : backI l = if rightI M O = true ∧ buildI M O = l then some (M, O) else none := by rw [backI, hx]; rfl
      simp +contextual -implicitDefEqProofs (maxSteps := 2000000) (disch := omega) only [↓lenV, binV, ↓unV, ↓loadV, ↓storeV, ↓fieldAddrV, ↓indexAddrV, ↓allocV, ↓buildV, fillG, place, GVal.cells, grp, GVal.ofConst, ↓resV, resG, List.map, List.headD, List.take, List.drop, ↓reduceIte, Nat.reduceEqDiff, Nat.reduceAdd, Nat.reduceSub, Nat.reduceLeDiff, reduceCtorEq, implies_true, ne_eq, Tag.cap, List.replicate, allSolid, GVal.solid, Nat.reduceBEq, Nat.reduceMul, Nat.reduceLT, List.length_map, List.length_range, splice, vcA, ↓vcB, vcC, fbFz, e34, segsG_length, d0]
      refine (spec34 M O (.tok 2 v) (.tok 3 w) (by omega) (by omega) hok.2.1 hok.2.2).then ?_
      cases hr : rightI M O
      · rw [hbi, hr, if_neg (by simp)]
        simp +contextual -implicitDefEqProofs (maxSteps := 2000000) (disch := omega) only [↓lenV, binV, ↓unV, ↓loadV, ↓storeV, ↓fieldAddrV, ↓indexAddrV, ↓allocV, ↓buildV, fillG, place, GVal.cells, grp, GVal.ofConst, ↓resV, resG, List.map, List.headD, List.take, List.drop, ↓reduceIte, Nat.reduceEqDiff, Nat.reduceAdd, Nat.reduceSub, Nat.reduceLeDiff, reduceCtorEq, implies_true, ne_eq, Tag.cap, List.replicate, allSolid, GVal.solid, Nat.reduceBEq, Nat.reduceMul, Nat.reduceLT, List.length_map, List.length_range, splice, vcA, ↓vcB, vcC, fbFz, e34]
        exact frz_pair _ [] [] .nil .nil false
      · simp +contextual -implicitDefEqProofs (maxSteps := 2000000) (disch := omega) only [↓lenV, binV, ↓unV, ↓loadV, ↓storeV, ↓fieldAddrV, ↓indexAddrV, ↓allocV, ↓buildV, fillG, place, GVal.cells, grp, GVal.ofConst, ↓resV, resG, List.map, List.headD, List.take, List.drop, ↓reduceIte, Nat.reduceEqDiff, Nat.reduceAdd, Nat.reduceSub, Nat.reduceLeDiff, reduceCtorEq, implies_true, ne_eq, Tag.cap, List.replicate, allSolid, GVal.solid, Nat.reduceBEq, Nat.reduceMul, Nat.reduceLT, List.length_map, List.length_range, splice, vcA, ↓vcB, vcC, fbFz, e34]
        refine (spec12 M O (.tok 2 v) (.tok 3 w) (by omega) (by omega) hok.2.1 hok.2.2).then ?_
        have bs := build_segs M O (by omega) (by omega) hr
        have bl := build_len M O
        simp +contextual -implicitDefEqProofs (maxSteps := 2000000) (disch := omega) only [↓lenV, binV, ↓unV, ↓loadV, ↓storeV, ↓fieldAddrV, ↓indexAddrV, ↓allocV, ↓buildV, fillG, place, GVal.cells, grp, GVal.ofConst, ↓resV, resG, List.map, List.headD, List.take, List.drop, ↓reduceIte, Nat.reduceEqDiff, Nat.reduceAdd, Nat.reduceSub, Nat.reduceLeDiff, reduceCtorEq, implies_true, ne_eq, Tag.cap, List.replicate, allSolid, GVal.solid, Nat.reduceBEq, Nat.reduceMul, Nat.reduceLT, List.length_map, List.length_range, splice, vcA, ↓vcB, vcC, fbFz, e34]
        refine (spec50 (buildI M O) l .none t (by omega) (fun i => by have := (bs i).2.2.2; omega)).then ?_
        by_cases he : buildI M O = l
        · rw [hbi, hr, if_pos ⟨rfl, he⟩, decide_eq_true he]
          simp +contextual -implicitDefEqProofs (maxSteps := 2000000) (disch := omega) only [↓lenV, binV, ↓unV, ↓loadV, ↓storeV, ↓fieldAddrV, ↓indexAddrV, ↓allocV, ↓buildV, fillG, place, GVal.cells, grp, GVal.ofConst, ↓resV, resG, List.map, List.headD, List.take, List.drop, ↓reduceIte, Nat.reduceEqDiff, Nat.reduceAdd, Nat.reduceSub, Nat.reduceLeDiff, reduceCtorEq, implies_true, ne_eq, Tag.cap, List.replicate, allSolid, GVal.solid, Nat.reduceBEq, Nat.reduceMul, Nat.reduceLT, List.length_map, List.length_range, splice, vcA, ↓vcB, vcC, fbFz, e34]
          exact frz_pair _ M O _ _ true
        · rw [hbi, hr, if_neg (by simp [he]), decide_eq_false he]
          simp +contextual -implicitDefEqProofs (maxSteps := 2000000) (disch := omega) only [↓lenV, binV, ↓unV, ↓loadV, ↓storeV, ↓fieldAddrV, ↓indexAddrV, ↓allocV, ↓buildV, fillG, place, GVal.cells, grp, GVal.ofConst, ↓resV, resG, List.map, List.headD, List.take, List.drop, ↓reduceIte, Nat.reduceEqDiff, Nat.reduceAdd, Nat.reduceSub, Nat.reduceLeDiff, reduceCtorEq, implies_true, ne_eq, Tag.cap, List.replicate, allSolid, GVal.solid, Nat.reduceBEq, Nat.reduceMul, Nat.reduceLT, List.length_map, List.length_range, splice, vcA, ↓vcB, vcC, fbFz, e34]
          exact frz_pair _ [] [] .nil .nil false

end Gv.Tryz
/- Contracts: where an ID is found; its parents. -/
set_option linter.unusedVariables false
set_option linter.unusedSimpArgs false
set_option maxRecDepth 20000
set_option maxHeartbeats 8000000
namespace Gv.Tryz
open Go Gv Go.Proofs

theorem c56 (l : List Seg) (t : Tag) (id : Int) (k : Nat) (s1 s2 : Nat) (hk : k < l.length) :
    GCalls Tryz.prog 91 [.int .i64 (k : Nat), .ptr 0 s1 0 0, .ptr 1 s2 0 0] [.row s1 1 [[.slice (segsG l) t]], .row s2 1 [[.int .i64 id]]] (fun g O' => g = .bool (decide (id ≤ (l.getD k default).hi)) ∧ O' = [.row s1 1 [[.slice (segsG l) t]], .row s2 1 [[.int .i64 id]]]) := by
  have eS : (segsG l).getD k [] = segG (l.getD k default) := segsG_at l k hk
  generalize l.getD k default = s at *
  refine h91.calls mixS (by simp) ?_
  simp only [gstart, s91, List.cons_append, List.nil_append, List.length_cons, List.length_nil, Nat.reduceAdd, Nat.reduceSub, List.replicate_succ, List.replicate_zero]
  simp +contextual -implicitDefEqProofs (maxSteps := 2000000) (disch := omega) only [drawC, drawK, keepT, binV, ↓loadV, ↓fieldAddrV, ↓indexAddrV, GVal.cells, grp, GVal.ofConst, ↓resV, resG, List.map, List.headD, List.take, List.drop, ↓reduceIte, Nat.reduceEqDiff, Nat.reduceAdd, Nat.reduceSub, Nat.reduceLeDiff, reduceCtorEq, implies_true, ne_eq, Tag.cap, List.replicate, allSolid, GVal.solid, Nat.reduceBEq, Nat.reduceMul, Nat.reduceLT, List.length_map, List.length_range, splice, vcA, ↓vcB, vcC, fbFz, e91, segsG_length, eS, segG]
  omega

def Ends (l : List Seg) (id : Int) (k : Nat) : Prop := k ≤ l.length ∧ (0 < k → (l.getD (k - 1) default).hi < id) ∧ (k < l.length → id ≤ (l.getD k default).hi)

theorem c55 (l : List Seg) (t : Tag) (id : Int) (s1 s2 : Nat) (hl : l.length ≤ 17592186044416) :
    GCalls Tryz.prog 90 [.int .i64 (l.length : Nat), .func (.func 91) [] [.ptr 0 s1 0 0, .ptr 1 s2 0 0]] [.row s1 1 [[.slice (segsG l) t]], .row s2 1 [[.int .i64 id]]] (fun g O' => (∃ k : Nat, g = .int .i64 k ∧ Ends l id k) ∧ O' = [.row s1 1 [[.slice (segsG l) t]], .row s2 1 [[.int .i64 id]]]) := by
  have q1 := fun (a : Int) K => conv_int Tryz.prog 3 99 .i64 .u64 a K und3 und99
  have q2 := fun (a : Int) K => conv_int Tryz.prog 99 3 .u64 .i64 a K und99 und3
  refine h90.calls mixS (by simp) ?_
  simp only [gstart, s90, List.cons_append, List.nil_append, List.length_cons, List.length_nil, Nat.reduceAdd, Nat.reduceSub, List.replicate_succ, List.replicate_zero]
  simp +contextual -implicitDefEqProofs (maxSteps := 2000000) (disch := omega) only [binV, ↓unV, ↓convV, GVal.cells, grp, GVal.ofConst, ↓resV, resG, List.map, List.headD, List.take, List.drop, ↓reduceIte, Nat.reduceEqDiff, Nat.reduceAdd, Nat.reduceSub, Nat.reduceLeDiff, reduceCtorEq, implies_true, ne_eq, Tag.cap, List.replicate, allSolid, GVal.solid, Nat.reduceBEq, Nat.reduceMul, Nat.reduceLT, List.length_map, List.length_range, splice, vcA, ↓vcB, vcC, fbFz, e90]
  refine vcSLoop_by (ι := { p : Nat × Nat // p.1 ≤ p.2 ∧ p.2 ≤ l.length ∧ (0 < p.1 → (l.getD (p.1 - 1) default).hi < id) ∧ (p.2 < l.length → id ≤ (l.getD p.2 default).hi) }) (fun p => ⟨[.int .i64 (l.length : Nat), .func (.func 91) [] [.ptr 0 s1 0 0, .ptr 1 s2 0 0], .any, .any, .any, .int .i64 (p.1.1 : Nat), .int .i64 (p.1.2 : Nat)] ++ List.replicate 19 .any, [.row s1 1 [[.slice (segsG l) t]], .row s2 1 [[.int .i64 id]]]⟩) (fun p => p.1.2 - p.1.1) ?_ ?_
  · exact Into.first ⟨(0, l.length), by omega, by omega, by simp, by simp⟩ ⟨[], by simp⟩ (by simp [WL, leG_self, leG_any])
  · rintro ⟨⟨i, j⟩, h1, h2, h3, h4⟩
    change i ≤ j at h1
    change j ≤ l.length at h2
    change 0 < i → (l.getD (i - 1) default).hi < id at h3
    change j < l.length → id ≤ (l.getD j default).hi at h4
    by_cases hij : i < j
    · have d0 : decide ((i : Int) < (j : Int)) = true := decide_eq_true (by omega)
      have hm : ((i : Int) + j) / 2 = ((i + j) / 2 : Nat) := by omega
      have e1 : norm .u64 ((i : Int) + j) = (i : Int) + j := norm_u64 (by omega)
      have e2 : norm .i64 (((i + j) / 2 : Nat) : Int) = ((i + j) / 2 : Nat) := norm_i64 (by omega)
      simp +contextual -implicitDefEqProofs (maxSteps := 2000000) (disch := omega) only [binV, ↓unV, ↓convV, GVal.cells, grp, GVal.ofConst, ↓resV, resG, List.map, List.headD, List.take, List.drop, ↓reduceIte, Nat.reduceEqDiff, Nat.reduceAdd, Nat.reduceSub, Nat.reduceLeDiff, reduceCtorEq, implies_true, ne_eq, Tag.cap, List.replicate, allSolid, GVal.solid, Nat.reduceBEq, Nat.reduceMul, Nat.reduceLT, List.length_map, List.length_range, splice, vcA, ↓vcB, vcC, fbFz, e90, d0, ↓q1, ↓q2, ↓ibin_shr1, e1, hm, e2]
      have hb : (i + j) / 2 < l.length := by omega
      have c := c56 l t id ((i + j) / 2) s1 s2 hb
      have hlo : i ≤ (i + j) / 2 := by omega
      have hhi : (i + j) / 2 < j := by omega
      have e3 : norm .i64 (((i : Int) + j) / 2 ^ Int.toNat 1) = ((i + j) / 2 : Nat) := by rw [show (2 : Int) ^ Int.toNat 1 = 2 from rfl, hm, e2]
      clear e1 e2 hm
      generalize (i + j) / 2 = h at *
      refine ⟨by omega, by decide, ?_⟩
      rw [e3]
      refine c.mono ?_
      rintro g O' ⟨rfl, rfl⟩
      by_cases hq : id ≤ (l.getD h default).hi
      · rw [decide_eq_true hq]
        simp +contextual -implicitDefEqProofs (maxSteps := 2000000) (disch := omega) only [binV, ↓unV, ↓convV, GVal.cells, grp, GVal.ofConst, ↓resV, resG, List.map, List.headD, List.take, List.drop, ↓reduceIte, Nat.reduceEqDiff, Nat.reduceAdd, Nat.reduceSub, Nat.reduceLeDiff, reduceCtorEq, implies_true, ne_eq, Tag.cap, List.replicate, allSolid, GVal.solid, Nat.reduceBEq, Nat.reduceMul, Nat.reduceLT, List.length_map, List.length_range, splice, vcA, ↓vcB, vcC, fbFz, e90]
        exact Into.at ⟨(i, h), by show i ≤ h; omega, by show h ≤ _; omega, h3, fun _ => hq⟩ (by show h - i < j - i; omega) ⟨_, rfl⟩ (by simp [WL, leG_self, leG_any, leG_int])
      · rw [decide_eq_false hq]
        simp +contextual -implicitDefEqProofs (maxSteps := 2000000) (disch := omega) only [binV, ↓unV, ↓convV, GVal.cells, grp, GVal.ofConst, ↓resV, resG, List.map, List.headD, List.take, List.drop, ↓reduceIte, Nat.reduceEqDiff, Nat.reduceAdd, Nat.reduceSub, Nat.reduceLeDiff, reduceCtorEq, implies_true, ne_eq, Tag.cap, List.replicate, allSolid, GVal.solid, Nat.reduceBEq, Nat.reduceMul, Nat.reduceLT, List.length_map, List.length_range, splice, vcA, ↓vcB, vcC, fbFz, e90]
        exact Into.at ⟨(h + 1, j), by show h + 1 ≤ j; omega, h2, fun _ => by show (l.getD (h + 1 - 1) default).hi < id; rw [Nat.add_sub_cancel]; omega, h4⟩ (by show j - (h + 1) < j - i; omega) ⟨_, rfl⟩ (by simp [WL, leG_self, leG_any, leG_int])
    · have d0 : decide ((i : Int) < (j : Int)) = false := decide_eq_false (by omega)
      simp +contextual -implicitDefEqProofs (maxSteps := 2000000) (disch := omega) only [binV, ↓unV, ↓convV, GVal.cells, grp, GVal.ofConst, ↓resV, resG, List.map, List.headD, List.take, List.drop, ↓reduceIte, Nat.reduceEqDiff, Nat.reduceAdd, Nat.reduceSub, Nat.reduceLeDiff, reduceCtorEq, implies_true, ne_eq, Tag.cap, List.replicate, allSolid, GVal.solid, Nat.reduceBEq, Nat.reduceMul, Nat.reduceLT, List.length_map, List.length_range, splice, vcA, ↓vcB, vcC, fbFz, e90, d0]
      have e : i = j := by omega
      subst e
      exact ⟨i, rfl, h2, h3, h4⟩

def endAt (l : List Seg) (id : Int) (k : Nat) : Int × Bool := if k = l.length ∨ id < (l.getD k default).lo then (0, false) else ((k : Int), true)

theorem spec33 (l : List Seg) (t : Tag) (id : Int) (r : Int × Bool) (hl : l.length ≤ 17592186044416) (hr : ∀ k, Ends l id k → endAt l id k = r) :
    GPure Tryz.prog 75 [.slice (segsG l) t, .int .i64 id] (.tuple [.int .i64 r.1, .bool r.2]) := by
  refine h75.pure mixS (by simp) ?_
  simp only [gstart, s75, List.cons_append, List.nil_append, List.length_cons, List.length_nil, Nat.reduceAdd, Nat.reduceSub, List.replicate_succ, List.replicate_zero]
  simp +contextual -implicitDefEqProofs (maxSteps := 2000000) (disch := omega) only [drawC, drawK, keepT, ↓lenV, binV, ↓loadV, ↓fieldAddrV, ↓indexAddrV, ↓boxV, GVal.cells, grp, GVal.ofConst, ↓resV, resG, List.map, List.headD, List.take, List.drop, ↓reduceIte, Nat.reduceEqDiff, Nat.reduceAdd, Nat.reduceSub, Nat.reduceLeDiff, reduceCtorEq, implies_true, ne_eq, aggV, Tag.cap, List.replicate, allSolid, GVal.solid, Nat.reduceBEq, Nat.reduceMul, Nat.reduceLT, List.length_map, List.length_range, splice, vcA, ↓vcB, vcC, fbFz, e75, segsG_length]
  intro s1 s2
  repeat (refine ⟨by omega, ?_⟩)
  refine (c55 l t id s1 s2 hl).mono ?_
  rintro g O' ⟨⟨k, rfl, hk⟩, rfl⟩
  have hh := hr k hk
  have hk2 := hk.1
  by_cases he : k = l.length
  · have d0 : ((k : Int) == (l.length : Int)) = true := by rw [beq_iff_eq]; omega
    rw [endAt, if_pos (.inl he)] at hh
    simp +contextual -implicitDefEqProofs (maxSteps := 2000000) (disch := omega) only [drawC, drawK, keepT, ↓lenV, binV, ↓loadV, ↓fieldAddrV, ↓indexAddrV, ↓boxV, GVal.cells, grp, GVal.ofConst, ↓resV, resG, List.map, List.headD, List.take, List.drop, ↓reduceIte, Nat.reduceEqDiff, Nat.reduceAdd, Nat.reduceSub, Nat.reduceLeDiff, reduceCtorEq, implies_true, ne_eq, aggV, Tag.cap, List.replicate, allSolid, GVal.solid, Nat.reduceBEq, Nat.reduceMul, Nat.reduceLT, List.length_map, List.length_range, splice, vcA, ↓vcB, vcC, fbFz, e75, segsG_length, d0]
    subst hh
    exact ⟨rfl, rfl⟩
  · have d0 : ((k : Int) == (l.length : Int)) = false := by rw [beq_eq_false_iff_ne]; omega
    have eS : (segsG l).getD k [] = segG (l.getD k default) := segsG_at l k (by omega)
    unfold endAt at hh
    generalize l.getD k default = s at *
    simp +contextual -implicitDefEqProofs (maxSteps := 2000000) (disch := omega) only [drawC, drawK, keepT, ↓lenV, binV, ↓loadV, ↓fieldAddrV, ↓indexAddrV, ↓boxV, GVal.cells, grp, GVal.ofConst, ↓resV, resG, List.map, List.headD, List.take, List.drop, ↓reduceIte, Nat.reduceEqDiff, Nat.reduceAdd, Nat.reduceSub, Nat.reduceLeDiff, reduceCtorEq, implies_true, ne_eq, aggV, Tag.cap, List.replicate, allSolid, GVal.solid, Nat.reduceBEq, Nat.reduceMul, Nat.reduceLT, List.length_map, List.length_range, splice, vcA, ↓vcB, vcC, fbFz, e75, segsG_length, eS, segG, d0]
    refine ⟨by omega, by omega, fun h1 => ?_, fun h1 => ?_⟩
    · rw [if_pos (.inr h1)] at hh
      subst hh; exact ⟨rfl, rfl⟩
    · rw [if_neg (by omega)] at hh
      subst hh; exact ⟨rfl, rfl⟩

end Gv.Tryz
/- The plain laws: an ID is found where it is; the table is there again. -/
set_option linter.unusedVariables false
set_option maxRecDepth 20000
set_option linter.unusedSimpArgs false
namespace Gv.Tryz
open Go Gv Go.Proofs

def inS (id : Int) (s : Seg) : Prop := s.lo ≤ id ∧ id ≤ s.hi
def SortedS : List Seg → Prop
  | [] => True
  | s :: r => s.lo ≤ s.hi ∧ (∀ x ∈ r, s.hi < x.lo) ∧ SortedS r
theorem SortedS.at_ : ∀ {l : List Seg}, SortedS l → ∀ i j, i < j → j < l.length → (l.getD i default).hi < (l.getD j default).lo
  | [], _, i, j, _, hj => by simp at hj
  | s :: r, h, 0, j + 1, _, hj => by
    have hj' : j < r.length := by simpa using hj
    simp only [List.getD_cons_zero, List.getD_cons_succ]
    exact h.2.1 _ (by rw [List.getD_eq_getElem?_getD, List.getElem?_eq_getElem hj']; exact List.getElem_mem hj')
  | s :: r, h, i + 1, j + 1, hij, hj => by
    simp only [List.getD_cons_succ]
    exact SortedS.at_ h.2.2 i j (by omega) (by simpa using hj)
theorem SortedS.le : ∀ {l : List Seg}, SortedS l → ∀ i, i < l.length → (l.getD i default).lo ≤ (l.getD i default).hi
  | [], _, i, hi => by simp at hi
  | s :: r, h, 0, hi => by simpa using h.1
  | s :: r, h, i + 1, hi => by
    simp only [List.getD_cons_succ]
    exact SortedS.le h.2.2 i (by simpa using hi)
theorem fnd_yes (id : Int) : ∀ (l : List Seg) (k b : Nat), k < l.length → inS id (l.getD k default) → (∀ j, j < k → ¬ inS id (l.getD j default)) → fnd id l b = (((b + k : Nat) : Int), true)
  | [], k, b, h, _, _ => by simp at h
  | s :: r, 0, b, h, h1, _ => by
    rw [fnd, if_pos (by simpa [inS] using h1)]; rfl
  | s :: r, k + 1, b, h, h1, h2 => by
    have h0 := h2 0 (by omega)
    rw [fnd, if_neg (by simpa [inS] using h0), fnd_yes id r k (b + 1) (by simpa using h) (by simpa using h1) (fun j hj => by simpa using h2 (j + 1) (by omega))]
    rw [show b + 1 + k = b + (k + 1) from by omega]
theorem fnd_no (id : Int) : ∀ (l : List Seg) (b : Nat), (∀ j, j < l.length → ¬ inS id (l.getD j default)) → fnd id l b = (0, false)
  | [], b, _ => rfl
  | s :: r, b, h => by
    have h0 := h 0 (by simp)
    rw [fnd, if_neg (by simpa [inS] using h0), fnd_no id r (b + 1) (fun j hj => by simpa using h (j + 1) (by simpa using hj))]
theorem ends_fnd {l : List Seg} (hs : SortedS l) (id : Int) (k : Nat) (h : Ends l id k) : endAt l id k = fnd id l 0 := by
  obtain ⟨h1, h2, h3⟩ := h
  have hlow : ∀ j, j < k → ¬ inS id (l.getD j default) := fun j hj hi => by
    have hk := h2 (by omega)
    by_cases e : j = k - 1
    · subst e; exact absurd hi.2 (by omega)
    · have q1 := hs.at_ j (k - 1) (by omega) (by omega)
      have q2 := hs.le (k - 1) (by omega)
      exact absurd hi.2 (by omega)
  unfold endAt
  by_cases hk : k < l.length
  · have h3 := h3 hk
    by_cases hlo : id < (l.getD k default).lo
    · rw [if_pos (.inr hlo), fnd_no]
      intro j hj hi
      by_cases e : j < k
      · exact hlow j e hi
      · by_cases e2 : j = k
        · subst e2; exact absurd hi.1 (by omega)
        · have q1 := hs.at_ k j (by omega) hj
          have q2 := hs.le k hk
          exact absurd hi.1 (by omega)
    · rw [if_neg (by omega), fnd_yes id l k 0 hk ⟨by omega, h3⟩ hlow, Nat.zero_add]
  · rw [if_pos (.inl (by omega)), fnd_no]
    exact fun j hj => hlow j (by omega)

/-! the table is there again -/
theorem getD_nil_take (l : List (List Int)) (a n : Nat) (h : a + n ≤ l.length) : l.take (a + n) = l.take a ++ (List.range n).map fun i => l.getD (a + i) [] := by
  induction n with
  | zero => simp
  | succ n ih =>
    rw [List.range_succ, List.map_append, ← List.append_assoc, ← ih (by omega), ← Nat.add_assoc, List.take_add_one, List.getElem?_eq_getElem (by omega)]
    simp [List.getD, List.getElem?_eq_getElem (show a + n < l.length by omega)]
theorem rows_take (frm : Int) (l : List (List Int)) (s : Seg) (h1 : frm ≤ s.lo) (h2 : s.lo ≤ s.hi) (h3 : s.hi - frm < l.length) (h4 : ∀ d : Int, s.lo < d → d ≤ s.hi → l.getD (d - frm).toNat [] = [d - 1]) (h5 : l.getD (s.lo - frm).toNat [] = s.par) :
    l.take (s.lo - frm).toNat ++ rowsS s = l.take (s.hi + 1 - frm).toNat := by
  have e : (s.hi + 1 - frm).toNat = (s.lo - frm).toNat + ((s.hi - s.lo).toNat + 1) := by omega
  rw [e, getD_nil_take _ _ _ (by omega)]
  congr 1
  rw [rowsS, ones, ups]
  rw [List.range_succ_eq_map, List.map_cons, Nat.add_zero, h5, List.map_map, List.map_map]
  congr 1
  apply List.map_congr_left
  intro i hi
  have hi := List.mem_range.1 hi
  have := h4 (s.lo + i + 1) (by omega) (by omega)
  rw [show (s.lo + i + 1 - frm).toNat = (s.lo - frm).toNat + (i + 1) from by omega] at this
  simp only [Function.comp, Nat.succ_eq_add_one]
  rw [this, show s.lo + (i : Int) + 1 - 1 = s.lo + i from by omega]
theorem bfold_append : ∀ (x y : List Seg) (t : Tab), bfold t (x ++ y) = match bfold t x with | none => none | some t' => bfold t' y
  | [], y, t => rfl
  | s :: x, y, t => by
    simp only [List.cons_append, bfold]
    cases bstep t s with
    | none => rfl
    | some t' => exact bfold_append x y t'
theorem bfold_m (m : List (List Int)) (hm : m.length ≤ 1000) : ∀ (x : List Seg) (a b : Int), 0 ≤ a → b ≤ m.length → chain 0 m a x b → bfold (m.take a.toNat, []) x = some (m.take b.toNat, [])
  | [], a, b, _, _, h => by simp only [chain] at h; subst h; rfl
  | s :: r, a, b, ha, hb, h => by
    simp only [chain] at h
    obtain ⟨h1, h2, h3, h4, h5, h6, h7⟩ := h
    have hle := chain_le _ _ _ _ _ h7
    have e := rows_take 0 m s (by omega) h2 (by omega) h3 h4
    have hl : (m.take a.toNat).length = a.toNat := by rw [List.length_take]; omega
    have hp : putOK s ((m.take a.toNat).length : Int) (roomT (m.take a.toNat, [])) = true := decide_eq_true ⟨by rw [hl]; omega, h2, by
      rw [roomT]; simp only [hl, List.length_nil]; omega⟩
    rw [bfold, bstep, if_pos (by omega), if_pos hp]
    simp only
    have e2 : m.take a.toNat ++ rowsS s = m.take (s.hi + 1).toNat := by
      rw [← h1, show s.lo.toNat = (s.lo - 0).toNat from by omega, e, Int.sub_zero]
    rw [e2]
    exact bfold_m m hm r (s.hi + 1) b (by omega) hb h7
theorem bfold_o (m o : List (List Int)) (hmo : m.length + o.length ≤ 1000) : ∀ (x : List Seg) (a b : Int), split ≤ a → b ≤ split + o.length → chain split o a x b → bfold (m, o.take (a - split).toNat) x = some (m, o.take (b - split).toNat)
  | [], a, b, _, _, h => by simp only [chain] at h; subst h; rfl
  | s :: r, a, b, ha, hb, h => by
    simp only [chain] at h
    obtain ⟨h1, h2, h3, h4, h5, h6, h7⟩ := h
    have hs : split = 1099511627776 := rfl
    have hle := chain_le _ _ _ _ _ h7
    have e := rows_take split o s (by omega) h2 (by omega) h3 h4
    have hl : (o.take (a - split).toNat).length = (a - split).toNat := by rw [List.length_take]; omega
    have hp : putOK s (1099511627776 + ((o.take (a - split).toNat).length : Int)) (roomT (m, o.take (a - split).toNat)) = true := decide_eq_true ⟨by rw [hl]; omega, h2, by
      rw [roomT]; simp only [hl]; omega⟩
    rw [bfold, bstep, if_neg (by omega), if_pos hp]
    simp only
    have e2 : o.take (a - split).toNat ++ rowsS s = o.take (s.hi + 1 - split).toNat := by rw [← h1, e]
    rw [e2]
    exact bfold_o m o hmo r (s.hi + 1) b (by omega) hb h7
theorem back_build {m o : List (List Int)} (hmo : m.length + o.length ≤ 1000) (hr : rightI m o = true) : backI (buildI m o) = some (m, o) := by
  have c1 := bfold_m m (by omega) (linesI 0 m) 0 m.length (by omega) (by omega) (by have := lrun_chain 0 m m.length; rw [Int.zero_add] at this; exact this)
  have c2 := bfold_o m o hmo (linesI split o) split (split + o.length) (by omega) (by omega) (lrun_chain split o o.length)
  have hb : bfold ([], []) (buildI m o) = some (m, o) := by
    rw [buildI, if_pos hr, bfold_append]
    have : bfold ([], []) (linesI 0 m) = some (m, []) := by
      have e1 : m.take (0 : Int).toNat = [] := rfl
      have e2 : m.take ((m.length : Nat) : Int).toNat = m := by rw [Int.toNat_natCast, List.take_length]
      rw [e1, e2] at c1; exact c1
    rw [this]
    simp only
    have e1 : o.take (split - split).toNat = [] := by rw [Int.sub_self]; rfl
    have e2 : o.take (split + (o.length : Int) - split).toNat = o := by
      rw [show split + (o.length : Int) - split = o.length from by omega, Int.toNat_natCast, List.take_length]
    rw [e1, e2] at c2; exact c2
  rw [backI, hb]
  simp only
  rw [if_pos ⟨hr, trivial⟩]
end Gv.Tryz
/- The plain law of heads: kept by a map, counted by ancestors. -/
set_option linter.unusedVariables false
set_option maxRecDepth 20000
set_option linter.unusedSimpArgs false
namespace Gv.Tryz
open Go Gv Go.Proofs

theorem hdel_nodup : ∀ (q l : List Int), l.Nodup → (hdel l q).Nodup ∧ ∀ x, x ∈ hdel l q ↔ x ∈ l ∧ x ∉ q
  | [], l, h => ⟨h, fun x => by simp [hdel]⟩
  | p :: q, l, h => by
    obtain ⟨h1, h2⟩ := hdel_nodup q (l.erase p) (h.erase p)
    refine ⟨h1, fun x => ?_⟩
    show x ∈ hdel (l.erase p) q ↔ _
    rw [h2, h.mem_erase_iff]
    simp only [List.mem_cons, not_or]
    constructor
    · rintro ⟨⟨a, b⟩, c⟩; exact ⟨b, a, c⟩
    · rintro ⟨a, b, c⟩; exact ⟨⟨b, a⟩, c⟩
theorem lrun_hs (frm : Int) (l : List (List Int)) : ∀ k, (lrun frm l k).hs.Nodup ∧ ∀ x, x ∈ (lrun frm l k).hs ↔ ∃ j : Nat, j < k ∧ x = frm + j ∧ ∀ c : Nat, j < c → c < k → x ∉ l.getD c []
  | 0 => by simp [lrun]
  | k + 1 => by
    obtain ⟨i1, i2⟩ := lrun_hs frm l k
    have hlt := (lrun_heads frm l k).1
    have hh : (lrun frm l (k + 1)).hs = hins (hdel (lrun frm l k).hs (l.getD k [])) (frm + k) := by
      rw [lrun]; unfold lstep; simp only; split <;> rfl
    obtain ⟨d1, d2⟩ := hdel_nodup (l.getD k []) _ i1
    have hn : frm + (k : Int) ∉ hdel (lrun frm l k).hs (l.getD k []) := fun h => by
      have := hlt _ ((d2 _).1 h).1; omega
    rw [hh, hins, if_neg hn]
    refine ⟨?_, fun x => ?_⟩
    · rw [List.nodup_append]
      exact ⟨d1, by simp, fun a ha b hb => by simp at hb; subst hb; exact fun e => hn (by rw [← e]; exact ha)⟩
    · rw [List.mem_append, d2, i2]
      simp only [List.mem_singleton]
      constructor
      · rintro (⟨⟨j, h1, h2, h3⟩, h4⟩ | h)
        · refine ⟨j, by omega, h2, fun c hc1 hc2 => ?_⟩
          by_cases e : c = k
          · subst e; exact h4
          · exact h3 c hc1 (by omega)
        · exact ⟨k, by omega, h, fun c hc1 hc2 => by omega⟩
      · rintro ⟨j, h1, h2, h3⟩
        by_cases e : j = k
        · subst e; exact .inr h2
        · exact .inl ⟨⟨j, by omega, h2, fun c hc1 hc2 => h3 c hc1 (by omega)⟩, h3 k (by omega) (by omega)⟩
theorem one_head (frm : Int) (l : List (List Int)) (k : Nat) : (lrun frm l (k + 1)).hs.length = 1 ↔ ∀ j : Nat, j < k → ∃ c : Nat, j < c ∧ c ≤ k ∧ frm + (j : Int) ∈ l.getD c [] := by
  obtain ⟨i1, i2⟩ := lrun_hs frm l (k + 1)
  have hk : frm + (k : Int) ∈ (lrun frm l (k + 1)).hs := (i2 _).2 ⟨k, by omega, rfl, fun c h1 h2 => by omega⟩
  constructor
  · intro h j hj
    apply Classical.byContradiction
    intro hno
    have hj2 : frm + (j : Int) ∈ (lrun frm l (k + 1)).hs := (i2 _).2 ⟨j, by omega, rfl, fun c h1 h2 h3 => hno ⟨c, h1, by omega, h3⟩⟩
    match hhs : (lrun frm l (k + 1)).hs, h with
    | [a], _ =>
      rw [hhs] at hk hj2
      simp at hk hj2
      omega
  · intro h
    have all : ∀ x ∈ (lrun frm l (k + 1)).hs, x = frm + k := fun x hx => by
      obtain ⟨j, h1, h2, h3⟩ := (i2 x).1 hx
      by_cases e : j = k
      · rw [h2, e]
      · obtain ⟨c, c1, c2, c3⟩ := h j (by omega)
        exact absurd (h2 ▸ c3) (h3 c c1 (by omega))
    have := nodup_len (lrun frm l (k + 1)).hs [frm + k] i1 (fun x hx => by rw [all x hx]; simp)
    have h2 := List.length_pos_of_mem hk
    simp at this; omega

theorem lrun_head (frm : Int) (l : List (List Int)) : ∀ k, ∀ s ∈ (lrun frm l k).out, ∃ j : Nat, j < k ∧ s.hi = frm + j ∧ s.head = decide ((lrun frm l (j + 1)).hs.length = 1)
  | 0, s, hs => by simp [lrun] at hs
  | k + 1, s, hs => by
    have ih := lrun_head frm l k
    have hh : (lrun frm l (k + 1)).hs = hins (hdel (lrun frm l k).hs (l.getD k [])) (frm + k) := by
      rw [lrun]; unfold lstep; simp only; split <;> rfl
    have hne := (lrun_len frm l k).2
    rw [lrun] at hs
    unfold lstep at hs
    simp only at hs
    split at hs
    · rename_i h
      obtain ⟨e1, e2⟩ := set_last (lrun frm l k).out (hne (by omega)) default { (lrun frm l k).out.getD ((lrun frm l k).out.length - 1) default with hi := frm + k, head := decide ((hins (hdel (lrun frm l k).hs (l.getD k [])) (frm + k)).length = 1) }
      rw [e2, List.mem_append] at hs
      rcases hs with hs | hs
      · obtain ⟨j, h1, h2, h3⟩ := ih s (by rw [e1]; exact List.mem_append_left _ hs)
        exact ⟨j, by omega, h2, h3⟩
      · rw [List.mem_singleton] at hs; subst hs
        exact ⟨k, by omega, rfl, by rw [hh]⟩
    · rw [List.mem_append] at hs
      rcases hs with hs | hs
      · obtain ⟨j, h1, h2, h3⟩ := ih s hs
        exact ⟨j, by omega, h2, h3⟩
      · rw [List.mem_singleton] at hs; subst hs
        exact ⟨k, by omega, rfl, by rw [hh]⟩

theorem count_all (A l : List Int) (hA : A.Nodup) (hl : l.Nodup) (hin : ∀ x ∈ l, x ∈ A) : l.length = A.length ↔ ∀ x ∈ A, x ∈ l := by
  constructor
  · intro h x hx
    apply Classical.byContradiction
    intro hn
    have := nodup_len l (A.erase x) hl fun y hy => (List.mem_erase_of_ne (fun e => hn (by rw [← e]; exact hy))).2 (hin y hy)
    rw [List.length_erase_of_mem hx] at this
    have := List.length_pos_of_mem hx
    omega
  · intro h
    have h1 := nodup_len l A hl hin
    have h2 := nodup_len A l hA h
    omega
theorem ups_nodup (a : Int) : ∀ k, (ups a k).Nodup
  | 0 => by simp [ups]
  | k + 1 => by
    rw [ups_succ, List.nodup_append]
    exact ⟨ups_nodup a k, by simp, fun x hx y hy => by simp at hy; subst hy; have := (ups_mem a k x).1 hx; omega⟩

theorem count_head {m o : List (List Int)} (hm : m.length + o.length ≤ 1000) (hr : rightI m o = true) (frm : Int) (L : List (List Int)) (hg : (frm = 0 ∧ L = m) ∨ (frm = split ∧ L = o)) {j : Nat} (hj : j < L.length) {l : List Int} (hu : UpSet m o [frm + j] l) :
    (l.filter (fun x => decide (frm ≤ x))).length = j + 1 ↔ (lrun frm L (j + 1)).hs.length = 1 := by
  have hs : split = 1099511627776 := rfl
  have hl5 : L.length ≤ 1000 := by rcases hg with ⟨_, rfl⟩ | ⟨_, rfl⟩ <;> omega
  have hrow : ∀ c : Nat, c < L.length → parI m o (frm + c) = L.getD c [] := fun c hc => by
    rcases hg with ⟨rfl, rfl⟩ | ⟨rfl, rfl⟩
    · rw [parI_m _ _ _ (by omega) (by omega)]; congr 1; omega
    · rw [parI_o _ _ _ (by omega) (by omega) (by omega)]; congr 1; omega
  have hlt := fun x p hp => (parI_props hm hr x).1 p hp
  have hhas : ∀ c : Nat, c < L.length → hasI m.length o.length (frm + c) = true := fun c hc => by
    rw [hasI, decide_eq_true_iff]
    rcases hg with ⟨rfl, rfl⟩ | ⟨rfl, rfl⟩ <;> omega
  have hfrm : 0 ≤ frm := by rcases hg with ⟨rfl, _⟩ | ⟨rfl, _⟩ <;> omega
  have hle : ∀ x ∈ l, x ≤ frm + j := fun x hx => hu.least (fun x => x ≤ frm + j) (fun x hx => by simp at hx; omega) (fun x hx p hp => by have := (hlt x p hp).1; show p ≤ _; have hx : x ≤ frm + j := hx; omega) x (.inl hx)
  have hA : (ups frm (j + 1)).length = j + 1 := ups_length _ _
  have hnd : (l.filter (fun x => decide (frm ≤ x))).Nodup := hu.nodup.filter _
  have hca := count_all (ups frm (j + 1)) (l.filter (fun x => decide (frm ≤ x))) (ups_nodup _ _) hnd (fun x hx => by
    rw [List.mem_filter, decide_eq_true_iff] at hx
    rw [ups_mem]; have := hle x hx.1; omega)
  rw [hA] at hca
  rw [hca, one_head]
  constructor
  · intro h i hi
    apply Classical.byContradiction
    intro hno
    have hmem : frm + (i : Int) ∈ l := by
      have := h (frm + i) ((ups_mem _ _ _).2 (by omega))
      rw [List.mem_filter] at this; exact this.1
    have := hu.least (fun x => x ≤ frm + j ∧ x ≠ frm + i) (fun x hx => by simp at hx; subst hx; exact ⟨by omega, by omega⟩) (fun x hx p hp => by
      obtain ⟨h1, h2⟩ := hx
      have hpx := (hlt x p hp).1
      refine ⟨by omega, fun e => ?_⟩
      subst e
      have hc : ∃ c : Nat, x = frm + c := ⟨(x - frm).toNat, by omega⟩
      obtain ⟨c, rfl⟩ := hc
      rw [hrow c (by omega)] at hp
      exact hno ⟨c, by omega, by omega, hp⟩) (frm + i) (.inl hmem)
    exact this.2 rfl
  · intro h
    have key : ∀ d : Nat, d ≤ j → frm + ((j - d : Nat) : Int) ∈ l := by
      intro d
      induction d using Nat.strongRecOn with
      | ind d ih =>
        intro hd
        by_cases e : d = 0
        · subst e
          rcases hu.start (frm + j) (by simp) (hhas j hj) with h | h
          · simpa using h
          · simp at h
        · obtain ⟨c, c1, c2, c3⟩ := h (j - d) (by omega)
          have hc := ih (j - c) (by omega) (by omega)
          rw [show j - (j - c) = c by omega] at hc
          rw [← hrow c (by omega)] at c3
          rcases hu.step _ hc _ c3 (hhas (j - d) (by omega)) with h | h
          · exact h
          · simp at h
    intro x hx
    rw [ups_mem] at hx
    rw [List.mem_filter, decide_eq_true_iff]
    have := key (frm + j - x).toNat (by omega)
    rw [show frm + ((j - (frm + j - x).toNat : Nat) : Int) = x by omega] at this
    exact ⟨this, hx.1⟩

end Gv.Tryz
/- The plain law of the document's segments. -/
set_option linter.unusedVariables false
set_option maxRecDepth 20000
set_option linter.unusedSimpArgs false
namespace Gv.Tryz
open Go Gv Go.Proofs

def strip (s : Seg) : Seg := { s with head := false }
def stripL (l : List Seg) : List Seg := l.map strip
theorem stripL_append (a b : List Seg) : stripL (a ++ b) = stripL a ++ stripL b := by simp [stripL]
theorem stripL_length (l : List Seg) : (stripL l).length = l.length := by simp [stripL]
theorem stripL_at (l : List Seg) (i : Nat) : (stripL l).getD i default = strip (l.getD i default) := by
  simp only [stripL, List.getD_eq_getElem?_getD, List.getElem?_map]
  cases l[i]? <;> rfl
theorem stripL_set (l : List Seg) (i : Nat) (s : Seg) : (stripL l).set i (strip s) = stripL (l.set i s) := by simp [stripL, List.map_set]
theorem chain_last {frm : Int} {l : List (List Int)} {x : List Seg} {a b : Int} (h : chain frm l a x b) (hne : x ≠ []) : (x.getD (x.length - 1) default).hi + 1 = b := by
  obtain ⟨e1, _⟩ := set_last x hne default default
  rw [e1, chain_append] at h
  obtain ⟨c, _, h2⟩ := h
  simp only [chain] at h2
  exact h2.2.2.2.2.2.2
theorem chain_in {frm : Int} {l : List (List Int)} : ∀ {x : List Seg} {a b : Int}, chain frm l a x b → ∀ s ∈ x, a ≤ s.lo ∧ s.lo ≤ s.hi ∧ s.hi < b
  | [], a, b, h, s, hs => by simp at hs
  | y :: x, a, b, h, s, hs => by
    simp only [chain] at h
    obtain ⟨h1, h2, _, _, _, _, h7⟩ := h
    have := chain_le _ _ _ _ _ h7
    rcases List.mem_cons.1 hs with rfl | hs
    · omega
    · have := chain_in h7 s hs; omega
def refL (m o : List (List Int)) (k : Nat) : List Seg := if k ≤ m.length then stripL (lrun 0 m k).out else stripL (linesI 0 m) ++ stripL (lrun split o (k - m.length)).out
theorem lstep_strip (frm : Int) (l : List (List Int)) (k : Nat) (P : List Seg) (hP : k = 0 → P = [] ∨ (P.getD (P.length - 1) default).hi ≠ frm - 1) :
    let out := P ++ stripL (lrun frm l k).out
    let id := frm + (k : Int)
    let p := l.getD k []
    ((out ≠ [] ∧ (out.getD (out.length - 1) default).hi = id - 1 ∧ p.length = 1 ∧ p.getD 0 0 = id - 1) → P ++ stripL (lrun frm l (k + 1)).out = out.set (out.length - 1) { out.getD (out.length - 1) default with hi := id }) ∧
    (¬ (out ≠ [] ∧ (out.getD (out.length - 1) default).hi = id - 1 ∧ p.length = 1 ∧ p.getD 0 0 = id - 1) → P ++ stripL (lrun frm l (k + 1)).out = out ++ [⟨id, id, p, decide (p.length = 0), false⟩]) := by
  intro out id p
  have hch := lrun_chain frm l k
  have hne := (lrun_len frm l k).2
  have hrun : (lrun frm l (k + 1)) = lstep frm (lrun frm l k) k (l.getD k []) := rfl
  rw [hrun]
  by_cases hk : k = 0
  · subst hk
    have e0 : (lrun frm l 0).out = [] := rfl
    have eo : out = P := by show P ++ stripL (lrun frm l 0).out = P; rw [e0]; simp [stripL]
    have el : stripL (lstep frm (lrun frm l 0) 0 (l.getD 0 [])).out = [⟨id, id, p, decide (p.length = 0), false⟩] := by
      unfold lstep; simp only [Nat.lt_irrefl, false_and, if_false]; rw [e0]; rfl
    rw [el, eo]
    refine ⟨fun ⟨h1, h2, _⟩ => ?_, fun _ => rfl⟩
    rcases hP rfl with h | h
    · exact absurd h h1
    · exact absurd (by rw [h2]; show frm + ((0 : Nat) : Int) - 1 = frm - 1; omega) h
  · have hno := hne hk
    have hlast := chain_last hch hno
    obtain ⟨e1, e2⟩ := set_last (lrun frm l k).out hno default default
    have hpos : 0 < (lrun frm l k).out.length := List.length_pos_iff.2 hno
    have hout : out ≠ [] := fun e => by
      have := congrArg List.length e
      simp only [out, List.length_append, stripL_length, List.length_nil] at this; omega
    have hlen : out.length - 1 = P.length + ((lrun frm l k).out.length - 1) := by
      simp only [out, List.length_append, stripL_length]; omega
    have hat : out.getD (out.length - 1) default = strip ((lrun frm l k).out.getD ((lrun frm l k).out.length - 1) default) := by
      rw [hlen, ← stripL_at]
      show (P ++ stripL (lrun frm l k).out).getD _ default = _
      simp only [List.getD_eq_getElem?_getD]
      rw [List.getElem?_append_right (by omega)]; congr 2; omega
    have hhi : (out.getD (out.length - 1) default).hi = id - 1 := by
      rw [hat]
      show ((lrun frm l k).out.getD ((lrun frm l k).out.length - 1) default).hi = frm + (k : Int) - 1
      omega
    unfold lstep
    simp only
    refine ⟨fun ⟨_, _, h3, h4⟩ => ?_, fun h => ?_⟩
    · rw [if_pos ⟨by omega, h3, h4⟩, hat, hlen]
      show _ = (P ++ stripL (lrun frm l k).out).set _ _
      rw [List.set_append_right _ _ (by omega), show P.length + ((lrun frm l k).out.length - 1) - P.length = (lrun frm l k).out.length - 1 by omega]
      congr 1
      rw [← stripL_set]; rfl
    · rw [if_neg (fun h2 => h ⟨hout, hhi, h2.2.1, h2.2.2⟩), stripL_append, ← List.append_assoc]
      rfl
theorem refL_step {m o : List (List Int)} (hm : m.length + o.length ≤ 1000) {k : Nat} (hk : k < m.length + o.length) {out : List Seg} (ho : out = refL m o k) {id : Int} (hid : id = (allI m.length o.length).getD k 0) {p : List Int} (hp : p = parI m o id) :
    ((out ≠ [] ∧ (out.getD (out.length - 1) default).hi = id - 1 ∧ p.length = 1 ∧ p.getD 0 0 = id - 1) → refL m o (k + 1) = out.set (out.length - 1) { out.getD (out.length - 1) default with hi := id }) ∧
    (¬ (out ≠ [] ∧ (out.getD (out.length - 1) default).hi = id - 1 ∧ p.length = 1 ∧ p.getD 0 0 = id - 1) → refL m o (k + 1) = out ++ [⟨id, id, p, decide (p.length = 0), false⟩]) := by
  have hs : split = 1099511627776 := rfl
  have eid := allI_at m.length o.length k hk
  rw [← hid] at eid
  subst ho
  by_cases hkm : k < m.length
  · rw [if_pos hkm] at eid
    have e1 : refL m o k = [] ++ stripL (lrun 0 m k).out := by rw [refL, if_pos (by omega)]; rfl
    have e2 : refL m o (k + 1) = [] ++ stripL (lrun 0 m (k + 1)).out := by rw [refL, if_pos (by omega)]; rfl
    have e3 : p = m.getD k [] := by rw [hp, eid, parI_m _ _ _ (by omega) (by omega)]; congr 1
    have := lstep_strip 0 m k [] (fun _ => .inl rfl)
    rw [Int.zero_add] at this
    rw [e1, e2, e3, eid]
    exact this
  · rw [if_neg hkm] at eid
    have e1 : refL m o k = stripL (linesI 0 m) ++ stripL (lrun split o (k - m.length)).out := by
      rw [refL]
      split
      · have : k = m.length := by omega
        rw [this, Nat.sub_self]; simp [linesI, lrun, stripL]
      · rfl
    have e2 : refL m o (k + 1) = stripL (linesI 0 m) ++ stripL (lrun split o (k - m.length + 1)).out := by
      rw [refL, if_neg (by omega), show k + 1 - m.length = k - m.length + 1 by omega]
    have e3 : p = o.getD (k - m.length) [] := by rw [hp, eid, parI_o _ _ _ (by omega) (by omega) (by omega)]; congr 1; omega
    have := lstep_strip split o (k - m.length) (stripL (linesI 0 m)) (fun h0 => by
      by_cases hm0 : linesI 0 m = []
      · left; rw [hm0]; rfl
      · right
        have hc := chain_last (lrun_chain 0 m m.length) hm0
        rw [stripL_length, stripL_at]
        show ((linesI 0 m).getD ((linesI 0 m).length - 1) default).hi ≠ split - 1
        have hc' : ((linesI 0 m).getD ((linesI 0 m).length - 1) default).hi + 1 = 0 + (m.length : Int) := hc
        omega)
    rw [e1, e2, e3, eid]
    exact this
theorem refL_end {m o : List (List Int)} (hr : rightI m o = true) : refL m o (m.length + o.length) = stripL (buildI m o) := by
  rw [buildI, if_pos hr, stripL_append, refL]
  split
  · have h : o.length = 0 := by omega
    have : o = [] := List.length_eq_zero_iff.1 h
    subst this; simp [linesI, lrun, stripL]
  · rw [show m.length + o.length - m.length = o.length by omega]; rfl
theorem head_told {m o : List (List Int)} (hm : m.length + o.length ≤ 1000) (hr : rightI m o = true) {s : Seg} (hs : s ∈ buildI m o) {first : Int} (hf : first = if split ≤ s.lo then split else 0) {l : List Int} (hu : UpSet m o [s.hi] l) :
    s.head = decide (((l.filter (fun x => decide (first ≤ x))).length : Int) = s.hi - first + 1) := by
  have hsp : split = 1099511627776 := rfl
  rw [buildI, if_pos hr, List.mem_append] at hs
  have key : ∀ (frm : Int) (L : List (List Int)), ((frm = 0 ∧ L = m) ∨ (frm = split ∧ L = o)) → s ∈ linesI frm L → first = frm → s.head = decide (((l.filter (fun x => decide (first ≤ x))).length : Int) = s.hi - first + 1) := by
    intro frm L hg hs hff
    obtain ⟨j, h1, h2, h3⟩ := lrun_head frm L L.length s hs
    rw [h2] at hu
    have := count_head hm hr frm L hg h1 hu
    rw [h3, hff, h2, Bool.eq_iff_iff, decide_eq_true_iff, decide_eq_true_iff, ← this]
    omega
  rcases hs with hs | hs
  · have := chain_in (lrun_chain 0 m m.length) s hs
    exact key 0 m (.inl ⟨rfl, rfl⟩) hs (by rw [hf, if_neg (by omega)])
  · have := chain_in (lrun_chain split o o.length) s hs
    exact key split o (.inr ⟨rfl, rfl⟩) hs (by rw [hf, if_pos (by omega)])
end Gv.Tryz
