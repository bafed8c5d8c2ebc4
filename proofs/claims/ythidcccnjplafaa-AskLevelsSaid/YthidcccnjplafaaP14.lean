import Derived.Test.YthidcccnjplafaaP8
import Derived.Test.YthidcccnjplafaaP13
import Derived.Test.YthidcccnjplafaaP7
import Derived.Test.YthidcccnjplafaaP11
import Derived.Test.YthidcccnjplafaaP12

/- Contracts: equal lists of lists and of segments. -/
set_option linter.unusedVariables false
set_option linter.unusedSimpArgs false
set_option maxRecDepth 20000
set_option maxHeartbeats 4000000
namespace Gv.Try
open Go Gv Go.Proofs

theorem segs_ext {a b : List Seg} (h : a.length = b.length) (hj : ∀ j, j < a.length → a.getD j default = b.getD j default) : a = b := by
  apply List.ext_getElem h
  intro i h3 h4
  have := hj i h3
  simpa [List.getD, h3, h4] using this

theorem spec39 (a b : List Seg) (ta tb : Tag) (ha : a.length ≤ 17592186044416) (hp : ∀ i, (a.getD i default).par.length ≤ 17592186044416) : GPure Try.prog 19 [.slice (segsG a) ta, .slice (segsG b) tb] (.bool (decide (a = b))) := by
  refine h19.pure mixS (by simp) ?_
  simp only [gstart, s19, List.cons_append, List.nil_append, List.length_cons, List.length_nil, Nat.reduceAdd, Nat.reduceSub, List.replicate_succ, List.replicate_zero]
  simp +contextual -implicitDefEqProofs (maxSteps := 2000000) (disch := omega) only [drawC, ↓lenV, binV, ↓unV, ↓loadV, ↓indexAddrV, GVal.cells, grp, GVal.ofConst, ↓resV, resG, List.map, List.headD, List.take, List.drop, ↓reduceIte, Nat.reduceEqDiff, Nat.reduceAdd, Nat.reduceSub, Nat.reduceLeDiff, reduceCtorEq, implies_true, ne_eq, aggV, Tag.cap, List.replicate, allSolid, GVal.solid, Nat.reduceBEq, Nat.reduceMul, Nat.reduceLT, List.length_map, List.length_range, splice, vcA, ↓vcB, vcC, fbFf, e19, segsG_length]
  refine ⟨fun h => ?_, fun h => ?_⟩
  · rw [eq_comm, decide_eq_false_iff_not]; intro e; subst e; exact h rfl
  · have hlen : a.length = b.length := by omega
    refine vcSLoop_by (ι := { k : Nat // k ≤ a.length ∧ ∀ j, j < k → a.getD j default = b.getD j default }) (fun k => ⟨[.slice (segsG a) ta, .slice (segsG b) tb, .any, .any, .any, .int .i64 (k.1 : Nat)] ++ List.replicate 21 .any, []⟩) (fun k => a.length - k.1) ?_ ?_
    · exact Into.first ⟨0, by omega, by omega⟩ ⟨[], by simp⟩ (by simp [WL, leG_self, leG_any])
    rintro ⟨k, hk, hj⟩
    have c18 := spec18 (a.getD k default) (b.getD k default) (hp k)
    simp +contextual -implicitDefEqProofs (maxSteps := 2000000) (disch := omega) only [drawC, ↓lenV, binV, ↓unV, ↓loadV, ↓indexAddrV, GVal.cells, grp, GVal.ofConst, ↓resV, resG, List.map, List.headD, List.take, List.drop, ↓reduceIte, Nat.reduceEqDiff, Nat.reduceAdd, Nat.reduceSub, Nat.reduceLeDiff, reduceCtorEq, implies_true, ne_eq, aggV, Tag.cap, List.replicate, allSolid, GVal.solid, Nat.reduceBEq, Nat.reduceMul, Nat.reduceLT, List.length_map, List.length_range, splice, vcA, ↓vcB, vcC, fbFf, e19, segsG_length, segsG_at, segG]
    refine ⟨fun h1 => ⟨by omega, by omega, by omega, c18.then ?_⟩, fun h1 => ?_⟩
    · by_cases e : a.getD k default = b.getD k default
      · rw [decide_eq_true e]
        simp +contextual -implicitDefEqProofs (maxSteps := 2000000) (disch := omega) only [drawC, ↓lenV, binV, ↓unV, ↓loadV, ↓indexAddrV, GVal.cells, grp, GVal.ofConst, ↓resV, resG, List.map, List.headD, List.take, List.drop, ↓reduceIte, Nat.reduceEqDiff, Nat.reduceAdd, Nat.reduceSub, Nat.reduceLeDiff, reduceCtorEq, implies_true, ne_eq, aggV, Tag.cap, List.replicate, allSolid, GVal.solid, Nat.reduceBEq, Nat.reduceMul, Nat.reduceLT, List.length_map, List.length_range, splice, vcA, ↓vcB, vcC, fbFf, e19]
        refine Into.at ⟨k + 1, by omega, fun j hj' => ?_⟩ (by show _ < _; simp; omega) ⟨_, rfl⟩ (by simp [WL, leG_self, leG_any, leG_int])
        by_cases e : j = k
        · rw [e]; assumption
        · exact hj j (by omega)
      · rw [decide_eq_false e]
        simp +contextual -implicitDefEqProofs (maxSteps := 2000000) (disch := omega) only [drawC, ↓lenV, binV, ↓unV, ↓loadV, ↓indexAddrV, GVal.cells, grp, GVal.ofConst, ↓resV, resG, List.map, List.headD, List.take, List.drop, ↓reduceIte, Nat.reduceEqDiff, Nat.reduceAdd, Nat.reduceSub, Nat.reduceLeDiff, reduceCtorEq, implies_true, ne_eq, aggV, Tag.cap, List.replicate, allSolid, GVal.solid, Nat.reduceBEq, Nat.reduceMul, Nat.reduceLT, List.length_map, List.length_range, splice, vcA, ↓vcB, vcC, fbFf, e19]
        rw [eq_comm, decide_eq_false_iff_not]; intro e'; exact e (by rw [e'])
    · rw [eq_comm, decide_eq_true_iff]
      exact segs_ext hlen fun j h => hj j (by omega)

end Gv.Try
/- Contracts: the same tables, the document's Find. -/
set_option linter.unusedVariables false
set_option linter.unusedSimpArgs false
set_option maxRecDepth 20000
set_option maxHeartbeats 4000000
namespace Gv.Try
open Go Gv Go.Proofs

/-- the place of the segment that has an ID -/
def fnd (id : Int) : List Seg → Nat → Int × Bool
  | [], _ => (0, false)
  | s :: r, k => if s.lo ≤ id ∧ id ≤ s.hi then ((k : Int), true) else fnd id r (k + 1)
end Gv.Try
/- Contracts: a segment's rows put behind a table's. -/
set_option linter.unusedVariables false
set_option linter.unusedSimpArgs false
set_option maxRecDepth 20000
set_option maxHeartbeats 8000000
namespace Gv.Try
open Go Gv Go.Proofs

end Gv.Try
/- Contract: the table of segments. -/
set_option linter.unusedVariables false
set_option linter.unusedSimpArgs false
set_option maxRecDepth 20000
set_option maxHeartbeats 8000000
namespace Gv.Try
open Go Gv Go.Proofs

abbrev Tab := List (List Int) × List (List Int)
/-- a table within bounds -/
def okT (t : Tab) : Prop := t.1.length + t.2.length ≤ 1000 ∧ (∀ p ∈ t.1, p.length ≤ 17592186044416) ∧ ∀ p ∈ t.2, p.length ≤ 17592186044416
end Gv.Try
/- Contracts: where an ID is found; its parents. -/
set_option linter.unusedVariables false
set_option linter.unusedSimpArgs false
set_option maxRecDepth 20000
set_option maxHeartbeats 8000000
namespace Gv.Try
open Go Gv Go.Proofs

theorem c56 (l : List Seg) (t : Tag) (id : Int) (k : Nat) (s1 s2 : Nat) (hk : k < l.length) :
    GCalls Try.prog 87 [.int .i64 (k : Nat), .ptr 0 s1 0 0, .ptr 1 s2 0 0] [.row s1 1 [[.slice (segsG l) t]], .row s2 1 [[.int .i64 id]]] (fun g O' => g = .bool (decide (id ≤ (l.getD k default).hi)) ∧ O' = [.row s1 1 [[.slice (segsG l) t]], .row s2 1 [[.int .i64 id]]]) := by
  have eS : (segsG l).getD k [] = segG (l.getD k default) := segsG_at l k hk
  generalize l.getD k default = s at *
  refine h87.calls mixS (by simp) ?_
  simp only [gstart, s87, List.cons_append, List.nil_append, List.length_cons, List.length_nil, Nat.reduceAdd, Nat.reduceSub, List.replicate_succ, List.replicate_zero]
  simp +contextual -implicitDefEqProofs (maxSteps := 2000000) (disch := omega) only [drawC, binV, ↓loadV, ↓fieldAddrV, ↓indexAddrV, GVal.cells, grp, GVal.ofConst, ↓resV, resG, List.map, List.headD, List.take, List.drop, ↓reduceIte, Nat.reduceEqDiff, Nat.reduceAdd, Nat.reduceSub, Nat.reduceLeDiff, reduceCtorEq, implies_true, ne_eq, Tag.cap, List.replicate, allSolid, GVal.solid, Nat.reduceBEq, Nat.reduceMul, Nat.reduceLT, List.length_map, List.length_range, splice, vcA, ↓vcB, vcC, fbFf, e87, segsG_length, eS, segG]
  omega

/-- where the search ends -/
def Ends (l : List Seg) (id : Int) (k : Nat) : Prop := k ≤ l.length ∧ (0 < k → (l.getD (k - 1) default).hi < id) ∧ (k < l.length → id ≤ (l.getD k default).hi)

theorem c55 (l : List Seg) (t : Tag) (id : Int) (s1 s2 : Nat) (hl : l.length ≤ 17592186044416) :
    GCalls Try.prog 86 [.int .i64 (l.length : Nat), .func (.func 87) [] [.ptr 0 s1 0 0, .ptr 1 s2 0 0]] [.row s1 1 [[.slice (segsG l) t]], .row s2 1 [[.int .i64 id]]] (fun g O' => (∃ k : Nat, g = .int .i64 k ∧ Ends l id k) ∧ O' = [.row s1 1 [[.slice (segsG l) t]], .row s2 1 [[.int .i64 id]]]) := by
  have q1 := fun (a : Int) K => conv_int Try.prog 3 106 .i64 .u64 a K und3 und106
  have q2 := fun (a : Int) K => conv_int Try.prog 106 3 .u64 .i64 a K und106 und3
  refine h86.calls mixS (by simp) ?_
  simp only [gstart, s86, List.cons_append, List.nil_append, List.length_cons, List.length_nil, Nat.reduceAdd, Nat.reduceSub, List.replicate_succ, List.replicate_zero]
  simp +contextual -implicitDefEqProofs (maxSteps := 2000000) (disch := omega) only [binV, ↓unV, ↓convV, GVal.cells, grp, GVal.ofConst, ↓resV, resG, List.map, List.headD, List.take, List.drop, ↓reduceIte, Nat.reduceEqDiff, Nat.reduceAdd, Nat.reduceSub, Nat.reduceLeDiff, reduceCtorEq, implies_true, ne_eq, Tag.cap, List.replicate, allSolid, GVal.solid, Nat.reduceBEq, Nat.reduceMul, Nat.reduceLT, List.length_map, List.length_range, splice, vcA, ↓vcB, vcC, fbFf, e86]
  refine vcSLoop_by (ι := { p : Nat × Nat // p.1 ≤ p.2 ∧ p.2 ≤ l.length ∧ (0 < p.1 → (l.getD (p.1 - 1) default).hi < id) ∧ (p.2 < l.length → id ≤ (l.getD p.2 default).hi) }) (fun p => ⟨[.int .i64 (l.length : Nat), .func (.func 87) [] [.ptr 0 s1 0 0, .ptr 1 s2 0 0], .any, .any, .any, .int .i64 (p.1.1 : Nat), .int .i64 (p.1.2 : Nat)] ++ List.replicate 19 .any, [.row s1 1 [[.slice (segsG l) t]], .row s2 1 [[.int .i64 id]]]⟩) (fun p => p.1.2 - p.1.1) ?_ ?_
  · exact Into.first ⟨(0, l.length), by omega, by omega, by simp, by simp⟩ ⟨[], by simp⟩ (by simp [WL, leG_self, leG_any])
  · rintro ⟨⟨i, j⟩, h1, h2, h3, h4⟩
    change i ≤ j at h1
    change j ≤ l.length at h2
    change 0 < i → (l.getD (i - 1) default).hi < id at h3
    change j < l.length → id ≤ (l.getD j default).hi at h4
    by_cases hij : i < j
    · have d0 : decide ((i : Int) < (j : Int)) = true := decide_eq_true (by omega)
      have hm : ((i : Int) + j) / 2 = ((i + j) / 2 : Nat) := by omega
      have e1 : norm .u64 ((i : Int) + j) = (i : Int) + j := norm_u64 (by omega)
      have e2 : norm .i64 (((i + j) / 2 : Nat) : Int) = ((i + j) / 2 : Nat) := norm_i64 (by omega)
      simp +contextual -implicitDefEqProofs (maxSteps := 2000000) (disch := omega) only [binV, ↓unV, ↓convV, GVal.cells, grp, GVal.ofConst, ↓resV, resG, List.map, List.headD, List.take, List.drop, ↓reduceIte, Nat.reduceEqDiff, Nat.reduceAdd, Nat.reduceSub, Nat.reduceLeDiff, reduceCtorEq, implies_true, ne_eq, Tag.cap, List.replicate, allSolid, GVal.solid, Nat.reduceBEq, Nat.reduceMul, Nat.reduceLT, List.length_map, List.length_range, splice, vcA, ↓vcB, vcC, fbFf, e86, d0, ↓q1, ↓q2, ↓ibin_shr1, e1, hm, e2]
      have hb : (i + j) / 2 < l.length := by omega
      have c := c56 l t id ((i + j) / 2) s1 s2 hb
      have hlo : i ≤ (i + j) / 2 := by omega
      have hhi : (i + j) / 2 < j := by omega
      have e3 : norm .i64 (((i : Int) + j) / 2 ^ Int.toNat 1) = ((i + j) / 2 : Nat) := by rw [show (2 : Int) ^ Int.toNat 1 = 2 from rfl, hm, e2]
      clear e1 e2 hm
      generalize (i + j) / 2 = h at *
      refine ⟨by omega, by decide, ?_⟩
      rw [e3]
      refine c.mono ?_
      rintro g O' ⟨rfl, rfl⟩
      by_cases hq : id ≤ (l.getD h default).hi
      · rw [decide_eq_true hq]
        simp +contextual -implicitDefEqProofs (maxSteps := 2000000) (disch := omega) only [binV, ↓unV, ↓convV, GVal.cells, grp, GVal.ofConst, ↓resV, resG, List.map, List.headD, List.take, List.drop, ↓reduceIte, Nat.reduceEqDiff, Nat.reduceAdd, Nat.reduceSub, Nat.reduceLeDiff, reduceCtorEq, implies_true, ne_eq, Tag.cap, List.replicate, allSolid, GVal.solid, Nat.reduceBEq, Nat.reduceMul, Nat.reduceLT, List.length_map, List.length_range, splice, vcA, ↓vcB, vcC, fbFf, e86]
        exact Into.at ⟨(i, h), by show i ≤ h; omega, by show h ≤ _; omega, h3, fun _ => hq⟩ (by show h - i < j - i; omega) ⟨_, rfl⟩ (by simp [WL, leG_self, leG_any, leG_int])
      · rw [decide_eq_false hq]
        simp +contextual -implicitDefEqProofs (maxSteps := 2000000) (disch := omega) only [binV, ↓unV, ↓convV, GVal.cells, grp, GVal.ofConst, ↓resV, resG, List.map, List.headD, List.take, List.drop, ↓reduceIte, Nat.reduceEqDiff, Nat.reduceAdd, Nat.reduceSub, Nat.reduceLeDiff, reduceCtorEq, implies_true, ne_eq, Tag.cap, List.replicate, allSolid, GVal.solid, Nat.reduceBEq, Nat.reduceMul, Nat.reduceLT, List.length_map, List.length_range, splice, vcA, ↓vcB, vcC, fbFf, e86]
        exact Into.at ⟨(h + 1, j), by show h + 1 ≤ j; omega, h2, fun _ => by show (l.getD (h + 1 - 1) default).hi < id; rw [Nat.add_sub_cancel]; omega, h4⟩ (by show j - (h + 1) < j - i; omega) ⟨_, rfl⟩ (by simp [WL, leG_self, leG_any, leG_int])
    · have d0 : decide ((i : Int) < (j : Int)) = false := decide_eq_false (by omega)
      simp +contextual -implicitDefEqProofs (maxSteps := 2000000) (disch := omega) only [binV, ↓unV, ↓convV, GVal.cells, grp, GVal.ofConst, ↓resV, resG, List.map, List.headD, List.take, List.drop, ↓reduceIte, Nat.reduceEqDiff, Nat.reduceAdd, Nat.reduceSub, Nat.reduceLeDiff, reduceCtorEq, implies_true, ne_eq, Tag.cap, List.replicate, allSolid, GVal.solid, Nat.reduceBEq, Nat.reduceMul, Nat.reduceLT, List.length_map, List.length_range, splice, vcA, ↓vcB, vcC, fbFf, e86, d0]
      have e : i = j := by omega
      subst e
      exact ⟨i, rfl, h2, h3, h4⟩

def endAt (l : List Seg) (id : Int) (k : Nat) : Int × Bool := if k = l.length ∨ id < (l.getD k default).lo then (0, false) else ((k : Int), true)

theorem spec33 (l : List Seg) (t : Tag) (id : Int) (r : Int × Bool) (hl : l.length ≤ 17592186044416) (hr : ∀ k, Ends l id k → endAt l id k = r) :
    GPure Try.prog 64 [.slice (segsG l) t, .int .i64 id] (.tuple [.int .i64 r.1, .bool r.2]) := by
  refine h64.pure mixS (by simp) ?_
  simp only [gstart, s64, List.cons_append, List.nil_append, List.length_cons, List.length_nil, Nat.reduceAdd, Nat.reduceSub, List.replicate_succ, List.replicate_zero]
  simp +contextual -implicitDefEqProofs (maxSteps := 2000000) (disch := omega) only [drawC, ↓lenV, binV, ↓loadV, ↓fieldAddrV, ↓indexAddrV, ↓boxV, GVal.cells, grp, GVal.ofConst, ↓resV, resG, List.map, List.headD, List.take, List.drop, ↓reduceIte, Nat.reduceEqDiff, Nat.reduceAdd, Nat.reduceSub, Nat.reduceLeDiff, reduceCtorEq, implies_true, ne_eq, aggV, Tag.cap, List.replicate, allSolid, GVal.solid, Nat.reduceBEq, Nat.reduceMul, Nat.reduceLT, List.length_map, List.length_range, splice, vcA, ↓vcB, vcC, fbFf, e64, segsG_length]
  intro s1 s2
  repeat (refine ⟨by omega, ?_⟩)
  refine (c55 l t id s1 s2 hl).mono ?_
  rintro g O' ⟨⟨k, rfl, hk⟩, rfl⟩
  have hh := hr k hk
  have hk2 := hk.1
  by_cases he : k = l.length
  · have d0 : ((k : Int) == (l.length : Int)) = true := by rw [beq_iff_eq]; omega
    rw [endAt, if_pos (.inl he)] at hh
    simp +contextual -implicitDefEqProofs (maxSteps := 2000000) (disch := omega) only [drawC, ↓lenV, binV, ↓loadV, ↓fieldAddrV, ↓indexAddrV, ↓boxV, GVal.cells, grp, GVal.ofConst, ↓resV, resG, List.map, List.headD, List.take, List.drop, ↓reduceIte, Nat.reduceEqDiff, Nat.reduceAdd, Nat.reduceSub, Nat.reduceLeDiff, reduceCtorEq, implies_true, ne_eq, aggV, Tag.cap, List.replicate, allSolid, GVal.solid, Nat.reduceBEq, Nat.reduceMul, Nat.reduceLT, List.length_map, List.length_range, splice, vcA, ↓vcB, vcC, fbFf, e64, segsG_length, d0]
    subst hh
    exact ⟨rfl, rfl⟩
  · have d0 : ((k : Int) == (l.length : Int)) = false := by rw [beq_eq_false_iff_ne]; omega
    have eS : (segsG l).getD k [] = segG (l.getD k default) := segsG_at l k (by omega)
    unfold endAt at hh
    generalize l.getD k default = s at *
    simp +contextual -implicitDefEqProofs (maxSteps := 2000000) (disch := omega) only [drawC, ↓lenV, binV, ↓loadV, ↓fieldAddrV, ↓indexAddrV, ↓boxV, GVal.cells, grp, GVal.ofConst, ↓resV, resG, List.map, List.headD, List.take, List.drop, ↓reduceIte, Nat.reduceEqDiff, Nat.reduceAdd, Nat.reduceSub, Nat.reduceLeDiff, reduceCtorEq, implies_true, ne_eq, aggV, Tag.cap, List.replicate, allSolid, GVal.solid, Nat.reduceBEq, Nat.reduceMul, Nat.reduceLT, List.length_map, List.length_range, splice, vcA, ↓vcB, vcC, fbFf, e64, segsG_length, eS, segG, d0]
    refine ⟨by omega, by omega, fun h1 => ?_, fun h1 => ?_⟩
    · rw [if_pos (.inr h1)] at hh
      subst hh; exact ⟨rfl, rfl⟩
    · rw [if_neg (by omega)] at hh
      subst hh; exact ⟨rfl, rfl⟩

end Gv.Try
/- The plain laws: an ID is found where it is; the table is there again. -/
set_option linter.unusedVariables false
set_option maxRecDepth 20000
set_option linter.unusedSimpArgs false
namespace Gv.Try
open Go Gv Go.Proofs

/-- is an ID in a segment? -/
def inS (id : Int) (s : Seg) : Prop := s.lo ≤ id ∧ id ≤ s.hi
def SortedS : List Seg → Prop
  | [] => True
  | s :: r => s.lo ≤ s.hi ∧ (∀ x ∈ r, s.hi < x.lo) ∧ SortedS r
theorem SortedS.at_ : ∀ {l : List Seg}, SortedS l → ∀ i j, i < j → j < l.length → (l.getD i default).hi < (l.getD j default).lo
  | [], _, i, j, _, hj => by simp at hj
  | s :: r, h, 0, j + 1, _, hj => by
    have hj' : j < r.length := by simpa using hj
    simp only [List.getD_cons_zero, List.getD_cons_succ]
    exact h.2.1 _ (by rw [List.getD_eq_getElem?_getD, List.getElem?_eq_getElem hj']; exact List.getElem_mem hj')
  | s :: r, h, i + 1, j + 1, hij, hj => by
    simp only [List.getD_cons_succ]
    exact SortedS.at_ h.2.2 i j (by omega) (by simpa using hj)
theorem SortedS.le : ∀ {l : List Seg}, SortedS l → ∀ i, i < l.length → (l.getD i default).lo ≤ (l.getD i default).hi
  | [], _, i, hi => by simp at hi
  | s :: r, h, 0, hi => by simpa using h.1
  | s :: r, h, i + 1, hi => by
    simp only [List.getD_cons_succ]
    exact SortedS.le h.2.2 i (by simpa using hi)
theorem fnd_yes (id : Int) : ∀ (l : List Seg) (k b : Nat), k < l.length → inS id (l.getD k default) → (∀ j, j < k → ¬ inS id (l.getD j default)) → fnd id l b = (((b + k : Nat) : Int), true)
  | [], k, b, h, _, _ => by simp at h
  | s :: r, 0, b, h, h1, _ => by
    rw [fnd, if_pos (by simpa [inS] using h1)]; rfl
  | s :: r, k + 1, b, h, h1, h2 => by
    have h0 := h2 0 (by omega)
    rw [fnd, if_neg (by simpa [inS] using h0), fnd_yes id r k (b + 1) (by simpa using h) (by simpa using h1) (fun j hj => by simpa using h2 (j + 1) (by omega))]
    rw [show b + 1 + k = b + (k + 1) from by omega]
theorem fnd_no (id : Int) : ∀ (l : List Seg) (b : Nat), (∀ j, j < l.length → ¬ inS id (l.getD j default)) → fnd id l b = (0, false)
  | [], b, _ => rfl
  | s :: r, b, h => by
    have h0 := h 0 (by simp)
    rw [fnd, if_neg (by simpa [inS] using h0), fnd_no id r (b + 1) (fun j hj => by simpa using h (j + 1) (by simpa using hj))]
theorem ends_fnd {l : List Seg} (hs : SortedS l) (id : Int) (k : Nat) (h : Ends l id k) : endAt l id k = fnd id l 0 := by
  obtain ⟨h1, h2, h3⟩ := h
  have hlow : ∀ j, j < k → ¬ inS id (l.getD j default) := fun j hj hi => by
    have hk := h2 (by omega)
    by_cases e : j = k - 1
    · subst e; exact absurd hi.2 (by omega)
    · have q1 := hs.at_ j (k - 1) (by omega) (by omega)
      have q2 := hs.le (k - 1) (by omega)
      exact absurd hi.2 (by omega)
  unfold endAt
  by_cases hk : k < l.length
  · have h3 := h3 hk
    by_cases hlo : id < (l.getD k default).lo
    · rw [if_pos (.inr hlo), fnd_no]
      intro j hj hi
      by_cases e : j < k
      · exact hlow j e hi
      · by_cases e2 : j = k
        · subst e2; exact absurd hi.1 (by omega)
        · have q1 := hs.at_ k j (by omega) hj
          have q2 := hs.le k hk
          exact absurd hi.1 (by omega)
    · rw [if_neg (by omega), fnd_yes id l k 0 hk ⟨by omega, h3⟩ hlow, Nat.zero_add]
  · rw [if_pos (.inl (by omega)), fnd_no]
    exact fun j hj => hlow j (by omega)

/-! the table is there again -/
end Gv.Try
/- The plain law of heads: kept by a map, counted by ancestors. -/
set_option linter.unusedVariables false
set_option maxRecDepth 20000
set_option linter.unusedSimpArgs false
namespace Gv.Try
open Go Gv Go.Proofs

theorem hdel_nodup : ∀ (q l : List Int), l.Nodup → (hdel l q).Nodup ∧ ∀ x, x ∈ hdel l q ↔ x ∈ l ∧ x ∉ q
  | [], l, h => ⟨h, fun x => by simp [hdel]⟩
  | p :: q, l, h => by
    obtain ⟨h1, h2⟩ := hdel_nodup q (l.erase p) (h.erase p)
    refine ⟨h1, fun x => ?_⟩
    show x ∈ hdel (l.erase p) q ↔ _
    rw [h2, h.mem_erase_iff]
    simp only [List.mem_cons, not_or]
    constructor
    · rintro ⟨⟨a, b⟩, c⟩; exact ⟨b, a, c⟩
    · rintro ⟨a, b, c⟩; exact ⟨⟨b, a⟩, c⟩
/-- the heads that are kept are those without a child -/
theorem lrun_hs (frm : Int) (l : List (List Int)) : ∀ k, (lrun frm l k).hs.Nodup ∧ ∀ x, x ∈ (lrun frm l k).hs ↔ ∃ j : Nat, j < k ∧ x = frm + j ∧ ∀ c : Nat, j < c → c < k → x ∉ l.getD c []
  | 0 => by simp [lrun]
  | k + 1 => by
    obtain ⟨i1, i2⟩ := lrun_hs frm l k
    have hlt := (lrun_heads frm l k).1
    have hh : (lrun frm l (k + 1)).hs = hins (hdel (lrun frm l k).hs (l.getD k [])) (frm + k) := by
      rw [lrun]; unfold lstep; simp only; split <;> rfl
    obtain ⟨d1, d2⟩ := hdel_nodup (l.getD k []) _ i1
    have hn : frm + (k : Int) ∉ hdel (lrun frm l k).hs (l.getD k []) := fun h => by
      have := hlt _ ((d2 _).1 h).1; omega
    rw [hh, hins, if_neg hn]
    refine ⟨?_, fun x => ?_⟩
    · rw [List.nodup_append]
      exact ⟨d1, by simp, fun a ha b hb => by simp at hb; subst hb; exact fun e => hn (by rw [← e]; exact ha)⟩
    · rw [List.mem_append, d2, i2]
      simp only [List.mem_singleton]
      constructor
      · rintro (⟨⟨j, h1, h2, h3⟩, h4⟩ | h)
        · refine ⟨j, by omega, h2, fun c hc1 hc2 => ?_⟩
          by_cases e : c = k
          · subst e; exact h4
          · exact h3 c hc1 (by omega)
        · exact ⟨k, by omega, h, fun c hc1 hc2 => by omega⟩
      · rintro ⟨j, h1, h2, h3⟩
        by_cases e : j = k
        · subst e; exact .inr h2
        · exact .inl ⟨⟨j, by omega, h2, fun c hc1 hc2 => h3 c hc1 (by omega)⟩, h3 k (by omega) (by omega)⟩
/-- one head alone: each one ahead has a child -/
theorem one_head (frm : Int) (l : List (List Int)) (k : Nat) : (lrun frm l (k + 1)).hs.length = 1 ↔ ∀ j : Nat, j < k → ∃ c : Nat, j < c ∧ c ≤ k ∧ frm + (j : Int) ∈ l.getD c [] := by
  obtain ⟨i1, i2⟩ := lrun_hs frm l (k + 1)
  have hk : frm + (k : Int) ∈ (lrun frm l (k + 1)).hs := (i2 _).2 ⟨k, by omega, rfl, fun c h1 h2 => by omega⟩
  constructor
  · intro h j hj
    apply Classical.byContradiction
    intro hno
    have hj2 : frm + (j : Int) ∈ (lrun frm l (k + 1)).hs := (i2 _).2 ⟨j, by omega, rfl, fun c h1 h2 h3 => hno ⟨c, h1, by omega, h3⟩⟩
    match hhs : (lrun frm l (k + 1)).hs, h with
    | [a], _ =>
      rw [hhs] at hk hj2
      simp at hk hj2
      omega
  · intro h
    have all : ∀ x ∈ (lrun frm l (k + 1)).hs, x = frm + k := fun x hx => by
      obtain ⟨j, h1, h2, h3⟩ := (i2 x).1 hx
      by_cases e : j = k
      · rw [h2, e]
      · obtain ⟨c, c1, c2, c3⟩ := h j (by omega)
        exact absurd (h2 ▸ c3) (h3 c c1 (by omega))
    have := nodup_len (lrun frm l (k + 1)).hs [frm + k] i1 (fun x hx => by rw [all x hx]; simp)
    have h2 := List.length_pos_of_mem hk
    simp at this; omega

/-- a segment's head, told at its last ID -/
theorem lrun_head (frm : Int) (l : List (List Int)) : ∀ k, ∀ s ∈ (lrun frm l k).out, ∃ j : Nat, j < k ∧ s.hi = frm + j ∧ s.head = decide ((lrun frm l (j + 1)).hs.length = 1)
  | 0, s, hs => by simp [lrun] at hs
  | k + 1, s, hs => by
    have ih := lrun_head frm l k
    have hh : (lrun frm l (k + 1)).hs = hins (hdel (lrun frm l k).hs (l.getD k [])) (frm + k) := by
      rw [lrun]; unfold lstep; simp only; split <;> rfl
    have hne := (lrun_len frm l k).2
    rw [lrun] at hs
    unfold lstep at hs
    simp only at hs
    split at hs
    · rename_i h
      obtain ⟨e1, e2⟩ := set_last (lrun frm l k).out (hne (by omega)) default { (lrun frm l k).out.getD ((lrun frm l k).out.length - 1) default with hi := frm + k, head := decide ((hins (hdel (lrun frm l k).hs (l.getD k [])) (frm + k)).length = 1) }
      rw [e2, List.mem_append] at hs
      rcases hs with hs | hs
      · obtain ⟨j, h1, h2, h3⟩ := ih s (by rw [e1]; exact List.mem_append_left _ hs)
        exact ⟨j, by omega, h2, h3⟩
      · rw [List.mem_singleton] at hs; subst hs
        exact ⟨k, by omega, rfl, by rw [hh]⟩
    · rw [List.mem_append] at hs
      rcases hs with hs | hs
      · obtain ⟨j, h1, h2, h3⟩ := ih s hs
        exact ⟨j, by omega, h2, h3⟩
      · rw [List.mem_singleton] at hs; subst hs
        exact ⟨k, by omega, rfl, by rw [hh]⟩

/-- how many of a set are in a stretch: all of them, or not -/
theorem count_all (A l : List Int) (hA : A.Nodup) (hl : l.Nodup) (hin : ∀ x ∈ l, x ∈ A) : l.length = A.length ↔ ∀ x ∈ A, x ∈ l := by
  constructor
  · intro h x hx
    apply Classical.byContradiction
    intro hn
    have := nodup_len l (A.erase x) hl fun y hy => (List.mem_erase_of_ne (fun e => hn (by rw [← e]; exact hy))).2 (hin y hy)
    rw [List.length_erase_of_mem hx] at this
    have := List.length_pos_of_mem hx
    omega
  · intro h
    have h1 := nodup_len l A hl hin
    have h2 := nodup_len A l hA h
    omega
theorem ups_nodup (a : Int) : ∀ k, (ups a k).Nodup
  | 0 => by simp [ups]
  | k + 1 => by
    rw [ups_succ, List.nodup_append]
    exact ⟨ups_nodup a k, by simp, fun x hx y hy => by simp at hy; subst hy; have := (ups_mem a k x).1 hx; omega⟩

/-- heads by ancestors: for one group's rows -/
theorem count_head {m o : List (List Int)} (hm : m.length + o.length ≤ 1000) (hr : rightI m o = true) (frm : Int) (L : List (List Int)) (hg : (frm = 0 ∧ L = m) ∨ (frm = split ∧ L = o)) {j : Nat} (hj : j < L.length) {l : List Int} (hu : UpSet m o [frm + j] l) :
    (l.filter (fun x => decide (frm ≤ x))).length = j + 1 ↔ (lrun frm L (j + 1)).hs.length = 1 := by
  have hs : split = 1099511627776 := rfl
  have hl5 : L.length ≤ 1000 := by rcases hg with ⟨_, rfl⟩ | ⟨_, rfl⟩ <;> omega
  have hrow : ∀ c : Nat, c < L.length → parI m o (frm + c) = L.getD c [] := fun c hc => by
    rcases hg with ⟨rfl, rfl⟩ | ⟨rfl, rfl⟩
    · rw [parI_m _ _ _ (by omega) (by omega)]; congr 1; omega
    · rw [parI_o _ _ _ (by omega) (by omega) (by omega)]; congr 1; omega
  have hlt := fun x p hp => (parI_props hm hr x).1 p hp
  have hhas : ∀ c : Nat, c < L.length → hasI m.length o.length (frm + c) = true := fun c hc => by
    rw [hasI, decide_eq_true_iff]
    rcases hg with ⟨rfl, rfl⟩ | ⟨rfl, rfl⟩ <;> omega
  have hfrm : 0 ≤ frm := by rcases hg with ⟨rfl, _⟩ | ⟨rfl, _⟩ <;> omega
  -- all are at most the start
  have hle : ∀ x ∈ l, x ≤ frm + j := fun x hx => hu.least (fun x => x ≤ frm + j) (fun x hx => by simp at hx; omega) (fun x hx p hp => by have := (hlt x p hp).1; show p ≤ _; have hx : x ≤ frm + j := hx; omega) x (.inl hx)
  have hA : (ups frm (j + 1)).length = j + 1 := ups_length _ _
  have hnd : (l.filter (fun x => decide (frm ≤ x))).Nodup := hu.nodup.filter _
  have hca := count_all (ups frm (j + 1)) (l.filter (fun x => decide (frm ≤ x))) (ups_nodup _ _) hnd (fun x hx => by
    rw [List.mem_filter, decide_eq_true_iff] at hx
    rw [ups_mem]; have := hle x hx.1; omega)
  rw [hA] at hca
  rw [hca, one_head]
  constructor
  · intro h i hi
    apply Classical.byContradiction
    intro hno
    have hmem : frm + (i : Int) ∈ l := by
      have := h (frm + i) ((ups_mem _ _ _).2 (by omega))
      rw [List.mem_filter] at this; exact this.1
    have := hu.least (fun x => x ≤ frm + j ∧ x ≠ frm + i) (fun x hx => by simp at hx; subst hx; exact ⟨by omega, by omega⟩) (fun x hx p hp => by
      obtain ⟨h1, h2⟩ := hx
      have hpx := (hlt x p hp).1
      refine ⟨by omega, fun e => ?_⟩
      subst e
      have hc : ∃ c : Nat, x = frm + c := ⟨(x - frm).toNat, by omega⟩
      obtain ⟨c, rfl⟩ := hc
      rw [hrow c (by omega)] at hp
      exact hno ⟨c, by omega, by omega, hp⟩) (frm + i) (.inl hmem)
    exact this.2 rfl
  · intro h
    have key : ∀ d : Nat, d ≤ j → frm + ((j - d : Nat) : Int) ∈ l := by
      intro d
      induction d using Nat.strongRecOn with
      | ind d ih =>
        intro hd
        by_cases e : d = 0
        · subst e
          rcases hu.start (frm + j) (by simp) (hhas j hj) with h | h
          · simpa using h
          · simp at h
        · obtain ⟨c, c1, c2, c3⟩ := h (j - d) (by omega)
          have hc := ih (j - c) (by omega) (by omega)
          rw [show j - (j - c) = c by omega] at hc
          rw [← hrow c (by omega)] at c3
          rcases hu.step _ hc _ c3 (hhas (j - d) (by omega)) with h | h
          · exact h
          · simp at h
    intro x hx
    rw [ups_mem] at hx
    rw [List.mem_filter, decide_eq_true_iff]
    have := key (frm + j - x).toNat (by omega)
    rw [show frm + ((j - (frm + j - x).toNat : Nat) : Int) = x by omega] at this
    exact ⟨this, hx.1⟩

end Gv.Try
/- The plain law of the document's segments. -/
set_option linter.unusedVariables false
set_option maxRecDepth 20000
set_option linter.unusedSimpArgs false
namespace Gv.Try
open Go Gv Go.Proofs

def strip (s : Seg) : Seg := { s with head := false }
def stripL (l : List Seg) : List Seg := l.map strip
theorem stripL_append (a b : List Seg) : stripL (a ++ b) = stripL a ++ stripL b := by simp [stripL]
theorem stripL_length (l : List Seg) : (stripL l).length = l.length := by simp [stripL]
theorem stripL_at (l : List Seg) (i : Nat) : (stripL l).getD i default = strip (l.getD i default) := by
  simp only [stripL, List.getD_eq_getElem?_getD, List.getElem?_map]
  cases l[i]? <;> rfl
theorem stripL_set (l : List Seg) (i : Nat) (s : Seg) : (stripL l).set i (strip s) = stripL (l.set i s) := by simp [stripL, List.map_set]
theorem chain_last {frm : Int} {l : List (List Int)} {x : List Seg} {a b : Int} (h : chain frm l a x b) (hne : x ≠ []) : (x.getD (x.length - 1) default).hi + 1 = b := by
  obtain ⟨e1, _⟩ := set_last x hne default default
  rw [e1, chain_append] at h
  obtain ⟨c, _, h2⟩ := h
  simp only [chain] at h2
  exact h2.2.2.2.2.2.2
theorem chain_in {frm : Int} {l : List (List Int)} : ∀ {x : List Seg} {a b : Int}, chain frm l a x b → ∀ s ∈ x, a ≤ s.lo ∧ s.lo ≤ s.hi ∧ s.hi < b
  | [], a, b, h, s, hs => by simp at hs
  | y :: x, a, b, h, s, hs => by
    simp only [chain] at h
    obtain ⟨h1, h2, _, _, _, _, h7⟩ := h
    have := chain_le _ _ _ _ _ h7
    rcases List.mem_cons.1 hs with rfl | hs
    · omega
    · have := chain_in h7 s hs; omega
/-- the document's segments of the first IDs, heads not yet told -/
def refL (m o : List (List Int)) (k : Nat) : List Seg := if k ≤ m.length then stripL (lrun 0 m k).out else stripL (linesI 0 m) ++ stripL (lrun split o (k - m.length)).out
/-- one row more, heads aside -/
theorem lstep_strip (frm : Int) (l : List (List Int)) (k : Nat) (P : List Seg) (hP : k = 0 → P = [] ∨ (P.getD (P.length - 1) default).hi ≠ frm - 1) :
    let out := P ++ stripL (lrun frm l k).out
    let id := frm + (k : Int)
    let p := l.getD k []
    ((out ≠ [] ∧ (out.getD (out.length - 1) default).hi = id - 1 ∧ p.length = 1 ∧ p.getD 0 0 = id - 1) → P ++ stripL (lrun frm l (k + 1)).out = out.set (out.length - 1) { out.getD (out.length - 1) default with hi := id }) ∧
    (¬ (out ≠ [] ∧ (out.getD (out.length - 1) default).hi = id - 1 ∧ p.length = 1 ∧ p.getD 0 0 = id - 1) → P ++ stripL (lrun frm l (k + 1)).out = out ++ [⟨id, id, p, decide (p.length = 0), false⟩]) := by
  intro out id p
  have hch := lrun_chain frm l k
  have hne := (lrun_len frm l k).2
  have hrun : (lrun frm l (k + 1)) = lstep frm (lrun frm l k) k (l.getD k []) := rfl
  rw [hrun]
  by_cases hk : k = 0
  · subst hk
    have e0 : (lrun frm l 0).out = [] := rfl
    have eo : out = P := by show P ++ stripL (lrun frm l 0).out = P; rw [e0]; simp [stripL]
    have el : stripL (lstep frm (lrun frm l 0) 0 (l.getD 0 [])).out = [⟨id, id, p, decide (p.length = 0), false⟩] := by
      unfold lstep; simp only [Nat.lt_irrefl, false_and, if_false]; rw [e0]; rfl
    rw [el, eo]
    refine ⟨fun ⟨h1, h2, _⟩ => ?_, fun _ => rfl⟩
    rcases hP rfl with h | h
    · exact absurd h h1
    · exact absurd (by rw [h2]; show frm + ((0 : Nat) : Int) - 1 = frm - 1; omega) h
  · have hno := hne hk
    have hlast := chain_last hch hno
    obtain ⟨e1, e2⟩ := set_last (lrun frm l k).out hno default default
    have hpos : 0 < (lrun frm l k).out.length := List.length_pos_iff.2 hno
    have hout : out ≠ [] := fun e => by
      have := congrArg List.length e
      simp only [out, List.length_append, stripL_length, List.length_nil] at this; omega
    have hlen : out.length - 1 = P.length + ((lrun frm l k).out.length - 1) := by
      simp only [out, List.length_append, stripL_length]; omega
    have hat : out.getD (out.length - 1) default = strip ((lrun frm l k).out.getD ((lrun frm l k).out.length - 1) default) := by
      rw [hlen, ← stripL_at]
      show (P ++ stripL (lrun frm l k).out).getD _ default = _
      simp only [List.getD_eq_getElem?_getD]
      rw [List.getElem?_append_right (by omega)]; congr 2; omega
    have hhi : (out.getD (out.length - 1) default).hi = id - 1 := by
      rw [hat]
      show ((lrun frm l k).out.getD ((lrun frm l k).out.length - 1) default).hi = frm + (k : Int) - 1
      omega
    unfold lstep
    simp only
    refine ⟨fun ⟨_, _, h3, h4⟩ => ?_, fun h => ?_⟩
    · rw [if_pos ⟨by omega, h3, h4⟩, hat, hlen]
      show _ = (P ++ stripL (lrun frm l k).out).set _ _
      rw [List.set_append_right _ _ (by omega), show P.length + ((lrun frm l k).out.length - 1) - P.length = (lrun frm l k).out.length - 1 by omega]
      congr 1
      rw [← stripL_set]; rfl
    · rw [if_neg (fun h2 => h ⟨hout, hhi, h2.2.1, h2.2.2⟩), stripL_append, ← List.append_assoc]
      rfl
theorem refL_step {m o : List (List Int)} (hm : m.length + o.length ≤ 1000) {k : Nat} (hk : k < m.length + o.length) {out : List Seg} (ho : out = refL m o k) {id : Int} (hid : id = (allI m.length o.length).getD k 0) {p : List Int} (hp : p = parI m o id) :
    ((out ≠ [] ∧ (out.getD (out.length - 1) default).hi = id - 1 ∧ p.length = 1 ∧ p.getD 0 0 = id - 1) → refL m o (k + 1) = out.set (out.length - 1) { out.getD (out.length - 1) default with hi := id }) ∧
    (¬ (out ≠ [] ∧ (out.getD (out.length - 1) default).hi = id - 1 ∧ p.length = 1 ∧ p.getD 0 0 = id - 1) → refL m o (k + 1) = out ++ [⟨id, id, p, decide (p.length = 0), false⟩]) := by
  have hs : split = 1099511627776 := rfl
  have eid := allI_at m.length o.length k hk
  rw [← hid] at eid
  subst ho
  by_cases hkm : k < m.length
  · rw [if_pos hkm] at eid
    have e1 : refL m o k = [] ++ stripL (lrun 0 m k).out := by rw [refL, if_pos (by omega)]; rfl
    have e2 : refL m o (k + 1) = [] ++ stripL (lrun 0 m (k + 1)).out := by rw [refL, if_pos (by omega)]; rfl
    have e3 : p = m.getD k [] := by rw [hp, eid, parI_m _ _ _ (by omega) (by omega)]; congr 1
    have := lstep_strip 0 m k [] (fun _ => .inl rfl)
    rw [Int.zero_add] at this
    rw [e1, e2, e3, eid]
    exact this
  · rw [if_neg hkm] at eid
    have e1 : refL m o k = stripL (linesI 0 m) ++ stripL (lrun split o (k - m.length)).out := by
      rw [refL]
      split
      · have : k = m.length := by omega
        rw [this, Nat.sub_self]; simp [linesI, lrun, stripL]
      · rfl
    have e2 : refL m o (k + 1) = stripL (linesI 0 m) ++ stripL (lrun split o (k - m.length + 1)).out := by
      rw [refL, if_neg (by omega), show k + 1 - m.length = k - m.length + 1 by omega]
    have e3 : p = o.getD (k - m.length) [] := by rw [hp, eid, parI_o _ _ _ (by omega) (by omega) (by omega)]; congr 1; omega
    have := lstep_strip split o (k - m.length) (stripL (linesI 0 m)) (fun h0 => by
      by_cases hm0 : linesI 0 m = []
      · left; rw [hm0]; rfl
      · right
        have hc := chain_last (lrun_chain 0 m m.length) hm0
        rw [stripL_length, stripL_at]
        show ((linesI 0 m).getD ((linesI 0 m).length - 1) default).hi ≠ split - 1
        have hc' : ((linesI 0 m).getD ((linesI 0 m).length - 1) default).hi + 1 = 0 + (m.length : Int) := hc
        omega)
    rw [e1, e2, e3, eid]
    exact this
theorem refL_end {m o : List (List Int)} (hr : rightI m o = true) : refL m o (m.length + o.length) = stripL (buildI m o) := by
  rw [buildI, if_pos hr, stripL_append, refL]
  split
  · have h : o.length = 0 := by omega
    have : o = [] := List.length_eq_zero_iff.1 h
    subst this; simp [linesI, lrun, stripL]
  · rw [show m.length + o.length - m.length = o.length by omega]; rfl
/-- a segment's head is what its ancestors tell -/
theorem head_told {m o : List (List Int)} (hm : m.length + o.length ≤ 1000) (hr : rightI m o = true) {s : Seg} (hs : s ∈ buildI m o) {first : Int} (hf : first = if split ≤ s.lo then split else 0) {l : List Int} (hu : UpSet m o [s.hi] l) :
    s.head = decide (((l.filter (fun x => decide (first ≤ x))).length : Int) = s.hi - first + 1) := by
  have hsp : split = 1099511627776 := rfl
  rw [buildI, if_pos hr, List.mem_append] at hs
  have key : ∀ (frm : Int) (L : List (List Int)), ((frm = 0 ∧ L = m) ∨ (frm = split ∧ L = o)) → s ∈ linesI frm L → first = frm → s.head = decide (((l.filter (fun x => decide (first ≤ x))).length : Int) = s.hi - first + 1) := by
    intro frm L hg hs hff
    obtain ⟨j, h1, h2, h3⟩ := lrun_head frm L L.length s hs
    rw [h2] at hu
    have := count_head hm hr frm L hg h1 hu
    rw [h3, hff, h2, Bool.eq_iff_iff, decide_eq_true_iff, decide_eq_true_iff, ← this]
    omega
  rcases hs with hs | hs
  · have := chain_in (lrun_chain 0 m m.length) s hs
    exact key 0 m (.inl ⟨rfl, rfl⟩) hs (by rw [hf, if_neg (by omega)])
  · have := chain_in (lrun_chain split o o.length) s hs
    exact key split o (.inr ⟨rfl, rfl⟩) hs (by rw [hf, if_pos (by omega)])
end Gv.Try
/- Contract: the document's segments are the program's. -/
set_option linter.unusedVariables false
set_option linter.unusedSimpArgs false
set_option maxRecDepth 20000
set_option maxHeartbeats 8000000
namespace Gv.Try
open Go Gv Go.Proofs

def mixL (T : List Seg) (i : Nat) : List Seg := T.take i ++ (stripL T).drop i
theorem mix_length (T : List Seg) (i : Nat) (h : i ≤ T.length) : (mixL T i).length = T.length := by
  rw [mixL, List.length_append, List.length_take, List.length_drop, stripL_length]; omega
theorem mix_at (T : List Seg) (i : Nat) (h : i < T.length) : (mixL T i).getD i default = strip (T.getD i default) := by
  rw [← stripL_at, mixL]
  have hl : (T.take i).length = i := by rw [List.length_take]; omega
  simp only [List.getD_eq_getElem?_getD]
  rw [List.getElem?_append_right (by omega), hl, List.getElem?_drop]; simp
theorem mix_set (T : List Seg) (i : Nat) (h : i < T.length) : (mixL T i).set i (T.getD i default) = mixL T (i + 1) := by
  have hl : (T.take i).length = i := by rw [List.length_take]; omega
  rw [mixL, mixL, List.set_append_right _ _ (by omega), hl, Nat.sub_self]
  have hd : (stripL T).drop i = (stripL T).getD i default :: (stripL T).drop (i + 1) := by
    have h' : i < (stripL T).length := by rw [stripL_length]; exact h
    rw [List.drop_eq_getElem_cons h']; simp [List.getD, h']
  rw [hd, List.set_cons_zero, take_succ' T i h, List.append_assoc]; rfl
theorem mix_zero (T : List Seg) : mixL T 0 = stripL T := by simp [mixL]
theorem mix_end (T : List Seg) : mixL T T.length = T := by
  rw [mixL, List.take_length, List.drop_eq_nil_of_le (by rw [stripL_length]; exact Nat.le_refl _), List.append_nil]
theorem filt_take (l : List Int) (f : Int → Bool) (j : Nat) (h : j < l.length) : ((l.take (j + 1)).filter f).length = ((l.take j).filter f).length + (if f (l.getD j 0) = true then 1 else 0) := by
  rw [List.take_add_one, List.filter_append, List.length_append, List.getElem?_eq_getElem h]
  have : l.getD j 0 = l[j] := by simp [List.getD, h]
  rw [this]
  simp only [Option.toList, List.filter_cons, List.filter_nil]
  split <;> rfl

theorem spec24 (m o : List (List Int)) (hm : m.length + o.length ≤ 1000) (hr : rightI m o = true) (hrow : ∀ x, (parI m o x).length ≤ 4) (hseg : ∀ s ∈ buildI m o, 0 ≤ s.lo ∧ s.lo ≤ s.hi ∧ s.hi ≤ split + 1000) :
    GPure Try.prog 18 [.agg [.slice (tabG m) .none, .slice (tabG o) .none]] (.slice (segsG (buildI m o)) .none) := by
  have hA : (allI m.length o.length).length = m.length + o.length := allI_len _ _
  refine h18.pureF mixS (by simp) ?_
  simp only [gstart, s18, List.cons_append, List.nil_append, List.length_cons, List.length_nil, Nat.reduceAdd, Nat.reduceSub, List.replicate_succ, List.replicate_zero]
  simp +contextual -implicitDefEqProofs (maxSteps := 2000000) (disch := omega) only [drawC, ↓lenV, binV, optV, ↓loadV, ↓storeV, ↓fieldAddrV, ↓indexAddrV, ↓boxV, ↓buildV, ↓buildSliceV, ↓sliceV, ↓appendV, ↓srcV, bound, cutTag, hiTag, fillG, fillE, place, GVal.cells, grp, GVal.ofConst, ↓resV, resG, List.map, List.headD, List.take, List.drop, ↓reduceIte, Nat.reduceEqDiff, Nat.reduceAdd, Nat.reduceSub, Nat.reduceLeDiff, reduceCtorEq, implies_true, ne_eq, ↓asrcV, aggV, Tag.cap, List.replicate, allSolid, GVal.solid, Nat.reduceBEq, Nat.reduceMul, Nat.reduceLT, List.length_map, List.length_range, splice, vcA, ↓vcB, vcC, fbFf, e18]
  refine (spec14 m o .none .none (by omega) (by omega)).then ?_
  simp +contextual -implicitDefEqProofs (maxSteps := 2000000) (disch := omega) only [drawC, ↓lenV, binV, optV, ↓loadV, ↓storeV, ↓fieldAddrV, ↓indexAddrV, ↓boxV, ↓buildV, ↓buildSliceV, ↓sliceV, ↓appendV, ↓srcV, bound, cutTag, hiTag, fillG, fillE, place, GVal.cells, grp, GVal.ofConst, ↓resV, resG, List.map, List.headD, List.take, List.drop, ↓reduceIte, Nat.reduceEqDiff, Nat.reduceAdd, Nat.reduceSub, Nat.reduceLeDiff, reduceCtorEq, implies_true, ne_eq, ↓asrcV, aggV, Tag.cap, List.replicate, allSolid, GVal.solid, Nat.reduceBEq, Nat.reduceMul, Nat.reduceLT, List.length_map, List.length_range, splice, vcA, ↓vcB, vcC, fbFf, e18]
  refine vcSLoop_by (ι := { p : Nat × Nat // p.1 ≤ m.length + o.length ∧ (refL m o p.1).length ≤ p.1 }) (fun p => ⟨[.any, .ref [.slice (tabG m) .none, .slice (tabG o) .none], .any, .own 0 p.1.2 0 (refL m o p.1.1).length, .slice (ints (allI m.length o.length)) .none, .int .i64 (p.1.1 : Nat)] ++ List.replicate 135 .any, [.row p.1.2 5 (segsG (refL m o p.1.1))]⟩) (fun p => m.length + o.length - p.1.1) ?_ ?_
  · refine Into.row 3 5 rfl rfl ?_
    simp +contextual -implicitDefEqProofs (maxSteps := 2000000) (disch := omega) only [drawC, ↓lenV, binV, optV, ↓loadV, ↓storeV, ↓fieldAddrV, ↓indexAddrV, ↓boxV, ↓buildV, ↓buildSliceV, ↓sliceV, ↓appendV, ↓srcV, bound, cutTag, hiTag, fillG, fillE, place, GVal.cells, grp, GVal.ofConst, ↓resV, resG, List.map, List.headD, List.take, List.drop, ↓reduceIte, Nat.reduceEqDiff, Nat.reduceAdd, Nat.reduceSub, Nat.reduceLeDiff, reduceCtorEq, implies_true, ne_eq, ↓asrcV, aggV, Tag.cap, List.replicate, allSolid, GVal.solid, Nat.reduceBEq, Nat.reduceMul, Nat.reduceLT, List.length_map, List.length_range, splice, vcA, ↓vcB, vcC, fbFf, e18]
    intro t
    have e0 : refL m o 0 = [] := by rw [refL, if_pos (by omega)]; rfl
    exact Into.first ⟨(0, t), by omega, by rw [e0]; simp⟩ ⟨[], by simp [e0, segsG]⟩ (by simp [WL, leG_self, leG_any, e0])
  · rintro ⟨⟨k, v⟩, hk, hol⟩
    change k ≤ m.length + o.length at hk
    change (refL m o k).length ≤ k at hol
    by_cases hkm : k < m.length + o.length
    · have hst := refL_step hm hkm rfl rfl rfl
      have hp4 := hrow ((allI m.length o.length).getD k 0)
      have ek := allI_at m.length o.length k hkm
      have hs : split = 1099511627776 := rfl
      have hid : 0 ≤ (allI m.length o.length).getD k 0 ∧ (allI m.length o.length).getD k 0 ≤ split + 1000 := by split at ek <;> omega
      have d0 : decide ((k : Int) < ((allI m.length o.length).length : Int)) = true := decide_eq_true (by omega)
      clear ek
      have c16 := spec16 m o .none .none ((allI m.length o.length).getD k 0) (by omega) (by omega)
      have eid : (ints (allI m.length o.length)).getD k [] = [.int .i64 ((allI m.length o.length).getD k 0)] := ints_at _ _ (by rw [hA]; exact hkm)
      generalize (allI m.length o.length).getD k 0 = id at *
      simp +contextual -implicitDefEqProofs (maxSteps := 2000000) (disch := omega) only [vcS_skip, vcS_reg, vcS_drw, vcS_seq, vcS_cond, vcS_block, vcS_exit, vcS_ret, vcS_loopI, drawC, opsS_nil, opsS_one, opsS_if, ordS_nil, ordS_one, ordS_if, hold_mk, ev_tmp, ev_const, ev_func, put_some, put_none, setS_mk, ↓lenV, binV, optV, ↓loadV, ↓storeV, ↓fieldAddrV, ↓indexAddrV, ↓boxV, ↓buildV, ↓buildSliceV, ↓sliceV, ↓appendV, ↓srcV, bound, cutTag, hiTag, fillG, fillE, place, GVal.cells, grp, GVal.ofConst, ↓resV, resG, sget_0, sget_1, sget_2, sget_3, sget_4, set_0, set_1, set_2, set_3, set_4, setO_0, setO_1, setO_2, setL_0, setL_1, setL_2, List.map, List.headD, List.take, List.drop, ↓reduceIte, Nat.reduceEqDiff, Nat.reduceAdd, Nat.reduceSub, Nat.reduceLeDiff, reduceCtorEq, implies_true, ne_eq, norm_i64, ints_length, leG_bool, leG_int, ↓asrcV, aggV, Tag.cap, List.replicate, okCells_eq, allSolid_eq, allSolid, GVal.solid, all_nil, all_cons, all_append, all_ints, all_tabG, stamp_nil, stamp_tok, stamp_row, stamp_map, tick_nil, tick_tok, tick_row, tick_map, Nat.reduceBEq, tabG_length, tabG_at, Nat.reduceMul, Nat.reduceLT, List.length_map, List.length_range, leA_int, leA_bool, leA_slice, leA_agg, leA_tuple, WL_nil, WL_cons, leG_self, splice, ↓vcB, vcC, fbFf, e18, d0, eid]
      refine ⟨by omega, by omega, c16.then ?_⟩
      generalize hrf : refL m o k = out at *
      generalize hrf1 : refL m o (k + 1) = out1 at *
      generalize parI m o id = p at *
      have hpos : 0 < out.length → out ≠ [] := fun h e => by subst e; simp at h
      have hsz : out1.length ≤ k + 1 := by
        by_cases hc : out ≠ [] ∧ (out.getD (out.length - 1) default).hi = id - 1 ∧ p.length = 1 ∧ p.getD 0 0 = id - 1
        · rw [hst.1 hc, List.length_set]; omega
        · rw [hst.2 hc, List.length_append]; simp; omega
      have eid' : (ints (allI m.length o.length)).getD k [] = [.int .i64 id] := eid
      simp +contextual -implicitDefEqProofs (maxSteps := 2000000) (disch := omega) only [drawC, ↓lenV, binV, optV, ↓loadV, ↓storeV, ↓fieldAddrV, ↓indexAddrV, ↓boxV, ↓buildV, ↓buildSliceV, ↓sliceV, ↓appendV, ↓srcV, bound, cutTag, hiTag, fillG, fillE, place, GVal.cells, grp, GVal.ofConst, ↓resV, resG, List.map, List.headD, List.take, List.drop, ↓reduceIte, Nat.reduceEqDiff, Nat.reduceAdd, Nat.reduceSub, Nat.reduceLeDiff, reduceCtorEq, implies_true, ne_eq, ↓asrcV, aggV, Tag.cap, List.replicate, allSolid, GVal.solid, Nat.reduceBEq, Nat.reduceMul, Nat.reduceLT, List.length_map, List.length_range, splice, vcA, ↓vcB, vcC, fbFf, e18, segsG_length, segsG_at, segG, toNat_pred, Int.toNat_zero, all_segsG, cast_beq_zero, eid', d0]
      refine ⟨fun h1 => ⟨by omega, by omega, by omega, by omega, by omega, by omega, fun h2 => ⟨fun h3 => ⟨by omega, by omega, by omega, by omega, fun h4 => ?_, fun h4 => ?_⟩, fun h3 => ?_⟩, fun h2 => ?_⟩, fun h1 => ?_⟩
      · have e1 := hst.1 ⟨hpos (by omega), h2, by omega, h4⟩
        repeat (refine ⟨by omega, ?_⟩)
        refine Into.at ⟨(k + 1, v), by show k + 1 ≤ _; omega, by show (refL m o (k + 1)).length ≤ k + 1; rw [hrf1]; exact hsz⟩ (by show _ < _; simp; omega) ⟨[], ?_⟩ (by simp [WL, leG_self, leG_any, leG_int, hrf1, e1])
        simp only [hrf1, e1, List.append_nil, ← segsG_set]; rfl
      all_goals
        have e1 := hst.2 (by
          rintro ⟨q1, q2, q3, q4⟩
          first
            | exact absurd q4 h4
            | (have q3' : (p.length : Int) = 1 := by omega
               exact absurd q3' h3)
            | exact absurd q2 h2
            | (have := List.length_pos_iff.2 q1; omega))
        repeat (refine ⟨by omega, ?_⟩)
        intro a
        refine ⟨⟨[.tok a 1], rfl⟩, ?_⟩
        repeat (refine ⟨by omega, ?_⟩)
        intro b
        rw [List.take_of_length_le (by rw [segsG_length]; omega)]
        refine Into.rowLast 0 (segsG out) _ (segG ⟨id, id, p, decide (p.length = 0), false⟩) rfl (fun x hx => by have := all_segsG out; simp only [eq_iff_iff, iff_true] at this; exact this x hx) rfl (by simp [WL, segG, leG_self, leG_none, leG_bool] <;> (intro e; subst e; simp at h3)) ?_
        refine Into.at ⟨(k + 1, b), by show k + 1 ≤ _; omega, by show (refL m o (k + 1)).length ≤ k + 1; rw [hrf1]; exact hsz⟩ (by show _ < _; simp; omega) ⟨[.tok a 1], by simp [hrf1, e1, segsG_append, segsG_one]⟩ (by simp [WL, leG_self, leG_any, leG_int, hrf1, e1])
    · have hk2 : k = m.length + o.length := by omega
      have d0 : decide ((k : Int) < ((allI m.length o.length).length : Int)) = false := decide_eq_false (by omega)
      have hre := refL_end (m := m) (o := o) hr
      subst hk2
      rw [hre, stripL_length] at hol
      generalize hT : buildI m o = T at *
      have told : ∀ i, i < T.length → ∀ (first : Int), first = (if split ≤ (T.getD i default).lo then split else 0) → ∀ l, UpSet m o [(T.getD i default).hi] l → (T.getD i default).head = decide (((l.filter (fun x => decide (first ≤ x))).length : Int) = (T.getD i default).hi - first + 1) := fun i hi first hf l hu =>
        head_told hm hr (by rw [hT, List.getD_eq_getElem?_getD, List.getElem?_eq_getElem hi]; exact List.getElem_mem hi) hf hu
      have segb : ∀ i, i < T.length → 0 ≤ (T.getD i default).lo ∧ (T.getD i default).lo ≤ (T.getD i default).hi ∧ (T.getD i default).hi ≤ split + 1000 := fun i hi => hseg _ (by rw [List.getD_eq_getElem?_getD, List.getElem?_eq_getElem hi]; exact List.getElem_mem hi)
      simp +contextual -implicitDefEqProofs (maxSteps := 2000000) (disch := omega) only [drawC, ↓lenV, binV, optV, ↓loadV, ↓storeV, ↓fieldAddrV, ↓indexAddrV, ↓boxV, ↓buildV, ↓buildSliceV, ↓sliceV, ↓appendV, ↓srcV, bound, cutTag, hiTag, fillG, fillE, place, GVal.cells, grp, GVal.ofConst, ↓resV, resG, List.map, List.headD, List.take, List.drop, ↓reduceIte, Nat.reduceEqDiff, Nat.reduceAdd, Nat.reduceSub, Nat.reduceLeDiff, reduceCtorEq, implies_true, ne_eq, ↓asrcV, aggV, Tag.cap, List.replicate, allSolid, GVal.solid, Nat.reduceBEq, Nat.reduceMul, Nat.reduceLT, List.length_map, List.length_range, splice, vcA, ↓vcB, vcC, fbFf, e18, segsG_length, d0, hre, stripL_length]
      refine ⟨fun h => absurd h (by rw [hA]; omega), fun _ => ?_⟩
      refine vcSLoop_by (ι := { i : Nat // i ≤ T.length }) (fun i => ⟨[.any, .ref [.slice (tabG m) .none, .slice (tabG o) .none], .any, .own 0 v 0 T.length, .any, .any, .any, .any, .any, .int .i64 (i.1 : Nat)] ++ List.replicate 131 .any, [.row v 5 (segsG (mixL T i.1))]⟩) (fun i => T.length - i.1) ?_ ?_
      · exact Into.first ⟨0, by omega⟩ ⟨[], by simp [mix_zero]⟩ (by simp [WL, leG_self, leG_any])
      · rintro ⟨i, hi⟩
        by_cases hiT : i < T.length
        · have d1 : decide ((i : Int) < (T.length : Int)) = true := decide_eq_true (by omega)
          have hml := mix_length T i hi
          have eM : (segsG (mixL T i)).getD i [] = segG (strip (T.getD i default)) := by rw [segsG_at _ _ (by omega), mix_at T i hiT]
          have sb := segb i hiT
          have tl := told i hiT
          have hms := mix_set T i hiT
          generalize T.getD i default = s at *
          have hsp : split = 1099511627776 := rfl
          by_cases hlo : 1099511627776 ≤ s.lo
          · have d2 : decide (1099511627776 ≤ s.lo) = true := decide_eq_true hlo
            have tl := tl 1099511627776 (by rw [if_pos (by omega), hsp])
            simp +contextual -implicitDefEqProofs (maxSteps := 2000000) (disch := omega) only [drawC, ↓lenV, binV, optV, ↓loadV, ↓storeV, ↓fieldAddrV, ↓indexAddrV, ↓boxV, ↓buildV, ↓buildSliceV, ↓sliceV, ↓appendV, ↓srcV, bound, cutTag, hiTag, fillG, fillE, place, GVal.cells, grp, GVal.ofConst, ↓resV, resG, List.map, List.headD, List.take, List.drop, ↓reduceIte, Nat.reduceEqDiff, Nat.reduceAdd, Nat.reduceSub, Nat.reduceLeDiff, reduceCtorEq, implies_true, ne_eq, ↓asrcV, aggV, Tag.cap, List.replicate, allSolid, GVal.solid, Nat.reduceBEq, Nat.reduceMul, Nat.reduceLT, List.length_map, List.length_range, splice, vcA, ↓vcB, vcC, fbFf, e18, segsG_length, d1, d2, hml, eM, segG, strip, ints_one]
            repeat (refine ⟨by omega, ?_⟩)
            refine (rel48 m o .none .none .full [s.hi] (by omega) (by omega) (by simp) hrow).then ?_
            rintro g ⟨l, rfl, hl⟩
            have hll := hl.out_len
            have hd := tl l hl
            have hcl : (l.filter (fun x => decide ((1099511627776 : Int) ≤ x))).length ≤ l.length := List.length_filter_le _ _
            simp +contextual -implicitDefEqProofs (maxSteps := 2000000) (disch := omega) only [drawC, ↓lenV, binV, optV, ↓loadV, ↓storeV, ↓fieldAddrV, ↓indexAddrV, ↓boxV, ↓buildV, ↓buildSliceV, ↓sliceV, ↓appendV, ↓srcV, bound, cutTag, hiTag, fillG, fillE, place, GVal.cells, grp, GVal.ofConst, ↓resV, resG, List.map, List.headD, List.take, List.drop, ↓reduceIte, Nat.reduceEqDiff, Nat.reduceAdd, Nat.reduceSub, Nat.reduceLeDiff, reduceCtorEq, implies_true, ne_eq, ↓asrcV, aggV, Tag.cap, List.replicate, allSolid, GVal.solid, Nat.reduceBEq, Nat.reduceMul, Nat.reduceLT, List.length_map, List.length_range, splice, vcA, ↓vcB, vcC, fbFf, e18]
            refine vcSLoop_by (ι := { j : Nat // j ≤ l.length }) (fun j => ⟨[.any, .ref [.slice (tabG m) .none, .slice (tabG o) .none], .any, .own 0 v 0 T.length, .any, .any, .any, .any, .any, .int .i64 (i : Nat), .int .i64 1099511627776, .slice (ints l) .none, .int .i64 (((l.take j.1).filter (fun x => decide ((1099511627776 : Int) ≤ x))).length : Nat), .int .i64 (j.1 : Nat)] ++ List.replicate 127 .any, [.row v 5 (segsG (mixL T i))]⟩) (fun j => l.length - j.1) ?_ ?_
            · exact Into.first ⟨0, by omega⟩ ⟨[], by simp⟩ (by simp [WL, leG_self, leG_any])
            · rintro ⟨j, hj⟩
              have hcj : ((l.take j).filter (fun x => decide ((1099511627776 : Int) ≤ x))).length ≤ j := Nat.le_trans (List.length_filter_le _ _) (by rw [List.length_take]; omega)
              by_cases hjl : j < l.length
              · have d3 : decide ((j : Int) < (l.length : Int)) = true := decide_eq_true (by omega)
                have hft := filt_take l (fun x => decide ((1099511627776 : Int) ≤ x)) j hjl
                simp only [decide_eq_true_eq] at hft
                simp +contextual -implicitDefEqProofs (maxSteps := 2000000) (disch := omega) only [drawC, ↓lenV, binV, optV, ↓loadV, ↓storeV, ↓fieldAddrV, ↓indexAddrV, ↓boxV, ↓buildV, ↓buildSliceV, ↓sliceV, ↓appendV, ↓srcV, bound, cutTag, hiTag, fillG, fillE, place, GVal.cells, grp, GVal.ofConst, ↓resV, resG, List.map, List.headD, List.take, List.drop, ↓reduceIte, Nat.reduceEqDiff, Nat.reduceAdd, Nat.reduceSub, Nat.reduceLeDiff, reduceCtorEq, implies_true, ne_eq, ↓asrcV, aggV, Tag.cap, List.replicate, allSolid, GVal.solid, Nat.reduceBEq, Nat.reduceMul, Nat.reduceLT, List.length_map, List.length_range, splice, vcA, ↓vcB, vcC, fbFf, e18, d3]
                refine ⟨by omega, by omega, fun h4 => ?_, fun h4 => ?_⟩
                · rw [if_pos h4] at hft
                  exact Into.at ⟨j + 1, by omega⟩ (by show l.length - (j + 1) < l.length - j; omega) ⟨[], by simp⟩ (by simp [WL, leG_self, leG_any, leG_int, hft])
                · rw [if_neg (by omega)] at hft
                  exact Into.at ⟨j + 1, by omega⟩ (by show l.length - (j + 1) < l.length - j; omega) ⟨[], by simp⟩ (by simp [WL, leG_self, leG_any, leG_int, hft])
              · have d3 : decide ((j : Int) < (l.length : Int)) = false := decide_eq_false (by omega)
                have etk : l.take j = l := List.take_of_length_le (by omega)
                have hbq : ((((l.filter (fun x => decide ((1099511627776 : Int) ≤ x))).length : Nat) : Int) == s.hi - 1099511627776 + 1) = s.head := by
                  rw [hd, Bool.eq_iff_iff, beq_iff_eq, decide_eq_true_iff]
                simp +contextual -implicitDefEqProofs (maxSteps := 2000000) (disch := omega) only [drawC, ↓lenV, binV, optV, ↓loadV, ↓storeV, ↓fieldAddrV, ↓indexAddrV, ↓boxV, ↓buildV, ↓buildSliceV, ↓sliceV, ↓appendV, ↓srcV, bound, cutTag, hiTag, fillG, fillE, place, GVal.cells, grp, GVal.ofConst, ↓resV, resG, List.map, List.headD, List.take, List.drop, ↓reduceIte, Nat.reduceEqDiff, Nat.reduceAdd, Nat.reduceSub, Nat.reduceLeDiff, reduceCtorEq, implies_true, ne_eq, ↓asrcV, aggV, Tag.cap, List.replicate, allSolid, GVal.solid, Nat.reduceBEq, Nat.reduceMul, Nat.reduceLT, List.length_map, List.length_range, splice, vcA, ↓vcB, vcC, fbFf, e18, segsG_length, d3, hml, eM, segG, strip, etk, hbq]
                repeat (refine ⟨by omega, ?_⟩)
                refine Into.at ⟨i + 1, by omega⟩ (by show T.length - (i + 1) < T.length - i; omega) ⟨[], ?_⟩ (by simp [WL, leG_self, leG_any, leG_int])
                simp only [← hms, List.append_nil, ← segsG_set]; rfl
          · have d2 : decide (1099511627776 ≤ s.lo) = false := decide_eq_false hlo
            have tl := tl 0 (by rw [if_neg (by omega)])
            simp +contextual -implicitDefEqProofs (maxSteps := 2000000) (disch := omega) only [drawC, ↓lenV, binV, optV, ↓loadV, ↓storeV, ↓fieldAddrV, ↓indexAddrV, ↓boxV, ↓buildV, ↓buildSliceV, ↓sliceV, ↓appendV, ↓srcV, bound, cutTag, hiTag, fillG, fillE, place, GVal.cells, grp, GVal.ofConst, ↓resV, resG, List.map, List.headD, List.take, List.drop, ↓reduceIte, Nat.reduceEqDiff, Nat.reduceAdd, Nat.reduceSub, Nat.reduceLeDiff, reduceCtorEq, implies_true, ne_eq, ↓asrcV, aggV, Tag.cap, List.replicate, allSolid, GVal.solid, Nat.reduceBEq, Nat.reduceMul, Nat.reduceLT, List.length_map, List.length_range, splice, vcA, ↓vcB, vcC, fbFf, e18, segsG_length, d1, d2, hml, eM, segG, strip, ints_one]
            repeat (refine ⟨by omega, ?_⟩)
            refine (rel48 m o .none .none .full [s.hi] (by omega) (by omega) (by simp) hrow).then ?_
            rintro g ⟨l, rfl, hl⟩
            have hll := hl.out_len
            have hd := tl l hl
            have hcl : (l.filter (fun x => decide ((0 : Int) ≤ x))).length ≤ l.length := List.length_filter_le _ _
            simp +contextual -implicitDefEqProofs (maxSteps := 2000000) (disch := omega) only [drawC, ↓lenV, binV, optV, ↓loadV, ↓storeV, ↓fieldAddrV, ↓indexAddrV, ↓boxV, ↓buildV, ↓buildSliceV, ↓sliceV, ↓appendV, ↓srcV, bound, cutTag, hiTag, fillG, fillE, place, GVal.cells, grp, GVal.ofConst, ↓resV, resG, List.map, List.headD, List.take, List.drop, ↓reduceIte, Nat.reduceEqDiff, Nat.reduceAdd, Nat.reduceSub, Nat.reduceLeDiff, reduceCtorEq, implies_true, ne_eq, ↓asrcV, aggV, Tag.cap, List.replicate, allSolid, GVal.solid, Nat.reduceBEq, Nat.reduceMul, Nat.reduceLT, List.length_map, List.length_range, splice, vcA, ↓vcB, vcC, fbFf, e18]
            refine vcSLoop_by (ι := { j : Nat // j ≤ l.length }) (fun j => ⟨[.any, .ref [.slice (tabG m) .none, .slice (tabG o) .none], .any, .own 0 v 0 T.length, .any, .any, .any, .any, .any, .int .i64 (i : Nat), .int .i64 0, .slice (ints l) .none, .int .i64 (((l.take j.1).filter (fun x => decide ((0 : Int) ≤ x))).length : Nat), .int .i64 (j.1 : Nat)] ++ List.replicate 127 .any, [.row v 5 (segsG (mixL T i))]⟩) (fun j => l.length - j.1) ?_ ?_
            · exact Into.first ⟨0, by omega⟩ ⟨[], by simp⟩ (by simp [WL, leG_self, leG_any])
            · rintro ⟨j, hj⟩
              have hcj : ((l.take j).filter (fun x => decide ((0 : Int) ≤ x))).length ≤ j := Nat.le_trans (List.length_filter_le _ _) (by rw [List.length_take]; omega)
              by_cases hjl : j < l.length
              · have d3 : decide ((j : Int) < (l.length : Int)) = true := decide_eq_true (by omega)
                have hft := filt_take l (fun x => decide ((0 : Int) ≤ x)) j hjl
                simp only [decide_eq_true_eq] at hft
                simp +contextual -implicitDefEqProofs (maxSteps := 2000000) (disch := omega) only [drawC, ↓lenV, binV, optV, ↓loadV, ↓storeV, ↓fieldAddrV, ↓indexAddrV, ↓boxV, ↓buildV, ↓buildSliceV, ↓sliceV, ↓appendV, ↓srcV, bound, cutTag, hiTag, fillG, fillE, place, GVal.cells, grp, GVal.ofConst, ↓resV, resG, List.map, List.headD, List.take, List.drop, ↓reduceIte, Nat.reduceEqDiff, Nat.reduceAdd, Nat.reduceSub, Nat.reduceLeDiff, reduceCtorEq, implies_true, ne_eq, ↓asrcV, aggV, Tag.cap, List.replicate, allSolid, GVal.solid, Nat.reduceBEq, Nat.reduceMul, Nat.reduceLT, List.length_map, List.length_range, splice, vcA, ↓vcB, vcC, fbFf, e18, d3]
                refine ⟨by omega, by omega, fun h4 => ?_, fun h4 => ?_⟩
                · rw [if_pos h4] at hft
                  exact Into.at ⟨j + 1, by omega⟩ (by show l.length - (j + 1) < l.length - j; omega) ⟨[], by simp⟩ (by simp [WL, leG_self, leG_any, leG_int, hft])
                · rw [if_neg (by omega)] at hft
                  exact Into.at ⟨j + 1, by omega⟩ (by show l.length - (j + 1) < l.length - j; omega) ⟨[], by simp⟩ (by simp [WL, leG_self, leG_any, leG_int, hft])
              · have d3 : decide ((j : Int) < (l.length : Int)) = false := decide_eq_false (by omega)
                have etk : l.take j = l := List.take_of_length_le (by omega)
                have hbq : ((((l.filter (fun x => decide ((0 : Int) ≤ x))).length : Nat) : Int) == s.hi - 0 + 1) = s.head := by
                  rw [hd, Bool.eq_iff_iff, beq_iff_eq, decide_eq_true_iff]
                simp +contextual -implicitDefEqProofs (maxSteps := 2000000) (disch := omega) only [drawC, ↓lenV, binV, optV, ↓loadV, ↓storeV, ↓fieldAddrV, ↓indexAddrV, ↓boxV, ↓buildV, ↓buildSliceV, ↓sliceV, ↓appendV, ↓srcV, bound, cutTag, hiTag, fillG, fillE, place, GVal.cells, grp, GVal.ofConst, ↓resV, resG, List.map, List.headD, List.take, List.drop, ↓reduceIte, Nat.reduceEqDiff, Nat.reduceAdd, Nat.reduceSub, Nat.reduceLeDiff, reduceCtorEq, implies_true, ne_eq, ↓asrcV, aggV, Tag.cap, List.replicate, allSolid, GVal.solid, Nat.reduceBEq, Nat.reduceMul, Nat.reduceLT, List.length_map, List.length_range, splice, vcA, ↓vcB, vcC, fbFf, e18, segsG_length, d3, hml, eM, segG, strip, etk, hbq]
                repeat (refine ⟨by omega, ?_⟩)
                refine Into.at ⟨i + 1, by omega⟩ (by show T.length - (i + 1) < T.length - i; omega) ⟨[], ?_⟩ (by simp [WL, leG_self, leG_any, leG_int])
                simp only [← hms, List.append_nil, ← segsG_set]; rfl
        · have d1 : decide ((i : Int) < (T.length : Int)) = false := decide_eq_false (by omega)
          have e1 : i = T.length := by omega
          subst e1
          simp +contextual -implicitDefEqProofs (maxSteps := 2000000) (disch := omega) only [drawC, ↓lenV, binV, optV, ↓loadV, ↓storeV, ↓fieldAddrV, ↓indexAddrV, ↓boxV, ↓buildV, ↓buildSliceV, ↓sliceV, ↓appendV, ↓srcV, bound, cutTag, hiTag, fillG, fillE, place, GVal.cells, grp, GVal.ofConst, ↓resV, resG, List.map, List.headD, List.take, List.drop, ↓reduceIte, Nat.reduceEqDiff, Nat.reduceAdd, Nat.reduceSub, Nat.reduceLeDiff, reduceCtorEq, implies_true, ne_eq, ↓asrcV, aggV, Tag.cap, List.replicate, allSolid, GVal.solid, Nat.reduceBEq, Nat.reduceMul, Nat.reduceLT, List.length_map, List.length_range, splice, vcA, ↓vcB, vcC, fbFf, e18, segsG_length, d1, mix_end]
          exact ⟨4, .slice (segsG T) .none, frz_own rfl (segsG_length _).symm (frz_segs _ 1 _), by rw [leA_slice]⟩

end Gv.Try
/- A call that is handed one object of the caller's: wherever it lies among the caller's objects, the others stay as they are. -/
set_option linter.unusedVariables false
namespace Gv
open Go
/-- the same value, its pointers' places told anew -/
def GVal.place (i : Nat) : GVal → GVal
  | .ptr _ st a b => .ptr i st a b
  | .own _ st a b => .own i st a b
  | .map _ st => .map i st
  | g => g
theorem VR.place {E : Env} {v : Value} {g : GVal} (i : Nat) (h : VR E v (g.place i)) : VR E v g := by
  cases g with
  | ptr o st a b => cases h; exact .ptr _ _ _ _ _ _ _ (by assumption) (by assumption) (by assumption)
  | own o st a b => cases h; exact .own _ _ _ _ _ _ _ (by assumption) (by assumption) (by assumption)
  | map o st => cases h; exact .map _ _ _ _ (by assumption) (by assumption)
  | _ => exact h
theorem HSim.only {E : Env} {O : List GObj} {w : World} (h : HSim E O w) {i : Nat} {x : GObj} (hx : O[i]? = some x) (hc : x.isClock = false) : HSim E [x] w := by
  refine ⟨?_, h.sealed, h.one, fun k y hy => ?_, fun a b oa ob bb hab ha hb => ?_, h.glob⟩
  · obtain ⟨n, _, h2⟩ := h.fin
    refine ⟨n, fun c hc' => ?_, h2⟩
    cases x <;> simp [clockOf, GObj.isClock] at hc' hc
  · match k with
    | 0 => simp at hy; subst hy; exact h.real i x hx
    | k + 1 => simp at hy
  · match a, b with
    | 0, 0 => exact absurd rfl hab
    | a + 1, _ => simp at ha
    | 0, b + 1 => simp at hb
theorem GCalls.ownFrame {P : Program} {f : FuncId} {args : List GVal} {x : GObj} {R : GVal → GObj → Prop} (h : GCalls P f args [x] (fun g O' => ∃ x', O' = [x'] ∧ R g x')) {O : List GObj} (i : Nat) (hO : O[i]? = some x) (hc : clockOf O = none) (hcl : ∀ g x', R g x' → x'.isClock = false) (hx : x.isClock = false) :
    GCalls P f (args.map (GVal.place i)) O (fun g O' => ∃ x', O' = O.set i x' ∧ R g x') := by
  have hlt : i < O.length := (List.getElem?_eq_some_iff.1 hO).1
  refine ⟨h.1, fun E w vs hs ha => ?_⟩
  have ha' : ArgsR E vs args := ⟨by simpa using ha.1, fun k g hg => VR.place i (ha.2 k _ (by simp [hg]))⟩
  refine (h.2 E w vs (hs.only hO hx) ha').mono ?_
  rintro e w' ⟨v, E', O', g, rfl, h1, h2, h3, x', rfl, hR⟩
  have inX : ∀ b, InO E [x] b ↔ x.blk E = some b := fun b => ⟨fun ⟨k, y, hy, hb⟩ => by
    match k with
    | 0 => simp at hy; subst hy; exact hb
    | k + 1 => simp at hy, fun hb => ⟨0, x, rfl, hb⟩⟩
  have inX' : ∀ b, x'.blk E' = some b → x.blk E = some b ∨ w.heap.size ≤ b := fun b hb => by
    rcases h2.objs b ⟨0, x', rfl, hb⟩ with q | q
    · exact .inl ((inX b).1 q)
    · exact .inr q
  have get : ∀ (k : Nat) y, (O.set i x')[k]? = some y → (k = i ∧ y = x') ∨ (k ≠ i ∧ O[k]? = some y) := by
    intro k y hy
    rw [List.getElem?_set] at hy
    by_cases e : i = k
    · rw [if_pos e, if_pos hlt] at hy
      simp only [Option.some.injEq] at hy; exact .inl ⟨e.symm, hy.symm⟩
    · rw [if_neg e] at hy; exact .inr ⟨fun q => e q.symm, hy⟩
  have far : ∀ (k : Nat) y b, k ≠ i → O[k]? = some y → y.blk E = some b → ¬ InO E [x] b := fun k y b hk hy hb hin => hs.sep k i y x b hk hy hO hb ((inX b).1 hin)
  have hold : ∀ (k : Nat) y, k ≠ i → O[k]? = some y → Realized E' w' y ∧ y.blk E' = y.blk E := fun k y hk hy =>
    ⟨(hs.real k y hy).keep h2.ext (fun b hb => h2.heap b ((hs.real k y hy).blk_lt hb) (far k y b hk hy hb)) (fun b o v hb hv => by
      rcases h2.snap b o v hv with q | q | q
      · exact q
      · exact absurd ((hs.real k y hy).blk_lt hb) (by omega)
      · exact absurd q (far k y b hk hy hb)), GObj.blk_mono h2.ext (hs.real k y hy)⟩
  have hclk : clockOf (O.set i x') = none := by
    have := clockOf_set (obj' := x') hO hx (hcl _ _ hR)
    rw [this, hc]
  have hx'r : Realized E' w' x' := h1.real 0 x' rfl
  refine ⟨v, E', O.set i x', g, rfl, ⟨?_, h1.sealed, h1.one, fun k y hy => ?_, fun a b oa ob bb hab ha1 hb1 q1 q2 => ?_, h1.glob⟩, ⟨h2.ext, h2.os, h2.out, h2.size, fun b hb hn => h2.heap b hb fun hin => hn ⟨i, x, hO, (inX b).1 hin⟩, fun b o v hv => ?_, fun b hb => ?_, trivial⟩, h3, x', rfl, hR⟩
  · obtain ⟨n, _, q⟩ := h1.fin
    exact ⟨n, fun c hc' => (by rw [hclk] at hc'; cases hc'), q⟩
  · rcases get k y hy with ⟨rfl, rfl⟩ | ⟨hk, hy⟩
    · exact hx'r
    · exact (hold k y hk hy).1
  · rcases get a oa ha1 with ⟨rfl, rfl⟩ | ⟨hka, hya⟩ <;> rcases get b ob hb1 with ⟨rfl, rfl⟩ | ⟨hkb, hyb⟩
    · exact hab rfl
    · rw [(hold b ob hkb hyb).2] at q2
      rcases inX' bb q1 with e | e
      · exact hs.sep b a ob x bb hkb hyb hO q2 e
      · exact absurd ((hs.real b ob hyb).blk_lt q2) (by omega)
    · rw [(hold a oa hka hya).2] at q1
      rcases inX' bb q2 with e | e
      · exact hs.sep a b oa x bb hka hya hO q1 e
      · exact absurd ((hs.real a oa hya).blk_lt q1) (by omega)
    · rw [(hold a oa hka hya).2] at q1
      rw [(hold b ob hkb hyb).2] at q2
      exact hs.sep a b oa ob bb hab hya hyb q1 q2
  · rcases h2.snap b o v hv with q | q | q
    · exact .inl q
    · exact .inr (.inl q)
    · exact .inr (.inr ⟨i, x, hO, (inX b).1 q⟩)
  · obtain ⟨k, y, hy, hb⟩ := hb
    rcases get k y hy with ⟨rfl, rfl⟩ | ⟨hk, hy⟩
    · rcases inX' b hb with e | e
      · exact .inl ⟨_, x, hO, e⟩
      · exact .inr e
    · exact .inl ⟨k, y, hy, by rw [← (hold k y hk hy).2]; exact hb⟩
/-- what comes back, with objects at the end left behind -/
def dropTo (K : GVal → List GObj → Prop) (g : GVal) (O' : List GObj) : Prop := ∃ g' O1 X, O' = O1 ++ X ∧ leA g g' ∧ K g' O1
theorem GCalls.dropTo {P : Program} {f : FuncId} {args : List GVal} {O : List GObj} {K : GVal → List GObj → Prop} (h : GCalls P f args O (dropTo K)) : GCalls P f args O K :=
  (h.mono fun g O' ⟨g', O1, X, e, hl, hk⟩ => by
    subst e
    exact fun E v w hs hv => by
      obtain ⟨h1, h2⟩ := hs.drop
      exact ⟨g', O1, E, hk, h1, h2, hl.sound hv⟩ : GCalls P f args O (fun g O' => GInto g O' K)).into
end Gv
/- Contracts: small functions of ask. -/
set_option linter.unusedVariables false
set_option linter.unusedSimpArgs false
set_option maxRecDepth 20000
set_option maxHeartbeats 4000000
namespace Gv.Try
open Go Gv Go.Proofs
end Gv.Try
/- A dag over a table: what it holds; how it is made. -/
set_option linter.unusedVariables false
set_option linter.unusedSimpArgs false
set_option maxRecDepth 20000
set_option maxHeartbeats 4000000
namespace Gv.Try
open Go Gv Go.Proofs
/-- a dag's cells -/
abbrev dagG (L : List (List Seg)) (N : List Sp.S) (k : Int) : List GVal := [.slice (levsG L) .none, .slice (spl N) .none, .int .i64 k]
/-- what a method gives that leaves its dag as it is -/
def DPure (f : FuncId) (L : List (List Seg)) (N : List Sp.S) (ar : List GVal) (r : GVal) : Prop :=
  ∀ (st : Nat) (k : Int), GCalls Try.prog f (.ptr 0 st 0 0 :: ar) [.row st 3 [dagG L N k]] (fun g O' => ∃ x', O' = [x'] ∧ (g = r ∧ x' = .row st 3 [dagG L N k]))
theorem DPure.then {f : FuncId} {L : List (List Seg)} {N : List Sp.S} {ar : List GVal} {r : GVal} (h : DPure f L N ar r) {O : List GObj} {i st : Nat} {k : Int} {K : GVal → List GObj → Prop}
    (hk : K r O) (hO : O[i]? = some (.row st 3 [dagG L N k]) := by rfl) (hc : clockOf O = none := by rfl) (ha : ar.map (GVal.place i) = ar := by rfl) : GCalls Try.prog f (.ptr i st 0 0 :: ar) O K := by
  have := GCalls.ownFrame (h st k) i hO hc (fun g x' h => by rw [h.2]; rfl) rfl
  rw [List.map_cons, ha] at this
  refine this.mono ?_
  rintro g O' ⟨x', rfl, rfl, rfl⟩
  have e : O.set i (.row st 3 [dagG L N k]) = O := by
    apply List.ext_getElem (by simp)
    intro j h1 h2
    rw [List.getElem_set]
    split
    · rename_i e; subst e
      rw [List.getElem?_eq_getElem h2] at hO
      exact (Option.some.inj hO).symm
    · rfl
  rw [e]; exact hk
theorem aThere (L : List (List Seg)) (N s : List Sp.S) (t : Tag) (hl : s.length + N.length ≤ 4398046511104) (hs : Sp.Ok s) (hN : Sp.Ok N) : DPure 36 L N [.slice (spl s) t] (.slice (spl (Sp.bothS s N)) .none) := by
  intro st k
  refine h36.calls mixS (by simp) ?_
  simp only [gstart, s36, List.cons_append, List.nil_append, List.length_cons, List.length_nil, Nat.reduceAdd, Nat.reduceSub, List.replicate_succ, List.replicate_zero]
  simp +contextual -implicitDefEqProofs (maxSteps := 2000000) (disch := omega) only [optV, ↓loadV, ↓fieldAddrV, ↓sliceV, ↓nilV, bound, cutTag, hiTag, GVal.cells, grp, GVal.ofConst, ↓resV, resG, List.map, List.headD, List.take, List.drop, ↓reduceIte, Nat.reduceEqDiff, Nat.reduceAdd, Nat.reduceSub, Nat.reduceLeDiff, reduceCtorEq, implies_true, ne_eq, Tag.cap, List.replicate, allSolid, GVal.solid, Nat.reduceBEq, Nat.reduceMul, Nat.reduceLT, List.length_map, List.length_range, splice, vcA, ↓vcB, vcC, fbFf, e36]
  refine (sBoth s N t .none hl hs hN).then ?_ (by rfl)
  simp +contextual -implicitDefEqProofs (maxSteps := 2000000) (disch := omega) only [optV, ↓loadV, ↓fieldAddrV, ↓sliceV, ↓nilV, bound, cutTag, hiTag, GVal.cells, grp, GVal.ofConst, ↓resV, resG, List.map, List.headD, List.take, List.drop, ↓reduceIte, Nat.reduceEqDiff, Nat.reduceAdd, Nat.reduceSub, Nat.reduceLeDiff, reduceCtorEq, implies_true, ne_eq, Tag.cap, List.replicate, allSolid, GVal.solid, Nat.reduceBEq, Nat.reduceMul, Nat.reduceLT, List.length_map, List.length_range, splice, vcA, ↓vcB, vcC, fbFf, e36]
  exact ⟨_, rfl, rfl⟩
theorem aFlat (L : List (List Seg)) (N : List Sp.S) (h : 1 ≤ L.length) : DPure 52 L N [] (.slice (segsG (L.getD 0 [])) .none) := by
  intro st k
  have e := levsG_at L 0 (by omega)
  refine h52.calls mixS (by simp) ?_
  simp only [gstart, s52, List.cons_append, List.nil_append, List.length_cons, List.length_nil, Nat.reduceAdd, Nat.reduceSub, List.replicate_succ, List.replicate_zero]
  simp +contextual -implicitDefEqProofs (maxSteps := 2000000) (disch := omega) only [optV, ↓loadV, ↓fieldAddrV, ↓indexAddrV, ↓sliceV, ↓nilV, bound, cutTag, hiTag, GVal.cells, grp, GVal.ofConst, ↓resV, resG, List.map, List.headD, List.take, List.drop, ↓reduceIte, Nat.reduceEqDiff, Nat.reduceAdd, Nat.reduceSub, Nat.reduceLeDiff, reduceCtorEq, implies_true, ne_eq, Tag.cap, List.replicate, allSolid, GVal.solid, Nat.reduceBEq, Nat.reduceMul, Nat.reduceLT, List.length_map, List.length_range, splice, vcA, ↓vcB, vcC, fbFf, e52, levsG_length, e, Int.toNat_zero]
  exact ⟨by omega, by omega, _, rfl, rfl⟩
theorem aSteps (L : List (List Seg)) (N : List Sp.S) (k : Int) (st : Nat) : GCalls Try.prog 13 [.ptr 0 st 0 0] [.row st 3 [dagG L N k]] (fun g O' => g = .int .i64 k ∧ O' = [.row st 3 [dagG L N k]]) := by
  refine h13.calls mixS (by simp) ?_
  simp only [gstart, s13, List.cons_append, List.nil_append, List.length_cons, List.length_nil, Nat.reduceAdd, Nat.reduceSub, List.replicate_succ, List.replicate_zero]
  simp +contextual -implicitDefEqProofs (maxSteps := 2000000) (disch := omega) only [↓loadV, ↓fieldAddrV, ↓nilV, GVal.cells, grp, GVal.ofConst, ↓resV, resG, List.map, List.headD, List.take, List.drop, ↓reduceIte, Nat.reduceEqDiff, Nat.reduceAdd, Nat.reduceSub, Nat.reduceLeDiff, reduceCtorEq, implies_true, ne_eq, Tag.cap, List.replicate, allSolid, GVal.solid, Nat.reduceBEq, Nat.reduceMul, Nat.reduceLT, List.length_map, List.length_range, splice, vcA, ↓vcB, vcC, fbFf, e13]
theorem seg_mem {l : List Seg} {k : Nat} (h : k < l.length) : l.getD k default ∈ l := by
  rw [List.getD_eq_getElem?_getD, List.getElem?_eq_getElem h]; exact List.getElem_mem h
/-! what the flat segments are -/
structure FlatS (m o : List (List Int)) (s : Seg) : Prop where
  lo : 0 ≤ s.lo
  le : s.lo ≤ s.hi
  top : s.hi ≤ 1099511628776
  par : s.par = parI m o s.lo
  inn : ∀ id, s.lo ≤ id → id ≤ s.hi → inT m o id
  one : ∀ id, s.lo < id → id ≤ s.hi → parI m o id = [id - 1]
theorem okS_flat {m o : List (List Int)} : ∀ (l : List Seg) (n : Nat), okS m o n l → ∀ s ∈ l, FlatS m o s
  | [], n, h, s, hs => by simp at hs
  | a :: r, n, h, s, hs => by
    simp only [okS] at h
    obtain ⟨⟨h1, h2, h3⟩, h4, h5, h6, h7, h8⟩ := h
    rcases List.mem_cons.1 hs with rfl | hs
    · have hsp : split = 1099511627776 := rfl
      refine ⟨h1, h2, by omega, h5.symm, fun id q1 q2 => ?_, fun id q1 q2 => ?_⟩
      · obtain ⟨a, b, _⟩ := h4 (id - s.lo).toNat (by omega)
        show hasI m.length o.length id = true
        rw [← allI_hasI, show id = s.lo + ((id - s.lo).toNat : Int) by omega, ← b, List.getD_eq_getElem?_getD, List.getElem?_eq_getElem (by rw [allI_len]; exact a)]
        exact List.getElem_mem _
      · obtain ⟨_, _, c⟩ := h4 (id - s.lo).toNat (by omega)
        have c := c (by omega)
        rwa [show s.lo + ((id - s.lo).toNat : Int) = id by omega] at c
    · exact okS_flat r _ h8 s hs
/-- a dag over a table -/
structure DagOK (m o : List (List Int)) (L : List (List Seg)) : Prop where
  tok : TOK m o
  len1 : 1 ≤ L.length
  len4 : L.length ≤ 4
  oks : okS m o 0 (L.getD 0 [])
  segs : ∀ i, i < L.length → SegsOK (L.getD i [])
  okc : ∀ i, i < L.length → okC m o 0 (L.getD i []) (m.length + o.length)
  size : ∀ i, (L.getD i []).length ≤ 1000 ∧ sumP (L.getD i []) ≤ 100000
  lows : ∀ i, i < L.length → ∀ y ∈ L.getD i [], ∃ s ∈ L.getD 0 [], y.lo = s.lo
theorem UpOK.lows {size : Int} {l u : List Seg} (h : UpOK size l u) : ∀ y ∈ u, ∃ s ∈ l, y.lo = s.lo := by
  induction h with
  | nil => intro y hy; simp at hy
  | cons l u n h1 h2 h3 ih =>
    intro y hy
    obtain ⟨n1, n2, n3, n4⟩ := h1
    rcases List.mem_cons.1 hy with rfl | hy
    · refine ⟨(l.take n).getD 0 default, List.mem_of_mem_take (seg_mem (l := l.take n) (k := 0) ?_), rfl⟩
      rw [List.length_take]; omega
    · obtain ⟨s, hs, e⟩ := ih y hy
      exact ⟨s, List.mem_of_mem_drop hs, e⟩
theorem SegsOK.sorted : ∀ {l : List Seg}, SegsOK l → SortedS l
  | [], _ => trivial
  | s :: r, h => by
    have h1 := h.app (a := [s]) (b := r)
    refine ⟨?_, fun x hx => h1.2.2 s (by simp) x hx, SegsOK.sorted h1.2.1⟩
    have := okP_at h (s := s) (by simp)
    unfold okP at this
    simp only at this
    omega
theorem DagOK.of {m o : List (List Int)} (h : TOK m o) {l : List Seg} (hl : okS m o 0 l) (hn : l.length ≤ 1000) {size : Int} {L : List (List Seg)} (hL : LevOK size l L) : DagOK m o L := by
  have hsg := (okS_segs h.len _ 0 hl).1
  have hoC := okS_C h.len h.right _ 0 hl
  have hsegs := hL.segs hsg
  obtain ⟨L1, L2, L3, L4, L5⟩ := hL
  have hC : ∀ i, i < L.length → okC m o 0 (L.getD i []) (m.length + o.length) := by
    intro i
    induction i with
    | zero => intro _; rw [L3]; exact hoC
    | succ i ih => intro hi; exact (L4 i hi).1.okC h.len _ _ (hsegs i (by omega)) (ih (by omega))
  have hlow : ∀ i, i < L.length → ∀ y ∈ L.getD i [], ∃ s ∈ L.getD 0 [], y.lo = s.lo := by
    intro i
    induction i with
    | zero => intro _ y hy; exact ⟨y, hy, rfl⟩
    | succ i ih =>
      intro hi y hy
      obtain ⟨s, hs, e⟩ := (L4 i hi).1.lows y hy
      obtain ⟨q, hq, e2⟩ := ih (by omega) s hs
      exact ⟨q, hq, by rw [e, e2]⟩
  exact ⟨h, L1, L2, by rw [L3]; exact hl, hsegs, hC, L5, hlow⟩
theorem DagOK.flat {m o : List (List Int)} {L : List (List Seg)} (h : DagOK m o L) : ∀ s ∈ L.getD 0 [], FlatS m o s := okS_flat _ 0 h.oks
theorem allI_idx {a b : Nat} {x : Int} (h : x ∈ allI a b) : ∃ i, i < a + b ∧ (allI a b).getD i 0 = x := by
  obtain ⟨i, hi, e⟩ := List.getElem_of_mem h
  exact ⟨i, by rw [allI_len] at hi; exact hi, by rw [List.getD_eq_getElem?_getD, List.getElem?_eq_getElem hi]; exact e⟩
/-- an ID is in a segment of each level -/
theorem DagOK.seg {m o : List (List Int)} {L : List (List Seg)} (h : DagOK m o L) {i : Nat} (hi : i < L.length) {x : Int} (hx : inT m o x) : ∃ k, k < (L.getD i []).length ∧ inS x ((L.getD i []).getD k default) ∧ fnd x (L.getD i []) 0 = ((k : Int), true) := by
  obtain ⟨j, hj, e⟩ := allI_idx ((allI_hasI _ _ _).2 hx)
  obtain ⟨s, hs, h1, h2⟩ := okC_in m o _ _ _ (h.okc i hi) j (by omega) hj
  rw [e] at h1 h2
  obtain ⟨k, hk, ek⟩ := List.getElem_of_mem hs
  have ek' : (L.getD i []).getD k default = s := by rw [List.getD_eq_getElem?_getD, List.getElem?_eq_getElem hk]; exact ek
  refine ⟨k, hk, by rw [ek']; exact ⟨h1, h2⟩, ?_⟩
  rw [fnd_yes x (L.getD i []) k 0 hk (by rw [ek']; exact ⟨h1, h2⟩) (fun j hj hin => ?_), Nat.zero_add]
  have := (h.segs i hi).sorted.at_ j k hj hk
  rw [ek'] at this
  obtain ⟨_, h4⟩ := hin
  omega
theorem DagOK.segH {m o : List (List Int)} {L : List (List Seg)} (h : DagOK m o L) {i : Nat} (hi : i < L.length) {k : Nat} (hk : k < (L.getD i []).length) : SegH m o ((L.getD i []).getD k default) := by
  have := (okC_le m o _ _ _ (h.okc i hi)).2.2
  exact this _ (seg_mem hk)
/-- all IDs -/
def allN (L : List (List Seg)) : List Sp.S := Sp.nf (spansOf (L.getD 0 []))
theorem allN_rt (L : List (List Seg)) : Sp.Rt 0 (allN L) := Sp.nf_rt _
theorem DagOK.allHas {m o : List (List Int)} {L : List (List Seg)} (h : DagOK m o L) (n : Int) : Sp.has (allN L) n ↔ inT m o n := by
  unfold allN
  rw [Sp.nf_has]
  constructor
  · rintro ⟨p, hp, h0, h1, h2⟩
    obtain ⟨s, hs, rfl⟩ := List.mem_map.1 hp
    exact (h.flat s hs).inn n h1 h2
  · intro hn
    obtain ⟨k, hk, hin, _⟩ := h.seg (i := 0) (by have := h.len1; omega) hn
    refine ⟨_, List.mem_map.2 ⟨(L.getD 0 []).getD k default, seg_mem hk, rfl⟩, (inT_range h.tok hn).1, hin.1, hin.2⟩
theorem DagOK.allEq {m o : List (List Int)} {L : List (List Seg)} (h : DagOK m o L) : allN L = idsP m o (fun _ => True) := idsP_eq (allN_rt L) fun n => by rw [h.allHas]; simp
theorem DagOK.allOk {m o : List (List Int)} {L : List (List Seg)} (h : DagOK m o L) : Sp.Ok (allN L) := by rw [h.allEq]; exact idsP_ok h.tok _
theorem DagOK.allLen {m o : List (List Int)} {L : List (List Seg)} (h : DagOK m o L) : (allN L).length ≤ 1000 := by rw [h.allEq]; have := idsP_len m o (fun _ => True); have := h.tok.len; omega
/-- those of a set that are there -/
theorem DagOK.thereEq {m o : List (List Int)} {L : List (List Seg)} (h : DagOK m o L) (s : List Sp.S) : Sp.bothS s (allN L) = idsP m o (Sp.has s) :=
  idsP_eq (Sp.bothS_rt _ _) fun n => by rw [Sp.bothS_has, h.allHas]; exact and_comm
theorem spansOf_len (l : List Seg) : (spansOf l).length = l.length := by simp [spansOf]
theorem spansOf_take (l : List Seg) (k : Nat) (h : k < l.length) : spansOf (l.take (k + 1)) = spansOf (l.take k) ++ [((l.getD k default).lo, (l.getD k default).hi)] := by
  unfold spansOf
  rw [List.take_add_one, List.map_append]; simp [List.getD, h]
theorem rel35 (l : List Seg) (size : Int) (hl : l.length ≤ 1000) (hp : sumP l ≤ 100000) (hs : 2 ≤ size) (hok : Sp.Ok (spansOf l)) :
    GCalls Try.prog 35 [.slice (segsG l) .none, .int .i64 size] [] (fun g O' => ∃ st L, g = .ptr 0 st 0 0 ∧ O' = [.row st 3 [dagG L (Sp.nf (spansOf l)) 0]] ∧ LevOK size l L) := by
  refine GCalls.dropTo ?_
  refine h35.calls mixS (by simp) ?_
  simp only [gstart, s35, List.cons_append, List.nil_append, List.length_cons, List.length_nil, Nat.reduceAdd, Nat.reduceSub, List.replicate_succ, List.replicate_zero]
  simp +contextual -implicitDefEqProofs (maxSteps := 2000000) (disch := omega) only [drawC, ↓lenV, binV, ↓loadV, ↓storeV, ↓fieldAddrV, ↓indexAddrV, ↓allocV, ↓boxV, ↓buildV, ↓buildSliceV, ↓nilV, ↓appendV, ↓srcV, fillG, fillE, place, GVal.cells, grp, GVal.ofConst, ↓resV, resG, List.map, List.headD, List.take, List.drop, ↓reduceIte, Nat.reduceEqDiff, Nat.reduceAdd, Nat.reduceSub, Nat.reduceLeDiff, reduceCtorEq, implies_true, ne_eq, ↓asrcV, Tag.cap, List.replicate, allSolid, GVal.solid, Nat.reduceBEq, Nat.reduceMul, Nat.reduceLT, List.length_map, List.length_range, splice, vcA, ↓vcB, vcC, fbFf, e35]
  refine (rel21 l size hl hp hs).then ?_
  rintro g ⟨L, rfl, hL⟩
  simp +contextual -implicitDefEqProofs (maxSteps := 2000000) (disch := omega) only [drawC, ↓lenV, binV, ↓loadV, ↓storeV, ↓fieldAddrV, ↓indexAddrV, ↓allocV, ↓boxV, ↓buildV, ↓buildSliceV, ↓nilV, ↓appendV, ↓srcV, fillG, fillE, place, GVal.cells, grp, GVal.ofConst, ↓resV, resG, List.map, List.headD, List.take, List.drop, ↓reduceIte, Nat.reduceEqDiff, Nat.reduceAdd, Nat.reduceSub, Nat.reduceLeDiff, reduceCtorEq, implies_true, ne_eq, ↓asrcV, Tag.cap, List.replicate, allSolid, GVal.solid, Nat.reduceBEq, Nat.reduceMul, Nat.reduceLT, List.length_map, List.length_range, splice, vcA, ↓vcB, vcC, fbFf, e35]
  intro st
  have hsz : (spansOf l).length = l.length := spansOf_len l
  refine vcSLoop_by (ι := { p : Nat × Nat // p.1 ≤ l.length }) (fun p => ⟨[.any, .any, .any, .any, .any, .ptr 0 st 0 0, .any, .any, .any, .any, .any, .any, .any, .slice (segsG l) .none, .int .i64 l.length, .int .i64 (p.1.1 : Nat)] ++ List.replicate 27 .any, [.row st 3 [[.slice (levsG L) .none, .slice (spl (spansOf (l.take p.1.1))) (.tok 1 p.1.2), .int .i64 0]], .tok p.1.2 2]⟩) (fun p => l.length - p.1.1) ?_ ?_
  · refine Into.cellTok 0 1 2 [] (tg := .nil) rfl rfl rfl rfl ?_
    simp +contextual -implicitDefEqProofs (maxSteps := 2000000) (disch := omega) only [drawC, ↓lenV, binV, ↓loadV, ↓storeV, ↓fieldAddrV, ↓indexAddrV, ↓allocV, ↓boxV, ↓buildV, ↓buildSliceV, ↓nilV, ↓appendV, ↓srcV, fillG, fillE, place, GVal.cells, grp, GVal.ofConst, ↓resV, resG, List.map, List.headD, List.take, List.drop, ↓reduceIte, Nat.reduceEqDiff, Nat.reduceAdd, Nat.reduceSub, Nat.reduceLeDiff, reduceCtorEq, implies_true, ne_eq, ↓asrcV, Tag.cap, List.replicate, allSolid, GVal.solid, Nat.reduceBEq, Nat.reduceMul, Nat.reduceLT, List.length_map, List.length_range, splice, vcA, ↓vcB, vcC, fbFf, e35]
    intro u
    exact Into.first ⟨(0, u), by omega⟩ ⟨[], by simp [spansOf, spl]⟩ (by simp [WL, leG_self, leG_any, segsG_length])
  · rintro ⟨⟨k, u⟩, hk⟩
    change k ≤ l.length at hk
    by_cases h : k < l.length
    · have d0 : ((k : Int) < (l.length : Int)) = True := eq_true (by omega)
      have eS := segsG_at l k h
      have eN := spansOf_take l k h
      have lk : (spansOf (l.take k)).length = k := by rw [spansOf_len, List.length_take]; omega
      generalize l.getD k default = s at *
      generalize spansOf (l.take k) = A at *
      simp +contextual -implicitDefEqProofs (maxSteps := 2000000) (disch := omega) only [drawC, ↓lenV, binV, ↓loadV, ↓storeV, ↓fieldAddrV, ↓indexAddrV, ↓allocV, ↓boxV, ↓buildV, ↓buildSliceV, ↓nilV, ↓appendV, ↓srcV, fillG, fillE, place, GVal.cells, grp, GVal.ofConst, ↓resV, resG, List.map, List.headD, List.take, List.drop, ↓reduceIte, Nat.reduceEqDiff, Nat.reduceAdd, Nat.reduceSub, Nat.reduceLeDiff, reduceCtorEq, implies_true, ne_eq, ↓asrcV, Tag.cap, List.replicate, allSolid, GVal.solid, Nat.reduceBEq, Nat.reduceMul, Nat.reduceLT, List.length_map, List.length_range, splice, vcA, ↓vcB, vcC, fbFf, e35, segsG_length, d0, eS, segG, spl_length, all_spl, lk]
      refine ⟨by omega, fun st1 => ⟨by omega, by omega, fun st2 => ?_⟩⟩
      exact Into.at ⟨(k + 1, st2), by show k + 1 ≤ _; omega⟩ (by show _ < _; simp; omega) ⟨[.row st1 5 [segG s]], by simp [eN, spl_append, spl_one, spG, segG]⟩ (by simp [WL, leG_self, leG_any, leG_int])
    · have d0 : ((k : Int) < (l.length : Int)) = False := eq_false (by omega)
      have e : k = l.length := by omega
      subst e
      simp +contextual -implicitDefEqProofs (maxSteps := 2000000) (disch := omega) only [drawC, ↓lenV, binV, ↓loadV, ↓storeV, ↓fieldAddrV, ↓indexAddrV, ↓allocV, ↓boxV, ↓buildV, ↓buildSliceV, ↓nilV, ↓appendV, ↓srcV, fillG, fillE, place, GVal.cells, grp, GVal.ofConst, ↓resV, resG, List.map, List.headD, List.take, List.drop, ↓reduceIte, Nat.reduceEqDiff, Nat.reduceAdd, Nat.reduceSub, Nat.reduceLeDiff, reduceCtorEq, implies_true, ne_eq, ↓asrcV, Tag.cap, List.replicate, allSolid, GVal.solid, Nat.reduceBEq, Nat.reduceMul, Nat.reduceLT, List.length_map, List.length_range, splice, vcA, ↓vcB, vcC, fbFf, e35, segsG_length, d0, List.take_length]
      refine (sMake (spansOf l) _ (by omega) hok).then ?_ (by rfl)
      simp +contextual -implicitDefEqProofs (maxSteps := 2000000) (disch := omega) only [drawC, ↓lenV, binV, ↓loadV, ↓storeV, ↓fieldAddrV, ↓indexAddrV, ↓allocV, ↓boxV, ↓buildV, ↓buildSliceV, ↓nilV, ↓appendV, ↓srcV, fillG, fillE, place, GVal.cells, grp, GVal.ofConst, ↓resV, resG, List.map, List.headD, List.take, List.drop, ↓reduceIte, Nat.reduceEqDiff, Nat.reduceAdd, Nat.reduceSub, Nat.reduceLeDiff, reduceCtorEq, implies_true, ne_eq, ↓asrcV, Tag.cap, List.replicate, allSolid, GVal.solid, Nat.reduceBEq, Nat.reduceMul, Nat.reduceLT, List.length_map, List.length_range, splice, vcA, ↓vcB, vcC, fbFf, e35]
      exact ⟨.ptr 0 st 0 0, [.row st 3 [dagG L (Sp.nf (spansOf l)) 0]], [.tok u 2], rfl, by unfold leA; simp [leG_self], st, L, rfl, rfl, hL⟩
theorem buildI_len {m o : List (List Int)} (h : TOK m o) : (buildI m o).length ≤ 1000 := by
  have l1 := (lrun_len 0 m m.length).1
  have l2 := (lrun_len split o o.length).1
  have := h.len
  rw [buildI, if_pos h.right, List.length_append, linesI, linesI]; omega
theorem flat_par4 {m o : List (List Int)} (h : TOK m o) {s : Seg} (hs : FlatS m o s) : s.par.length ≤ 4 := by
  rw [hs.par]; exact okRow_len h.right _
theorem sumP_le4 : ∀ (l : List Seg), (∀ s ∈ l, s.par.length ≤ 4) → sumP l ≤ 4 * l.length
  | [], _ => by simp [sumP]
  | a :: l, h => by
    have := sumP_le4 l fun s hs => h s (by simp [hs])
    have := h a (by simp)
    simp only [sumP, List.length_cons]; omega
theorem okS_ok {m o : List (List Int)} {l : List Seg} (h : okS m o 0 l) : Sp.Ok (spansOf l) := fun p hp => by
  obtain ⟨s, hs, rfl⟩ := List.mem_map.1 hp
  have f := okS_flat l 0 h s hs
  have := f.lo
  have := f.le
  have := f.top
  simp only
  omega
theorem aOver {m o : List (List Int)} (h : TOK m o) {l : List Seg} (hl : okS m o 0 l) (hn : l.length ≤ 1000) (size : Int) (hs : 2 ≤ size) :
    GCalls Try.prog 35 [.slice (segsG l) .none, .int .i64 size] [] (fun g O' => ∃ st L, g = .ptr 0 st 0 0 ∧ O' = [.row st 3 [dagG L (allN L) 0]] ∧ DagOK m o L ∧ LevOK size l L) := by
  have hp : sumP l ≤ 100000 := by
    have := sumP_le4 l fun s hs => flat_par4 h (okS_flat l 0 hl s hs)
    omega
  refine (rel35 l size hn hp hs (okS_ok hl)).mono ?_
  rintro g O' ⟨st, L, rfl, rfl, hL⟩
  have e : L.getD 0 [] = l := hL.2.2.1
  exact ⟨st, L, rfl, by rw [allN, e], .of h hl hn hL, hL⟩
theorem aNew {m o : List (List Int)} (h : TOK m o) (tm to : Tag) (size : Int) (hs : 2 ≤ size) :
    GCalls Try.prog 9 [.agg [.slice (tabG m) tm, .slice (tabG o) to], .int .i64 size] [] (fun g O' => ∃ st L, g = .ptr 0 st 0 0 ∧ O' = [.row st 3 [dagG L (allN L) 0]] ∧ DagOK m o L ∧ LevOK size (buildI m o) L) := by
  have hl := h.len
  have hm4 : ∀ p ∈ m, p.length ≤ 17592186044416 := fun p hp => by
    have hr := h.right; rw [rightI, Bool.and_eq_true] at hr; have := okG_row hr.1 p hp; omega
  have ho4 : ∀ p ∈ o, p.length ≤ 17592186044416 := fun p hp => by
    have hr := h.right; rw [rightI, Bool.and_eq_true] at hr; have := okG_row hr.2 p hp; omega
  have hoS := build_okS m o (by omega) (by omega) h.right
  have c34 := spec34 m o tm to (by omega) (by omega) hm4 ho4
  rw [h.right] at c34
  refine h9.calls mixS (by simp) ?_
  simp only [gstart, s9, List.cons_append, List.nil_append, List.length_cons, List.length_nil, Nat.reduceAdd, Nat.reduceSub, List.replicate_succ, List.replicate_zero]
  simp +contextual -implicitDefEqProofs (maxSteps := 2000000) (disch := omega) only [binV, ↓unV, ↓loadV, ↓boxV, GVal.cells, grp, GVal.ofConst, ↓resV, resG, List.map, List.headD, List.take, List.drop, ↓reduceIte, Nat.reduceEqDiff, Nat.reduceAdd, Nat.reduceSub, Nat.reduceLeDiff, reduceCtorEq, implies_true, ne_eq, Tag.cap, List.replicate, allSolid, GVal.solid, Nat.reduceBEq, Nat.reduceMul, Nat.reduceLT, List.length_map, List.length_range, splice, vcA, ↓vcB, vcC, fbFf, e9]
  refine c34.then ?_ (by rfl)
  have d0 : (size < 2) = False := eq_false (by omega)
  simp +contextual -implicitDefEqProofs (maxSteps := 2000000) (disch := omega) only [binV, ↓unV, ↓loadV, ↓boxV, GVal.cells, grp, GVal.ofConst, ↓resV, resG, List.map, List.headD, List.take, List.drop, ↓reduceIte, Nat.reduceEqDiff, Nat.reduceAdd, Nat.reduceSub, Nat.reduceLeDiff, reduceCtorEq, implies_true, ne_eq, Tag.cap, List.replicate, allSolid, GVal.solid, Nat.reduceBEq, Nat.reduceMul, Nat.reduceLT, List.length_map, List.length_range, splice, vcA, ↓vcB, vcC, fbFf, e9, d0]
  refine (spec12 m o tm to (by omega) (by omega) hm4 ho4).then ?_ (by rfl)
  simp +contextual -implicitDefEqProofs (maxSteps := 2000000) (disch := omega) only [binV, ↓unV, ↓loadV, ↓boxV, GVal.cells, grp, GVal.ofConst, ↓resV, resG, List.map, List.headD, List.take, List.drop, ↓reduceIte, Nat.reduceEqDiff, Nat.reduceAdd, Nat.reduceSub, Nat.reduceLeDiff, reduceCtorEq, implies_true, ne_eq, Tag.cap, List.replicate, allSolid, GVal.solid, Nat.reduceBEq, Nat.reduceMul, Nat.reduceLT, List.length_map, List.length_range, splice, vcA, ↓vcB, vcC, fbFf, e9, d0]
  refine (aOver h hoS (buildI_len h) size hs).mono ?_
  rintro g O' ⟨st, L, rfl, rfl, h1, h2⟩
  simp +contextual -implicitDefEqProofs (maxSteps := 2000000) (disch := omega) only [binV, ↓unV, ↓loadV, ↓boxV, GVal.cells, grp, GVal.ofConst, ↓resV, resG, List.map, List.headD, List.take, List.drop, ↓reduceIte, Nat.reduceEqDiff, Nat.reduceAdd, Nat.reduceSub, Nat.reduceLeDiff, reduceCtorEq, implies_true, ne_eq, Tag.cap, List.replicate, allSolid, GVal.solid, Nat.reduceBEq, Nat.reduceMul, Nat.reduceLT, List.length_map, List.length_range, splice, vcA, ↓vcB, vcC, fbFf, e9]
  exact ⟨st, L, rfl, rfl, h1, h2⟩
end Gv.Try
/- Contracts: parents and children of a set. -/
set_option linter.unusedVariables false
set_option linter.unusedSimpArgs false
set_option maxRecDepth 20000
set_option maxHeartbeats 8000000
namespace Gv.Try
open Go Gv Go.Proofs
theorem getD_bounds {l : List Int} {a b : Int} (h : ∀ x ∈ l, a ≤ x ∧ x ≤ b) (ha : a ≤ 0) (hb : 0 ≤ b) (i : Nat) : a ≤ l.getD i 0 ∧ l.getD i 0 ≤ b := by
  by_cases hi : i < l.length
  · exact h _ (getD_mem hi)
  · rw [List.getD_eq_getElem?_getD, List.getElem?_eq_none (by omega)]; exact ⟨ha, hb⟩
theorem idsOk {m o : List (List Int)} (h : TOK m o) {l : List Int} (hl : ∀ p ∈ l, inT m o p) : Sp.Ok (l.map fun i => (i, i)) := fun s hs => by
  obtain ⟨i, hi, rfl⟩ := List.mem_map.1 hs
  have := inT_range h (hl i hi)
  simp only; omega
end Gv.Try
/- Guards and tests without a match: the kernel need not look into what is left out. -/
set_option linter.unusedVariables false
namespace Gv
open Go
def guardV (v : GVal) (A B C : Prop) : Prop := match v with
  | .bool b => gif b A B
  | .lit (.tuple _) => C
  | _ => False
@[congr] theorem cg_guardV {v v' : GVal} {A B C : Prop} (h : v = v') : guardV v A B C = guardV v' A B C := by subst h; rfl
def condV (v : GVal) (A B : Prop) : Prop := match v with
  | .bool b => gif b A B
  | .ubool => A ∧ B
  | _ => False
@[congr] theorem cg_condV {v v' : GVal} {A B : Prop} (h : v = v') : condV v A B = condV v' A B := by subst h; rfl
theorem nil_ptr (a b c d : Nat) (K : GVal → Prop) : nilV (.ptr a b c d) K = K (.ptr a b c d) := rfl
theorem nil_ref (cs : List GVal) (K : GVal → Prop) : nilV (.ref cs) K = K (.ref cs) := rfl
section
variable (P : Program) (R : List Nat) (Q : Ex → GSt → Prop) (st : GSt)
end
end Gv
