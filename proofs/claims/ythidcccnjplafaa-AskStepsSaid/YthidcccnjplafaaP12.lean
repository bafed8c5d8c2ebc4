import Derived.Test.YthidcccnjplafaaP8
import Derived.Test.YthidcccnjplafaaP11
import Derived.Test.YthidcccnjplafaaP7
import Derived.Test.YthidcccnjplafaaP10

/- Contracts: equal lists of lists and of segments. -/
set_option linter.unusedVariables false
set_option linter.unusedSimpArgs false
set_option maxRecDepth 20000
set_option maxHeartbeats 4000000
namespace Gv.Try
open Go Gv Go.Proofs

end Gv.Try
/- Contracts: the same tables, the document's Find. -/
set_option linter.unusedVariables false
set_option linter.unusedSimpArgs false
set_option maxRecDepth 20000
set_option maxHeartbeats 4000000
namespace Gv.Try
open Go Gv Go.Proofs

/-- the place of the segment that has an ID -/
def fnd (id : Int) : List Seg → Nat → Int × Bool
  | [], _ => (0, false)
  | s :: r, k => if s.lo ≤ id ∧ id ≤ s.hi then ((k : Int), true) else fnd id r (k + 1)
end Gv.Try
/- Contracts: a segment's rows put behind a table's. -/
set_option linter.unusedVariables false
set_option linter.unusedSimpArgs false
set_option maxRecDepth 20000
set_option maxHeartbeats 8000000
namespace Gv.Try
open Go Gv Go.Proofs

end Gv.Try
/- Contract: the table of segments. -/
set_option linter.unusedVariables false
set_option linter.unusedSimpArgs false
set_option maxRecDepth 20000
set_option maxHeartbeats 8000000
namespace Gv.Try
open Go Gv Go.Proofs

abbrev Tab := List (List Int) × List (List Int)
/-- a table within bounds -/
def okT (t : Tab) : Prop := t.1.length + t.2.length ≤ 1000 ∧ (∀ p ∈ t.1, p.length ≤ 17592186044416) ∧ ∀ p ∈ t.2, p.length ≤ 17592186044416
end Gv.Try
/- Contracts: where an ID is found; its parents. -/
set_option linter.unusedVariables false
set_option linter.unusedSimpArgs false
set_option maxRecDepth 20000
set_option maxHeartbeats 8000000
namespace Gv.Try
open Go Gv Go.Proofs

theorem c56 (l : List Seg) (t : Tag) (id : Int) (k : Nat) (s1 s2 : Nat) (hk : k < l.length) :
    GCalls Try.prog 87 [.int .i64 (k : Nat), .ptr 0 s1 0 0, .ptr 1 s2 0 0] [.row s1 1 [[.slice (segsG l) t]], .row s2 1 [[.int .i64 id]]] (fun g O' => g = .bool (decide (id ≤ (l.getD k default).hi)) ∧ O' = [.row s1 1 [[.slice (segsG l) t]], .row s2 1 [[.int .i64 id]]]) := by
  have eS : (segsG l).getD k [] = segG (l.getD k default) := segsG_at l k hk
  generalize l.getD k default = s at *
  refine h87.calls mixS (by simp) ?_
  simp only [gstart, s87, List.cons_append, List.nil_append, List.length_cons, List.length_nil, Nat.reduceAdd, Nat.reduceSub, List.replicate_succ, List.replicate_zero]
  simp +contextual -implicitDefEqProofs (maxSteps := 2000000) (disch := omega) only [drawC, binV, ↓loadV, ↓fieldAddrV, ↓indexAddrV, GVal.cells, grp, GVal.ofConst, ↓resV, resG, List.map, List.headD, List.take, List.drop, ↓reduceIte, Nat.reduceEqDiff, Nat.reduceAdd, Nat.reduceSub, Nat.reduceLeDiff, reduceCtorEq, implies_true, ne_eq, Tag.cap, List.replicate, allSolid, GVal.solid, Nat.reduceBEq, Nat.reduceMul, Nat.reduceLT, List.length_map, List.length_range, splice, vcA, ↓vcB, vcC, fbFf, e87, segsG_length, eS, segG]
  omega

/-- where the search ends -/
def Ends (l : List Seg) (id : Int) (k : Nat) : Prop := k ≤ l.length ∧ (0 < k → (l.getD (k - 1) default).hi < id) ∧ (k < l.length → id ≤ (l.getD k default).hi)

theorem c55 (l : List Seg) (t : Tag) (id : Int) (s1 s2 : Nat) (hl : l.length ≤ 17592186044416) :
    GCalls Try.prog 86 [.int .i64 (l.length : Nat), .func (.func 87) [] [.ptr 0 s1 0 0, .ptr 1 s2 0 0]] [.row s1 1 [[.slice (segsG l) t]], .row s2 1 [[.int .i64 id]]] (fun g O' => (∃ k : Nat, g = .int .i64 k ∧ Ends l id k) ∧ O' = [.row s1 1 [[.slice (segsG l) t]], .row s2 1 [[.int .i64 id]]]) := by
  have q1 := fun (a : Int) K => conv_int Try.prog 3 106 .i64 .u64 a K und3 und106
  have q2 := fun (a : Int) K => conv_int Try.prog 106 3 .u64 .i64 a K und106 und3
  refine h86.calls mixS (by simp) ?_
  simp only [gstart, s86, List.cons_append, List.nil_append, List.length_cons, List.length_nil, Nat.reduceAdd, Nat.reduceSub, List.replicate_succ, List.replicate_zero]
  simp +contextual -implicitDefEqProofs (maxSteps := 2000000) (disch := omega) only [binV, ↓unV, ↓convV, GVal.cells, grp, GVal.ofConst, ↓resV, resG, List.map, List.headD, List.take, List.drop, ↓reduceIte, Nat.reduceEqDiff, Nat.reduceAdd, Nat.reduceSub, Nat.reduceLeDiff, reduceCtorEq, implies_true, ne_eq, Tag.cap, List.replicate, allSolid, GVal.solid, Nat.reduceBEq, Nat.reduceMul, Nat.reduceLT, List.length_map, List.length_range, splice, vcA, ↓vcB, vcC, fbFf, e86]
  refine vcSLoop_by (ι := { p : Nat × Nat // p.1 ≤ p.2 ∧ p.2 ≤ l.length ∧ (0 < p.1 → (l.getD (p.1 - 1) default).hi < id) ∧ (p.2 < l.length → id ≤ (l.getD p.2 default).hi) }) (fun p => ⟨[.int .i64 (l.length : Nat), .func (.func 87) [] [.ptr 0 s1 0 0, .ptr 1 s2 0 0], .any, .any, .any, .int .i64 (p.1.1 : Nat), .int .i64 (p.1.2 : Nat)] ++ List.replicate 19 .any, [.row s1 1 [[.slice (segsG l) t]], .row s2 1 [[.int .i64 id]]]⟩) (fun p => p.1.2 - p.1.1) ?_ ?_
  · exact Into.first ⟨(0, l.length), by omega, by omega, by simp, by simp⟩ ⟨[], by simp⟩ (by simp [WL, leG_self, leG_any])
  · rintro ⟨⟨i, j⟩, h1, h2, h3, h4⟩
    change i ≤ j at h1
    change j ≤ l.length at h2
    change 0 < i → (l.getD (i - 1) default).hi < id at h3
    change j < l.length → id ≤ (l.getD j default).hi at h4
    by_cases hij : i < j
    · have d0 : decide ((i : Int) < (j : Int)) = true := decide_eq_true (by omega)
      have hm : ((i : Int) + j) / 2 = ((i + j) / 2 : Nat) := by omega
      have e1 : norm .u64 ((i : Int) + j) = (i : Int) + j := norm_u64 (by omega)
      have e2 : norm .i64 (((i + j) / 2 : Nat) : Int) = ((i + j) / 2 : Nat) := norm_i64 (by omega)
      simp +contextual -implicitDefEqProofs (maxSteps := 2000000) (disch := omega) only [binV, ↓unV, ↓convV, GVal.cells, grp, GVal.ofConst, ↓resV, resG, List.map, List.headD, List.take, List.drop, ↓reduceIte, Nat.reduceEqDiff, Nat.reduceAdd, Nat.reduceSub, Nat.reduceLeDiff, reduceCtorEq, implies_true, ne_eq, Tag.cap, List.replicate, allSolid, GVal.solid, Nat.reduceBEq, Nat.reduceMul, Nat.reduceLT, List.length_map, List.length_range, splice, vcA, ↓vcB, vcC, fbFf, e86, d0, ↓q1, ↓q2, ↓ibin_shr1, e1, hm, e2]
      have hb : (i + j) / 2 < l.length := by omega
      have c := c56 l t id ((i + j) / 2) s1 s2 hb
      have hlo : i ≤ (i + j) / 2 := by omega
      have hhi : (i + j) / 2 < j := by omega
      have e3 : norm .i64 (((i : Int) + j) / 2 ^ Int.toNat 1) = ((i + j) / 2 : Nat) := by rw [show (2 : Int) ^ Int.toNat 1 = 2 from rfl, hm, e2]
      clear e1 e2 hm
      generalize (i + j) / 2 = h at *
      refine ⟨by omega, by decide, ?_⟩
      rw [e3]
      refine c.mono ?_
      rintro g O' ⟨rfl, rfl⟩
      by_cases hq : id ≤ (l.getD h default).hi
      · rw [decide_eq_true hq]
        simp +contextual -implicitDefEqProofs (maxSteps := 2000000) (disch := omega) only [binV, ↓unV, ↓convV, GVal.cells, grp, GVal.ofConst, ↓resV, resG, List.map, List.headD, List.take, List.drop, ↓reduceIte, Nat.reduceEqDiff, Nat.reduceAdd, Nat.reduceSub, Nat.reduceLeDiff, reduceCtorEq, implies_true, ne_eq, Tag.cap, List.replicate, allSolid, GVal.solid, Nat.reduceBEq, Nat.reduceMul, Nat.reduceLT, List.length_map, List.length_range, splice, vcA, ↓vcB, vcC, fbFf, e86]
        exact Into.at ⟨(i, h), by show i ≤ h; omega, by show h ≤ _; omega, h3, fun _ => hq⟩ (by show h - i < j - i; omega) ⟨_, rfl⟩ (by simp [WL, leG_self, leG_any, leG_int])
      · rw [decide_eq_false hq]
        simp +contextual -implicitDefEqProofs (maxSteps := 2000000) (disch := omega) only [binV, ↓unV, ↓convV, GVal.cells, grp, GVal.ofConst, ↓resV, resG, List.map, List.headD, List.take, List.drop, ↓reduceIte, Nat.reduceEqDiff, Nat.reduceAdd, Nat.reduceSub, Nat.reduceLeDiff, reduceCtorEq, implies_true, ne_eq, Tag.cap, List.replicate, allSolid, GVal.solid, Nat.reduceBEq, Nat.reduceMul, Nat.reduceLT, List.length_map, List.length_range, splice, vcA, ↓vcB, vcC, fbFf, e86]
        exact Into.at ⟨(h + 1, j), by show h + 1 ≤ j; omega, h2, fun _ => by show (l.getD (h + 1 - 1) default).hi < id; rw [Nat.add_sub_cancel]; omega, h4⟩ (by show j - (h + 1) < j - i; omega) ⟨_, rfl⟩ (by simp [WL, leG_self, leG_any, leG_int])
    · have d0 : decide ((i : Int) < (j : Int)) = false := decide_eq_false (by omega)
      simp +contextual -implicitDefEqProofs (maxSteps := 2000000) (disch := omega) only [binV, ↓unV, ↓convV, GVal.cells, grp, GVal.ofConst, ↓resV, resG, List.map, List.headD, List.take, List.drop, ↓reduceIte, Nat.reduceEqDiff, Nat.reduceAdd, Nat.reduceSub, Nat.reduceLeDiff, reduceCtorEq, implies_true, ne_eq, Tag.cap, List.replicate, allSolid, GVal.solid, Nat.reduceBEq, Nat.reduceMul, Nat.reduceLT, List.length_map, List.length_range, splice, vcA, ↓vcB, vcC, fbFf, e86, d0]
      have e : i = j := by omega
      subst e
      exact ⟨i, rfl, h2, h3, h4⟩

def endAt (l : List Seg) (id : Int) (k : Nat) : Int × Bool := if k = l.length ∨ id < (l.getD k default).lo then (0, false) else ((k : Int), true)

theorem spec33 (l : List Seg) (t : Tag) (id : Int) (r : Int × Bool) (hl : l.length ≤ 17592186044416) (hr : ∀ k, Ends l id k → endAt l id k = r) :
    GPure Try.prog 64 [.slice (segsG l) t, .int .i64 id] (.tuple [.int .i64 r.1, .bool r.2]) := by
  refine h64.pure mixS (by simp) ?_
  simp only [gstart, s64, List.cons_append, List.nil_append, List.length_cons, List.length_nil, Nat.reduceAdd, Nat.reduceSub, List.replicate_succ, List.replicate_zero]
  simp +contextual -implicitDefEqProofs (maxSteps := 2000000) (disch := omega) only [drawC, ↓lenV, binV, ↓loadV, ↓fieldAddrV, ↓indexAddrV, ↓boxV, GVal.cells, grp, GVal.ofConst, ↓resV, resG, List.map, List.headD, List.take, List.drop, ↓reduceIte, Nat.reduceEqDiff, Nat.reduceAdd, Nat.reduceSub, Nat.reduceLeDiff, reduceCtorEq, implies_true, ne_eq, aggV, Tag.cap, List.replicate, allSolid, GVal.solid, Nat.reduceBEq, Nat.reduceMul, Nat.reduceLT, List.length_map, List.length_range, splice, vcA, ↓vcB, vcC, fbFf, e64, segsG_length]
  intro s1 s2
  repeat (refine ⟨by omega, ?_⟩)
  refine (c55 l t id s1 s2 hl).mono ?_
  rintro g O' ⟨⟨k, rfl, hk⟩, rfl⟩
  have hh := hr k hk
  have hk2 := hk.1
  by_cases he : k = l.length
  · have d0 : ((k : Int) == (l.length : Int)) = true := by rw [beq_iff_eq]; omega
    rw [endAt, if_pos (.inl he)] at hh
    simp +contextual -implicitDefEqProofs (maxSteps := 2000000) (disch := omega) only [drawC, ↓lenV, binV, ↓loadV, ↓fieldAddrV, ↓indexAddrV, ↓boxV, GVal.cells, grp, GVal.ofConst, ↓resV, resG, List.map, List.headD, List.take, List.drop, ↓reduceIte, Nat.reduceEqDiff, Nat.reduceAdd, Nat.reduceSub, Nat.reduceLeDiff, reduceCtorEq, implies_true, ne_eq, aggV, Tag.cap, List.replicate, allSolid, GVal.solid, Nat.reduceBEq, Nat.reduceMul, Nat.reduceLT, List.length_map, List.length_range, splice, vcA, ↓vcB, vcC, fbFf, e64, segsG_length, d0]
    subst hh
    exact ⟨rfl, rfl⟩
  · have d0 : ((k : Int) == (l.length : Int)) = false := by rw [beq_eq_false_iff_ne]; omega
    have eS : (segsG l).getD k [] = segG (l.getD k default) := segsG_at l k (by omega)
    unfold endAt at hh
    generalize l.getD k default = s at *
    simp +contextual -implicitDefEqProofs (maxSteps := 2000000) (disch := omega) only [drawC, ↓lenV, binV, ↓loadV, ↓fieldAddrV, ↓indexAddrV, ↓boxV, GVal.cells, grp, GVal.ofConst, ↓resV, resG, List.map, List.headD, List.take, List.drop, ↓reduceIte, Nat.reduceEqDiff, Nat.reduceAdd, Nat.reduceSub, Nat.reduceLeDiff, reduceCtorEq, implies_true, ne_eq, aggV, Tag.cap, List.replicate, allSolid, GVal.solid, Nat.reduceBEq, Nat.reduceMul, Nat.reduceLT, List.length_map, List.length_range, splice, vcA, ↓vcB, vcC, fbFf, e64, segsG_length, eS, segG, d0]
    refine ⟨by omega, by omega, fun h1 => ?_, fun h1 => ?_⟩
    · rw [if_pos (.inr h1)] at hh
      subst hh; exact ⟨rfl, rfl⟩
    · rw [if_neg (by omega)] at hh
      subst hh; exact ⟨rfl, rfl⟩

end Gv.Try
/- The plain laws: an ID is found where it is; the table is there again. -/
set_option linter.unusedVariables false
set_option maxRecDepth 20000
set_option linter.unusedSimpArgs false
namespace Gv.Try
open Go Gv Go.Proofs

/-- is an ID in a segment? -/
def inS (id : Int) (s : Seg) : Prop := s.lo ≤ id ∧ id ≤ s.hi
def SortedS : List Seg → Prop
  | [] => True
  | s :: r => s.lo ≤ s.hi ∧ (∀ x ∈ r, s.hi < x.lo) ∧ SortedS r
theorem SortedS.at_ : ∀ {l : List Seg}, SortedS l → ∀ i j, i < j → j < l.length → (l.getD i default).hi < (l.getD j default).lo
  | [], _, i, j, _, hj => by simp at hj
  | s :: r, h, 0, j + 1, _, hj => by
    have hj' : j < r.length := by simpa using hj
    simp only [List.getD_cons_zero, List.getD_cons_succ]
    exact h.2.1 _ (by rw [List.getD_eq_getElem?_getD, List.getElem?_eq_getElem hj']; exact List.getElem_mem hj')
  | s :: r, h, i + 1, j + 1, hij, hj => by
    simp only [List.getD_cons_succ]
    exact SortedS.at_ h.2.2 i j (by omega) (by simpa using hj)
theorem SortedS.le : ∀ {l : List Seg}, SortedS l → ∀ i, i < l.length → (l.getD i default).lo ≤ (l.getD i default).hi
  | [], _, i, hi => by simp at hi
  | s :: r, h, 0, hi => by simpa using h.1
  | s :: r, h, i + 1, hi => by
    simp only [List.getD_cons_succ]
    exact SortedS.le h.2.2 i (by simpa using hi)
theorem fnd_yes (id : Int) : ∀ (l : List Seg) (k b : Nat), k < l.length → inS id (l.getD k default) → (∀ j, j < k → ¬ inS id (l.getD j default)) → fnd id l b = (((b + k : Nat) : Int), true)
  | [], k, b, h, _, _ => by simp at h
  | s :: r, 0, b, h, h1, _ => by
    rw [fnd, if_pos (by simpa [inS] using h1)]; rfl
  | s :: r, k + 1, b, h, h1, h2 => by
    have h0 := h2 0 (by omega)
    rw [fnd, if_neg (by simpa [inS] using h0), fnd_yes id r k (b + 1) (by simpa using h) (by simpa using h1) (fun j hj => by simpa using h2 (j + 1) (by omega))]
    rw [show b + 1 + k = b + (k + 1) from by omega]
theorem fnd_no (id : Int) : ∀ (l : List Seg) (b : Nat), (∀ j, j < l.length → ¬ inS id (l.getD j default)) → fnd id l b = (0, false)
  | [], b, _ => rfl
  | s :: r, b, h => by
    have h0 := h 0 (by simp)
    rw [fnd, if_neg (by simpa [inS] using h0), fnd_no id r (b + 1) (fun j hj => by simpa using h (j + 1) (by simpa using hj))]
theorem ends_fnd {l : List Seg} (hs : SortedS l) (id : Int) (k : Nat) (h : Ends l id k) : endAt l id k = fnd id l 0 := by
  obtain ⟨h1, h2, h3⟩ := h
  have hlow : ∀ j, j < k → ¬ inS id (l.getD j default) := fun j hj hi => by
    have hk := h2 (by omega)
    by_cases e : j = k - 1
    · subst e; exact absurd hi.2 (by omega)
    · have q1 := hs.at_ j (k - 1) (by omega) (by omega)
      have q2 := hs.le (k - 1) (by omega)
      exact absurd hi.2 (by omega)
  unfold endAt
  by_cases hk : k < l.length
  · have h3 := h3 hk
    by_cases hlo : id < (l.getD k default).lo
    · rw [if_pos (.inr hlo), fnd_no]
      intro j hj hi
      by_cases e : j < k
      · exact hlow j e hi
      · by_cases e2 : j = k
        · subst e2; exact absurd hi.1 (by omega)
        · have q1 := hs.at_ k j (by omega) hj
          have q2 := hs.le k hk
          exact absurd hi.1 (by omega)
    · rw [if_neg (by omega), fnd_yes id l k 0 hk ⟨by omega, h3⟩ hlow, Nat.zero_add]
  · rw [if_pos (.inl (by omega)), fnd_no]
    exact fun j hj => hlow j (by omega)

/-! the table is there again -/
end Gv.Try
/- The plain law of heads: kept by a map, counted by ancestors. -/
set_option linter.unusedVariables false
set_option maxRecDepth 20000
set_option linter.unusedSimpArgs false
namespace Gv.Try
open Go Gv Go.Proofs

end Gv.Try
/- The plain law of the document's segments. -/
set_option linter.unusedVariables false
set_option maxRecDepth 20000
set_option linter.unusedSimpArgs false
namespace Gv.Try
open Go Gv Go.Proofs

end Gv.Try
/- Contract: the document's segments are the program's. -/
set_option linter.unusedVariables false
set_option linter.unusedSimpArgs false
set_option maxRecDepth 20000
set_option maxHeartbeats 8000000
namespace Gv.Try
open Go Gv Go.Proofs

end Gv.Try
/- A call that is handed one object of the caller's: wherever it lies among the caller's objects, the others stay as they are. -/
set_option linter.unusedVariables false
namespace Gv
open Go
/-- the same value, its pointers' places told anew -/
def GVal.place (i : Nat) : GVal → GVal
  | .ptr _ st a b => .ptr i st a b
  | .own _ st a b => .own i st a b
  | .map _ st => .map i st
  | g => g
theorem VR.place {E : Env} {v : Value} {g : GVal} (i : Nat) (h : VR E v (g.place i)) : VR E v g := by
  cases g with
  | ptr o st a b => cases h; exact .ptr _ _ _ _ _ _ _ (by assumption) (by assumption) (by assumption)
  | own o st a b => cases h; exact .own _ _ _ _ _ _ _ (by assumption) (by assumption) (by assumption)
  | map o st => cases h; exact .map _ _ _ _ (by assumption) (by assumption)
  | _ => exact h
theorem HSim.only {E : Env} {O : List GObj} {w : World} (h : HSim E O w) {i : Nat} {x : GObj} (hx : O[i]? = some x) (hc : x.isClock = false) : HSim E [x] w := by
  refine ⟨?_, h.sealed, h.one, fun k y hy => ?_, fun a b oa ob bb hab ha hb => ?_, h.glob⟩
  · obtain ⟨n, _, h2⟩ := h.fin
    refine ⟨n, fun c hc' => ?_, h2⟩
    cases x <;> simp [clockOf, GObj.isClock] at hc' hc
  · match k with
    | 0 => simp at hy; subst hy; exact h.real i x hx
    | k + 1 => simp at hy
  · match a, b with
    | 0, 0 => exact absurd rfl hab
    | a + 1, _ => simp at ha
    | 0, b + 1 => simp at hb
theorem GCalls.ownFrame {P : Program} {f : FuncId} {args : List GVal} {x : GObj} {R : GVal → GObj → Prop} (h : GCalls P f args [x] (fun g O' => ∃ x', O' = [x'] ∧ R g x')) {O : List GObj} (i : Nat) (hO : O[i]? = some x) (hc : clockOf O = none) (hcl : ∀ g x', R g x' → x'.isClock = false) (hx : x.isClock = false) :
    GCalls P f (args.map (GVal.place i)) O (fun g O' => ∃ x', O' = O.set i x' ∧ R g x') := by
  have hlt : i < O.length := (List.getElem?_eq_some_iff.1 hO).1
  refine ⟨h.1, fun E w vs hs ha => ?_⟩
  have ha' : ArgsR E vs args := ⟨by simpa using ha.1, fun k g hg => VR.place i (ha.2 k _ (by simp [hg]))⟩
  refine (h.2 E w vs (hs.only hO hx) ha').mono ?_
  rintro e w' ⟨v, E', O', g, rfl, h1, h2, h3, x', rfl, hR⟩
  have inX : ∀ b, InO E [x] b ↔ x.blk E = some b := fun b => ⟨fun ⟨k, y, hy, hb⟩ => by
    match k with
    | 0 => simp at hy; subst hy; exact hb
    | k + 1 => simp at hy, fun hb => ⟨0, x, rfl, hb⟩⟩
  have inX' : ∀ b, x'.blk E' = some b → x.blk E = some b ∨ w.heap.size ≤ b := fun b hb => by
    rcases h2.objs b ⟨0, x', rfl, hb⟩ with q | q
    · exact .inl ((inX b).1 q)
    · exact .inr q
  have get : ∀ (k : Nat) y, (O.set i x')[k]? = some y → (k = i ∧ y = x') ∨ (k ≠ i ∧ O[k]? = some y) := by
    intro k y hy
    rw [List.getElem?_set] at hy
    by_cases e : i = k
    · rw [if_pos e, if_pos hlt] at hy
      simp only [Option.some.injEq] at hy; exact .inl ⟨e.symm, hy.symm⟩
    · rw [if_neg e] at hy; exact .inr ⟨fun q => e q.symm, hy⟩
  have far : ∀ (k : Nat) y b, k ≠ i → O[k]? = some y → y.blk E = some b → ¬ InO E [x] b := fun k y b hk hy hb hin => hs.sep k i y x b hk hy hO hb ((inX b).1 hin)
  have hold : ∀ (k : Nat) y, k ≠ i → O[k]? = some y → Realized E' w' y ∧ y.blk E' = y.blk E := fun k y hk hy =>
    ⟨(hs.real k y hy).keep h2.ext (fun b hb => h2.heap b ((hs.real k y hy).blk_lt hb) (far k y b hk hy hb)) (fun b o v hb hv => by
      rcases h2.snap b o v hv with q | q | q
      · exact q
      · exact absurd ((hs.real k y hy).blk_lt hb) (by omega)
      · exact absurd q (far k y b hk hy hb)), GObj.blk_mono h2.ext (hs.real k y hy)⟩
  have hclk : clockOf (O.set i x') = none := by
    have := clockOf_set (obj' := x') hO hx (hcl _ _ hR)
    rw [this, hc]
  have hx'r : Realized E' w' x' := h1.real 0 x' rfl
  refine ⟨v, E', O.set i x', g, rfl, ⟨?_, h1.sealed, h1.one, fun k y hy => ?_, fun a b oa ob bb hab ha1 hb1 q1 q2 => ?_, h1.glob⟩, ⟨h2.ext, h2.os, h2.out, h2.size, fun b hb hn => h2.heap b hb fun hin => hn ⟨i, x, hO, (inX b).1 hin⟩, fun b o v hv => ?_, fun b hb => ?_, trivial⟩, h3, x', rfl, hR⟩
  · obtain ⟨n, _, q⟩ := h1.fin
    exact ⟨n, fun c hc' => (by rw [hclk] at hc'; cases hc'), q⟩
  · rcases get k y hy with ⟨rfl, rfl⟩ | ⟨hk, hy⟩
    · exact hx'r
    · exact (hold k y hk hy).1
  · rcases get a oa ha1 with ⟨rfl, rfl⟩ | ⟨hka, hya⟩ <;> rcases get b ob hb1 with ⟨rfl, rfl⟩ | ⟨hkb, hyb⟩
    · exact hab rfl
    · rw [(hold b ob hkb hyb).2] at q2
      rcases inX' bb q1 with e | e
      · exact hs.sep b a ob x bb hkb hyb hO q2 e
      · exact absurd ((hs.real b ob hyb).blk_lt q2) (by omega)
    · rw [(hold a oa hka hya).2] at q1
      rcases inX' bb q2 with e | e
      · exact hs.sep a b oa x bb hka hya hO q1 e
      · exact absurd ((hs.real a oa hya).blk_lt q1) (by omega)
    · rw [(hold a oa hka hya).2] at q1
      rw [(hold b ob hkb hyb).2] at q2
      exact hs.sep a b oa ob bb hab hya hyb q1 q2
  · rcases h2.snap b o v hv with q | q | q
    · exact .inl q
    · exact .inr (.inl q)
    · exact .inr (.inr ⟨i, x, hO, (inX b).1 q⟩)
  · obtain ⟨k, y, hy, hb⟩ := hb
    rcases get k y hy with ⟨rfl, rfl⟩ | ⟨hk, hy⟩
    · rcases inX' b hb with e | e
      · exact .inl ⟨_, x, hO, e⟩
      · exact .inr e
    · exact .inl ⟨k, y, hy, by rw [← (hold k y hk hy).2]; exact hb⟩
/-- what comes back, with objects at the end left behind -/
def dropTo (K : GVal → List GObj → Prop) (g : GVal) (O' : List GObj) : Prop := ∃ g' O1 X, O' = O1 ++ X ∧ leA g g' ∧ K g' O1
theorem GCalls.dropTo {P : Program} {f : FuncId} {args : List GVal} {O : List GObj} {K : GVal → List GObj → Prop} (h : GCalls P f args O (dropTo K)) : GCalls P f args O K :=
  (h.mono fun g O' ⟨g', O1, X, e, hl, hk⟩ => by
    subst e
    exact fun E v w hs hv => by
      obtain ⟨h1, h2⟩ := hs.drop
      exact ⟨g', O1, E, hk, h1, h2, hl.sound hv⟩ : GCalls P f args O (fun g O' => GInto g O' K)).into
end Gv
/- Contracts: small functions of ask. -/
set_option linter.unusedVariables false
set_option linter.unusedSimpArgs false
set_option maxRecDepth 20000
set_option maxHeartbeats 4000000
namespace Gv.Try
open Go Gv Go.Proofs
end Gv.Try
/- A dag over a table: what it holds; how it is made. -/
set_option linter.unusedVariables false
set_option linter.unusedSimpArgs false
set_option maxRecDepth 20000
set_option maxHeartbeats 4000000
namespace Gv.Try
open Go Gv Go.Proofs
/-- a dag's cells -/
abbrev dagG (L : List (List Seg)) (N : List Sp.S) (k : Int) : List GVal := [.slice (levsG L) .none, .slice (spl N) .none, .int .i64 k]
/-- what a method gives that leaves its dag as it is -/
def DPure (f : FuncId) (L : List (List Seg)) (N : List Sp.S) (ar : List GVal) (r : GVal) : Prop :=
  ∀ (st : Nat) (k : Int), GCalls Try.prog f (.ptr 0 st 0 0 :: ar) [.row st 3 [dagG L N k]] (fun g O' => ∃ x', O' = [x'] ∧ (g = r ∧ x' = .row st 3 [dagG L N k]))
theorem DPure.then {f : FuncId} {L : List (List Seg)} {N : List Sp.S} {ar : List GVal} {r : GVal} (h : DPure f L N ar r) {O : List GObj} {i st : Nat} {k : Int} {K : GVal → List GObj → Prop}
    (hk : K r O) (hO : O[i]? = some (.row st 3 [dagG L N k]) := by rfl) (hc : clockOf O = none := by rfl) (ha : ar.map (GVal.place i) = ar := by rfl) : GCalls Try.prog f (.ptr i st 0 0 :: ar) O K := by
  have := GCalls.ownFrame (h st k) i hO hc (fun g x' h => by rw [h.2]; rfl) rfl
  rw [List.map_cons, ha] at this
  refine this.mono ?_
  rintro g O' ⟨x', rfl, rfl, rfl⟩
  have e : O.set i (.row st 3 [dagG L N k]) = O := by
    apply List.ext_getElem (by simp)
    intro j h1 h2
    rw [List.getElem_set]
    split
    · rename_i e; subst e
      rw [List.getElem?_eq_getElem h2] at hO
      exact (Option.some.inj hO).symm
    · rfl
  rw [e]; exact hk
theorem aThere (L : List (List Seg)) (N s : List Sp.S) (t : Tag) (hl : s.length + N.length ≤ 4398046511104) (hs : Sp.Ok s) (hN : Sp.Ok N) : DPure 36 L N [.slice (spl s) t] (.slice (spl (Sp.bothS s N)) .none) := by
  intro st k
  refine h36.calls mixS (by simp) ?_
  simp only [gstart, s36, List.cons_append, List.nil_append, List.length_cons, List.length_nil, Nat.reduceAdd, Nat.reduceSub, List.replicate_succ, List.replicate_zero]
  simp +contextual -implicitDefEqProofs (maxSteps := 2000000) (disch := omega) only [optV, ↓loadV, ↓fieldAddrV, ↓sliceV, ↓nilV, bound, cutTag, hiTag, GVal.cells, grp, GVal.ofConst, ↓resV, resG, List.map, List.headD, List.take, List.drop, ↓reduceIte, Nat.reduceEqDiff, Nat.reduceAdd, Nat.reduceSub, Nat.reduceLeDiff, reduceCtorEq, implies_true, ne_eq, Tag.cap, List.replicate, allSolid, GVal.solid, Nat.reduceBEq, Nat.reduceMul, Nat.reduceLT, List.length_map, List.length_range, splice, vcA, ↓vcB, vcC, fbFf, e36]
  refine (sBoth s N t .none hl hs hN).then ?_ (by rfl)
  simp +contextual -implicitDefEqProofs (maxSteps := 2000000) (disch := omega) only [optV, ↓loadV, ↓fieldAddrV, ↓sliceV, ↓nilV, bound, cutTag, hiTag, GVal.cells, grp, GVal.ofConst, ↓resV, resG, List.map, List.headD, List.take, List.drop, ↓reduceIte, Nat.reduceEqDiff, Nat.reduceAdd, Nat.reduceSub, Nat.reduceLeDiff, reduceCtorEq, implies_true, ne_eq, Tag.cap, List.replicate, allSolid, GVal.solid, Nat.reduceBEq, Nat.reduceMul, Nat.reduceLT, List.length_map, List.length_range, splice, vcA, ↓vcB, vcC, fbFf, e36]
  exact ⟨_, rfl, rfl⟩
theorem aFlat (L : List (List Seg)) (N : List Sp.S) (h : 1 ≤ L.length) : DPure 52 L N [] (.slice (segsG (L.getD 0 [])) .none) := by
  intro st k
  have e := levsG_at L 0 (by omega)
  refine h52.calls mixS (by simp) ?_
  simp only [gstart, s52, List.cons_append, List.nil_append, List.length_cons, List.length_nil, Nat.reduceAdd, Nat.reduceSub, List.replicate_succ, List.replicate_zero]
  simp +contextual -implicitDefEqProofs (maxSteps := 2000000) (disch := omega) only [optV, ↓loadV, ↓fieldAddrV, ↓indexAddrV, ↓sliceV, ↓nilV, bound, cutTag, hiTag, GVal.cells, grp, GVal.ofConst, ↓resV, resG, List.map, List.headD, List.take, List.drop, ↓reduceIte, Nat.reduceEqDiff, Nat.reduceAdd, Nat.reduceSub, Nat.reduceLeDiff, reduceCtorEq, implies_true, ne_eq, Tag.cap, List.replicate, allSolid, GVal.solid, Nat.reduceBEq, Nat.reduceMul, Nat.reduceLT, List.length_map, List.length_range, splice, vcA, ↓vcB, vcC, fbFf, e52, levsG_length, e, Int.toNat_zero]
  exact ⟨by omega, by omega, _, rfl, rfl⟩
theorem aSteps (L : List (List Seg)) (N : List Sp.S) (k : Int) (st : Nat) : GCalls Try.prog 13 [.ptr 0 st 0 0] [.row st 3 [dagG L N k]] (fun g O' => g = .int .i64 k ∧ O' = [.row st 3 [dagG L N k]]) := by
  refine h13.calls mixS (by simp) ?_
  simp only [gstart, s13, List.cons_append, List.nil_append, List.length_cons, List.length_nil, Nat.reduceAdd, Nat.reduceSub, List.replicate_succ, List.replicate_zero]
  simp +contextual -implicitDefEqProofs (maxSteps := 2000000) (disch := omega) only [↓loadV, ↓fieldAddrV, ↓nilV, GVal.cells, grp, GVal.ofConst, ↓resV, resG, List.map, List.headD, List.take, List.drop, ↓reduceIte, Nat.reduceEqDiff, Nat.reduceAdd, Nat.reduceSub, Nat.reduceLeDiff, reduceCtorEq, implies_true, ne_eq, Tag.cap, List.replicate, allSolid, GVal.solid, Nat.reduceBEq, Nat.reduceMul, Nat.reduceLT, List.length_map, List.length_range, splice, vcA, ↓vcB, vcC, fbFf, e13]
theorem seg_mem {l : List Seg} {k : Nat} (h : k < l.length) : l.getD k default ∈ l := by
  rw [List.getD_eq_getElem?_getD, List.getElem?_eq_getElem h]; exact List.getElem_mem h
/-! what the flat segments are -/
structure FlatS (m o : List (List Int)) (s : Seg) : Prop where
  lo : 0 ≤ s.lo
  le : s.lo ≤ s.hi
  top : s.hi ≤ 1099511628776
  par : s.par = parI m o s.lo
  inn : ∀ id, s.lo ≤ id → id ≤ s.hi → inT m o id
  one : ∀ id, s.lo < id → id ≤ s.hi → parI m o id = [id - 1]
theorem okS_flat {m o : List (List Int)} : ∀ (l : List Seg) (n : Nat), okS m o n l → ∀ s ∈ l, FlatS m o s
  | [], n, h, s, hs => by simp at hs
  | a :: r, n, h, s, hs => by
    simp only [okS] at h
    obtain ⟨⟨h1, h2, h3⟩, h4, h5, h6, h7, h8⟩ := h
    rcases List.mem_cons.1 hs with rfl | hs
    · have hsp : split = 1099511627776 := rfl
      refine ⟨h1, h2, by omega, h5.symm, fun id q1 q2 => ?_, fun id q1 q2 => ?_⟩
      · obtain ⟨a, b, _⟩ := h4 (id - s.lo).toNat (by omega)
        show hasI m.length o.length id = true
        rw [← allI_hasI, show id = s.lo + ((id - s.lo).toNat : Int) by omega, ← b, List.getD_eq_getElem?_getD, List.getElem?_eq_getElem (by rw [allI_len]; exact a)]
        exact List.getElem_mem _
      · obtain ⟨_, _, c⟩ := h4 (id - s.lo).toNat (by omega)
        have c := c (by omega)
        rwa [show s.lo + ((id - s.lo).toNat : Int) = id by omega] at c
    · exact okS_flat r _ h8 s hs
/-- a dag over a table -/
structure DagOK (m o : List (List Int)) (L : List (List Seg)) : Prop where
  tok : TOK m o
  len1 : 1 ≤ L.length
  len4 : L.length ≤ 4
  oks : okS m o 0 (L.getD 0 [])
  segs : ∀ i, i < L.length → SegsOK (L.getD i [])
  okc : ∀ i, i < L.length → okC m o 0 (L.getD i []) (m.length + o.length)
  size : ∀ i, (L.getD i []).length ≤ 1000 ∧ sumP (L.getD i []) ≤ 100000
  lows : ∀ i, i < L.length → ∀ y ∈ L.getD i [], ∃ s ∈ L.getD 0 [], y.lo = s.lo
theorem UpOK.lows {size : Int} {l u : List Seg} (h : UpOK size l u) : ∀ y ∈ u, ∃ s ∈ l, y.lo = s.lo := by
  induction h with
  | nil => intro y hy; simp at hy
  | cons l u n h1 h2 h3 ih =>
    intro y hy
    obtain ⟨n1, n2, n3, n4⟩ := h1
    rcases List.mem_cons.1 hy with rfl | hy
    · refine ⟨(l.take n).getD 0 default, List.mem_of_mem_take (seg_mem (l := l.take n) (k := 0) ?_), rfl⟩
      rw [List.length_take]; omega
    · obtain ⟨s, hs, e⟩ := ih y hy
      exact ⟨s, List.mem_of_mem_drop hs, e⟩
theorem SegsOK.sorted : ∀ {l : List Seg}, SegsOK l → SortedS l
  | [], _ => trivial
  | s :: r, h => by
    have h1 := h.app (a := [s]) (b := r)
    refine ⟨?_, fun x hx => h1.2.2 s (by simp) x hx, SegsOK.sorted h1.2.1⟩
    have := okP_at h (s := s) (by simp)
    unfold okP at this
    simp only at this
    omega
theorem DagOK.of {m o : List (List Int)} (h : TOK m o) {l : List Seg} (hl : okS m o 0 l) (hn : l.length ≤ 1000) {size : Int} {L : List (List Seg)} (hL : LevOK size l L) : DagOK m o L := by
  have hsg := (okS_segs h.len _ 0 hl).1
  have hoC := okS_C h.len h.right _ 0 hl
  have hsegs := hL.segs hsg
  obtain ⟨L1, L2, L3, L4, L5⟩ := hL
  have hC : ∀ i, i < L.length → okC m o 0 (L.getD i []) (m.length + o.length) := by
    intro i
    induction i with
    | zero => intro _; rw [L3]; exact hoC
    | succ i ih => intro hi; exact (L4 i hi).1.okC h.len _ _ (hsegs i (by omega)) (ih (by omega))
  have hlow : ∀ i, i < L.length → ∀ y ∈ L.getD i [], ∃ s ∈ L.getD 0 [], y.lo = s.lo := by
    intro i
    induction i with
    | zero => intro _ y hy; exact ⟨y, hy, rfl⟩
    | succ i ih =>
      intro hi y hy
      obtain ⟨s, hs, e⟩ := (L4 i hi).1.lows y hy
      obtain ⟨q, hq, e2⟩ := ih (by omega) s hs
      exact ⟨q, hq, by rw [e, e2]⟩
  exact ⟨h, L1, L2, by rw [L3]; exact hl, hsegs, hC, L5, hlow⟩
theorem DagOK.flat {m o : List (List Int)} {L : List (List Seg)} (h : DagOK m o L) : ∀ s ∈ L.getD 0 [], FlatS m o s := okS_flat _ 0 h.oks
theorem allI_idx {a b : Nat} {x : Int} (h : x ∈ allI a b) : ∃ i, i < a + b ∧ (allI a b).getD i 0 = x := by
  obtain ⟨i, hi, e⟩ := List.getElem_of_mem h
  exact ⟨i, by rw [allI_len] at hi; exact hi, by rw [List.getD_eq_getElem?_getD, List.getElem?_eq_getElem hi]; exact e⟩
/-- an ID is in a segment of each level -/
theorem DagOK.seg {m o : List (List Int)} {L : List (List Seg)} (h : DagOK m o L) {i : Nat} (hi : i < L.length) {x : Int} (hx : inT m o x) : ∃ k, k < (L.getD i []).length ∧ inS x ((L.getD i []).getD k default) ∧ fnd x (L.getD i []) 0 = ((k : Int), true) := by
  obtain ⟨j, hj, e⟩ := allI_idx ((allI_hasI _ _ _).2 hx)
  obtain ⟨s, hs, h1, h2⟩ := okC_in m o _ _ _ (h.okc i hi) j (by omega) hj
  rw [e] at h1 h2
  obtain ⟨k, hk, ek⟩ := List.getElem_of_mem hs
  have ek' : (L.getD i []).getD k default = s := by rw [List.getD_eq_getElem?_getD, List.getElem?_eq_getElem hk]; exact ek
  refine ⟨k, hk, by rw [ek']; exact ⟨h1, h2⟩, ?_⟩
  rw [fnd_yes x (L.getD i []) k 0 hk (by rw [ek']; exact ⟨h1, h2⟩) (fun j hj hin => ?_), Nat.zero_add]
  have := (h.segs i hi).sorted.at_ j k hj hk
  rw [ek'] at this
  obtain ⟨_, h4⟩ := hin
  omega
theorem DagOK.segH {m o : List (List Int)} {L : List (List Seg)} (h : DagOK m o L) {i : Nat} (hi : i < L.length) {k : Nat} (hk : k < (L.getD i []).length) : SegH m o ((L.getD i []).getD k default) := by
  have := (okC_le m o _ _ _ (h.okc i hi)).2.2
  exact this _ (seg_mem hk)
/-- all IDs -/
def allN (L : List (List Seg)) : List Sp.S := Sp.nf (spansOf (L.getD 0 []))
theorem allN_rt (L : List (List Seg)) : Sp.Rt 0 (allN L) := Sp.nf_rt _
theorem DagOK.allHas {m o : List (List Int)} {L : List (List Seg)} (h : DagOK m o L) (n : Int) : Sp.has (allN L) n ↔ inT m o n := by
  unfold allN
  rw [Sp.nf_has]
  constructor
  · rintro ⟨p, hp, h0, h1, h2⟩
    obtain ⟨s, hs, rfl⟩ := List.mem_map.1 hp
    exact (h.flat s hs).inn n h1 h2
  · intro hn
    obtain ⟨k, hk, hin, _⟩ := h.seg (i := 0) (by have := h.len1; omega) hn
    refine ⟨_, List.mem_map.2 ⟨(L.getD 0 []).getD k default, seg_mem hk, rfl⟩, (inT_range h.tok hn).1, hin.1, hin.2⟩
theorem DagOK.allEq {m o : List (List Int)} {L : List (List Seg)} (h : DagOK m o L) : allN L = idsP m o (fun _ => True) := idsP_eq (allN_rt L) fun n => by rw [h.allHas]; simp
theorem DagOK.allOk {m o : List (List Int)} {L : List (List Seg)} (h : DagOK m o L) : Sp.Ok (allN L) := by rw [h.allEq]; exact idsP_ok h.tok _
theorem DagOK.allLen {m o : List (List Int)} {L : List (List Seg)} (h : DagOK m o L) : (allN L).length ≤ 1000 := by rw [h.allEq]; have := idsP_len m o (fun _ => True); have := h.tok.len; omega
/-- those of a set that are there -/
theorem DagOK.thereEq {m o : List (List Int)} {L : List (List Seg)} (h : DagOK m o L) (s : List Sp.S) : Sp.bothS s (allN L) = idsP m o (Sp.has s) :=
  idsP_eq (Sp.bothS_rt _ _) fun n => by rw [Sp.bothS_has, h.allHas]; exact and_comm
theorem spansOf_len (l : List Seg) : (spansOf l).length = l.length := by simp [spansOf]
theorem spansOf_take (l : List Seg) (k : Nat) (h : k < l.length) : spansOf (l.take (k + 1)) = spansOf (l.take k) ++ [((l.getD k default).lo, (l.getD k default).hi)] := by
  unfold spansOf
  rw [List.take_add_one, List.map_append]; simp [List.getD, h]
theorem rel35 (l : List Seg) (size : Int) (hl : l.length ≤ 1000) (hp : sumP l ≤ 100000) (hs : 2 ≤ size) (hok : Sp.Ok (spansOf l)) :
    GCalls Try.prog 35 [.slice (segsG l) .none, .int .i64 size] [] (fun g O' => ∃ st L, g = .ptr 0 st 0 0 ∧ O' = [.row st 3 [dagG L (Sp.nf (spansOf l)) 0]] ∧ LevOK size l L) := by
  refine GCalls.dropTo ?_
  refine h35.calls mixS (by simp) ?_
  simp only [gstart, s35, List.cons_append, List.nil_append, List.length_cons, List.length_nil, Nat.reduceAdd, Nat.reduceSub, List.replicate_succ, List.replicate_zero]
  simp +contextual -implicitDefEqProofs (maxSteps := 2000000) (disch := omega) only [drawC, ↓lenV, binV, ↓loadV, ↓storeV, ↓fieldAddrV, ↓indexAddrV, ↓allocV, ↓boxV, ↓buildV, ↓buildSliceV, ↓nilV, ↓appendV, ↓srcV, fillG, fillE, place, GVal.cells, grp, GVal.ofConst, ↓resV, resG, List.map, List.headD, List.take, List.drop, ↓reduceIte, Nat.reduceEqDiff, Nat.reduceAdd, Nat.reduceSub, Nat.reduceLeDiff, reduceCtorEq, implies_true, ne_eq, ↓asrcV, Tag.cap, List.replicate, allSolid, GVal.solid, Nat.reduceBEq, Nat.reduceMul, Nat.reduceLT, List.length_map, List.length_range, splice, vcA, ↓vcB, vcC, fbFf, e35]
  refine (rel21 l size hl hp hs).then ?_
  rintro g ⟨L, rfl, hL⟩
  simp +contextual -implicitDefEqProofs (maxSteps := 2000000) (disch := omega) only [drawC, ↓lenV, binV, ↓loadV, ↓storeV, ↓fieldAddrV, ↓indexAddrV, ↓allocV, ↓boxV, ↓buildV, ↓buildSliceV, ↓nilV, ↓appendV, ↓srcV, fillG, fillE, place, GVal.cells, grp, GVal.ofConst, ↓resV, resG, List.map, List.headD, List.take, List.drop, ↓reduceIte, Nat.reduceEqDiff, Nat.reduceAdd, Nat.reduceSub, Nat.reduceLeDiff, reduceCtorEq, implies_true, ne_eq, ↓asrcV, Tag.cap, List.replicate, allSolid, GVal.solid, Nat.reduceBEq, Nat.reduceMul, Nat.reduceLT, List.length_map, List.length_range, splice, vcA, ↓vcB, vcC, fbFf, e35]
  intro st
  have hsz : (spansOf l).length = l.length := spansOf_len l
  refine vcSLoop_by (ι := { p : Nat × Nat // p.1 ≤ l.length }) (fun p => ⟨[.any, .any, .any, .any, .any, .ptr 0 st 0 0, .any, .any, .any, .any, .any, .any, .any, .slice (segsG l) .none, .int .i64 l.length, .int .i64 (p.1.1 : Nat)] ++ List.replicate 27 .any, [.row st 3 [[.slice (levsG L) .none, .slice (spl (spansOf (l.take p.1.1))) (.tok 1 p.1.2), .int .i64 0]], .tok p.1.2 2]⟩) (fun p => l.length - p.1.1) ?_ ?_
  · refine Into.cellTok 0 1 2 [] (tg := .nil) rfl rfl rfl rfl ?_
    simp +contextual -implicitDefEqProofs (maxSteps := 2000000) (disch := omega) only [drawC, ↓lenV, binV, ↓loadV, ↓storeV, ↓fieldAddrV, ↓indexAddrV, ↓allocV, ↓boxV, ↓buildV, ↓buildSliceV, ↓nilV, ↓appendV, ↓srcV, fillG, fillE, place, GVal.cells, grp, GVal.ofConst, ↓resV, resG, List.map, List.headD, List.take, List.drop, ↓reduceIte, Nat.reduceEqDiff, Nat.reduceAdd, Nat.reduceSub, Nat.reduceLeDiff, reduceCtorEq, implies_true, ne_eq, ↓asrcV, Tag.cap, List.replicate, allSolid, GVal.solid, Nat.reduceBEq, Nat.reduceMul, Nat.reduceLT, List.length_map, List.length_range, splice, vcA, ↓vcB, vcC, fbFf, e35]
    intro u
    exact Into.first ⟨(0, u), by omega⟩ ⟨[], by simp [spansOf, spl]⟩ (by simp [WL, leG_self, leG_any, segsG_length])
  · rintro ⟨⟨k, u⟩, hk⟩
    change k ≤ l.length at hk
    by_cases h : k < l.length
    · have d0 : ((k : Int) < (l.length : Int)) = True := eq_true (by omega)
      have eS := segsG_at l k h
      have eN := spansOf_take l k h
      have lk : (spansOf (l.take k)).length = k := by rw [spansOf_len, List.length_take]; omega
      generalize l.getD k default = s at *
      generalize spansOf (l.take k) = A at *
      simp +contextual -implicitDefEqProofs (maxSteps := 2000000) (disch := omega) only [drawC, ↓lenV, binV, ↓loadV, ↓storeV, ↓fieldAddrV, ↓indexAddrV, ↓allocV, ↓boxV, ↓buildV, ↓buildSliceV, ↓nilV, ↓appendV, ↓srcV, fillG, fillE, place, GVal.cells, grp, GVal.ofConst, ↓resV, resG, List.map, List.headD, List.take, List.drop, ↓reduceIte, Nat.reduceEqDiff, Nat.reduceAdd, Nat.reduceSub, Nat.reduceLeDiff, reduceCtorEq, implies_true, ne_eq, ↓asrcV, Tag.cap, List.replicate, allSolid, GVal.solid, Nat.reduceBEq, Nat.reduceMul, Nat.reduceLT, List.length_map, List.length_range, splice, vcA, ↓vcB, vcC, fbFf, e35, segsG_length, d0, eS, segG, spl_length, all_spl, lk]
      refine ⟨by omega, fun st1 => ⟨by omega, by omega, fun st2 => ?_⟩⟩
      exact Into.at ⟨(k + 1, st2), by show k + 1 ≤ _; omega⟩ (by show _ < _; simp; omega) ⟨[.row st1 5 [segG s]], by simp [eN, spl_append, spl_one, spG, segG]⟩ (by simp [WL, leG_self, leG_any, leG_int])
    · have d0 : ((k : Int) < (l.length : Int)) = False := eq_false (by omega)
      have e : k = l.length := by omega
      subst e
      simp +contextual -implicitDefEqProofs (maxSteps := 2000000) (disch := omega) only [drawC, ↓lenV, binV, ↓loadV, ↓storeV, ↓fieldAddrV, ↓indexAddrV, ↓allocV, ↓boxV, ↓buildV, ↓buildSliceV, ↓nilV, ↓appendV, ↓srcV, fillG, fillE, place, GVal.cells, grp, GVal.ofConst, ↓resV, resG, List.map, List.headD, List.take, List.drop, ↓reduceIte, Nat.reduceEqDiff, Nat.reduceAdd, Nat.reduceSub, Nat.reduceLeDiff, reduceCtorEq, implies_true, ne_eq, ↓asrcV, Tag.cap, List.replicate, allSolid, GVal.solid, Nat.reduceBEq, Nat.reduceMul, Nat.reduceLT, List.length_map, List.length_range, splice, vcA, ↓vcB, vcC, fbFf, e35, segsG_length, d0, List.take_length]
      refine (sMake (spansOf l) _ (by omega) hok).then ?_ (by rfl)
      simp +contextual -implicitDefEqProofs (maxSteps := 2000000) (disch := omega) only [drawC, ↓lenV, binV, ↓loadV, ↓storeV, ↓fieldAddrV, ↓indexAddrV, ↓allocV, ↓boxV, ↓buildV, ↓buildSliceV, ↓nilV, ↓appendV, ↓srcV, fillG, fillE, place, GVal.cells, grp, GVal.ofConst, ↓resV, resG, List.map, List.headD, List.take, List.drop, ↓reduceIte, Nat.reduceEqDiff, Nat.reduceAdd, Nat.reduceSub, Nat.reduceLeDiff, reduceCtorEq, implies_true, ne_eq, ↓asrcV, Tag.cap, List.replicate, allSolid, GVal.solid, Nat.reduceBEq, Nat.reduceMul, Nat.reduceLT, List.length_map, List.length_range, splice, vcA, ↓vcB, vcC, fbFf, e35]
      exact ⟨.ptr 0 st 0 0, [.row st 3 [dagG L (Sp.nf (spansOf l)) 0]], [.tok u 2], rfl, by unfold leA; simp [leG_self], st, L, rfl, rfl, hL⟩
theorem buildI_len {m o : List (List Int)} (h : TOK m o) : (buildI m o).length ≤ 1000 := by
  have l1 := (lrun_len 0 m m.length).1
  have l2 := (lrun_len split o o.length).1
  have := h.len
  rw [buildI, if_pos h.right, List.length_append, linesI, linesI]; omega
theorem flat_par4 {m o : List (List Int)} (h : TOK m o) {s : Seg} (hs : FlatS m o s) : s.par.length ≤ 4 := by
  rw [hs.par]; exact okRow_len h.right _
theorem sumP_le4 : ∀ (l : List Seg), (∀ s ∈ l, s.par.length ≤ 4) → sumP l ≤ 4 * l.length
  | [], _ => by simp [sumP]
  | a :: l, h => by
    have := sumP_le4 l fun s hs => h s (by simp [hs])
    have := h a (by simp)
    simp only [sumP, List.length_cons]; omega
theorem okS_ok {m o : List (List Int)} {l : List Seg} (h : okS m o 0 l) : Sp.Ok (spansOf l) := fun p hp => by
  obtain ⟨s, hs, rfl⟩ := List.mem_map.1 hp
  have f := okS_flat l 0 h s hs
  have := f.lo
  have := f.le
  have := f.top
  simp only
  omega
theorem aOver {m o : List (List Int)} (h : TOK m o) {l : List Seg} (hl : okS m o 0 l) (hn : l.length ≤ 1000) (size : Int) (hs : 2 ≤ size) :
    GCalls Try.prog 35 [.slice (segsG l) .none, .int .i64 size] [] (fun g O' => ∃ st L, g = .ptr 0 st 0 0 ∧ O' = [.row st 3 [dagG L (allN L) 0]] ∧ DagOK m o L ∧ LevOK size l L) := by
  have hp : sumP l ≤ 100000 := by
    have := sumP_le4 l fun s hs => flat_par4 h (okS_flat l 0 hl s hs)
    omega
  refine (rel35 l size hn hp hs (okS_ok hl)).mono ?_
  rintro g O' ⟨st, L, rfl, rfl, hL⟩
  have e : L.getD 0 [] = l := hL.2.2.1
  exact ⟨st, L, rfl, by rw [allN, e], .of h hl hn hL, hL⟩
theorem aNew {m o : List (List Int)} (h : TOK m o) (tm to : Tag) (size : Int) (hs : 2 ≤ size) :
    GCalls Try.prog 9 [.agg [.slice (tabG m) tm, .slice (tabG o) to], .int .i64 size] [] (fun g O' => ∃ st L, g = .ptr 0 st 0 0 ∧ O' = [.row st 3 [dagG L (allN L) 0]] ∧ DagOK m o L ∧ LevOK size (buildI m o) L) := by
  have hl := h.len
  have hm4 : ∀ p ∈ m, p.length ≤ 17592186044416 := fun p hp => by
    have hr := h.right; rw [rightI, Bool.and_eq_true] at hr; have := okG_row hr.1 p hp; omega
  have ho4 : ∀ p ∈ o, p.length ≤ 17592186044416 := fun p hp => by
    have hr := h.right; rw [rightI, Bool.and_eq_true] at hr; have := okG_row hr.2 p hp; omega
  have hoS := build_okS m o (by omega) (by omega) h.right
  have c34 := spec34 m o tm to (by omega) (by omega) hm4 ho4
  rw [h.right] at c34
  refine h9.calls mixS (by simp) ?_
  simp only [gstart, s9, List.cons_append, List.nil_append, List.length_cons, List.length_nil, Nat.reduceAdd, Nat.reduceSub, List.replicate_succ, List.replicate_zero]
  simp +contextual -implicitDefEqProofs (maxSteps := 2000000) (disch := omega) only [binV, ↓unV, ↓loadV, ↓boxV, GVal.cells, grp, GVal.ofConst, ↓resV, resG, List.map, List.headD, List.take, List.drop, ↓reduceIte, Nat.reduceEqDiff, Nat.reduceAdd, Nat.reduceSub, Nat.reduceLeDiff, reduceCtorEq, implies_true, ne_eq, Tag.cap, List.replicate, allSolid, GVal.solid, Nat.reduceBEq, Nat.reduceMul, Nat.reduceLT, List.length_map, List.length_range, splice, vcA, ↓vcB, vcC, fbFf, e9]
  refine c34.then ?_ (by rfl)
  have d0 : (size < 2) = False := eq_false (by omega)
  simp +contextual -implicitDefEqProofs (maxSteps := 2000000) (disch := omega) only [binV, ↓unV, ↓loadV, ↓boxV, GVal.cells, grp, GVal.ofConst, ↓resV, resG, List.map, List.headD, List.take, List.drop, ↓reduceIte, Nat.reduceEqDiff, Nat.reduceAdd, Nat.reduceSub, Nat.reduceLeDiff, reduceCtorEq, implies_true, ne_eq, Tag.cap, List.replicate, allSolid, GVal.solid, Nat.reduceBEq, Nat.reduceMul, Nat.reduceLT, List.length_map, List.length_range, splice, vcA, ↓vcB, vcC, fbFf, e9, d0]
  refine (spec12 m o tm to (by omega) (by omega) hm4 ho4).then ?_ (by rfl)
  simp +contextual -implicitDefEqProofs (maxSteps := 2000000) (disch := omega) only [binV, ↓unV, ↓loadV, ↓boxV, GVal.cells, grp, GVal.ofConst, ↓resV, resG, List.map, List.headD, List.take, List.drop, ↓reduceIte, Nat.reduceEqDiff, Nat.reduceAdd, Nat.reduceSub, Nat.reduceLeDiff, reduceCtorEq, implies_true, ne_eq, Tag.cap, List.replicate, allSolid, GVal.solid, Nat.reduceBEq, Nat.reduceMul, Nat.reduceLT, List.length_map, List.length_range, splice, vcA, ↓vcB, vcC, fbFf, e9, d0]
  refine (aOver h hoS (buildI_len h) size hs).mono ?_
  rintro g O' ⟨st, L, rfl, rfl, h1, h2⟩
  simp +contextual -implicitDefEqProofs (maxSteps := 2000000) (disch := omega) only [binV, ↓unV, ↓loadV, ↓boxV, GVal.cells, grp, GVal.ofConst, ↓resV, resG, List.map, List.headD, List.take, List.drop, ↓reduceIte, Nat.reduceEqDiff, Nat.reduceAdd, Nat.reduceSub, Nat.reduceLeDiff, reduceCtorEq, implies_true, ne_eq, Tag.cap, List.replicate, allSolid, GVal.solid, Nat.reduceBEq, Nat.reduceMul, Nat.reduceLT, List.length_map, List.length_range, splice, vcA, ↓vcB, vcC, fbFf, e9]
  exact ⟨st, L, rfl, rfl, h1, h2⟩
end Gv.Try
/- Contracts: parents and children of a set. -/
set_option linter.unusedVariables false
set_option linter.unusedSimpArgs false
set_option maxRecDepth 20000
set_option maxHeartbeats 8000000
namespace Gv.Try
open Go Gv Go.Proofs
theorem getD_bounds {l : List Int} {a b : Int} (h : ∀ x ∈ l, a ≤ x ∧ x ≤ b) (ha : a ≤ 0) (hb : 0 ≤ b) (i : Nat) : a ≤ l.getD i 0 ∧ l.getD i 0 ≤ b := by
  by_cases hi : i < l.length
  · exact h _ (getD_mem hi)
  · rw [List.getD_eq_getElem?_getD, List.getElem?_eq_none (by omega)]; exact ⟨ha, hb⟩
theorem idsOk {m o : List (List Int)} (h : TOK m o) {l : List Int} (hl : ∀ p ∈ l, inT m o p) : Sp.Ok (l.map fun i => (i, i)) := fun s hs => by
  obtain ⟨i, hi, rfl⟩ := List.mem_map.1 hs
  have := inT_range h (hl i hi)
  simp only; omega
end Gv.Try
/- Guards and tests without a match: the kernel need not look into what is left out. -/
set_option linter.unusedVariables false
namespace Gv
open Go
def guardV (v : GVal) (A B C : Prop) : Prop := match v with
  | .bool b => gif b A B
  | .lit (.tuple _) => C
  | _ => False
@[congr] theorem cg_guardV {v v' : GVal} {A B C : Prop} (h : v = v') : guardV v A B C = guardV v' A B C := by subst h; rfl
def condV (v : GVal) (A B : Prop) : Prop := match v with
  | .bool b => gif b A B
  | .ubool => A ∧ B
  | _ => False
@[congr] theorem cg_condV {v v' : GVal} {A B : Prop} (h : v = v') : condV v A B = condV v' A B := by subst h; rfl
theorem nil_ptr (a b c d : Nat) (K : GVal → Prop) : nilV (.ptr a b c d) K = K (.ptr a b c d) := rfl
theorem nil_ref (cs : List GVal) (K : GVal → Prop) : nilV (.ref cs) K = K (.ref cs) := rfl
section
variable (P : Program) (R : List Nat) (Q : Ex → GSt → Prop) (st : GSt)
end
end Gv
/- Contracts: the greatest segment of an ID; ancestors. -/
set_option linter.unusedVariables false
set_option linter.unusedSimpArgs false
set_option maxRecDepth 20000
set_option maxHeartbeats 8000000
namespace Gv.Try
open Go Gv Go.Proofs
/-- a segment that tells an ID's ancestors -/
structure Tells (m o : List (List Int)) (x : Seg) (id : Int) : Prop where
  lo : 0 ≤ x.lo
  le : x.lo ≤ id
  hi : id ≤ x.hi
  lead : ∀ y, x.lo ≤ y → y ≤ id → Leads m o y id
  all : ∀ y, x.lo ≤ y → y ≤ id → ∀ p ∈ parI m o y, p < x.lo → p ∈ x.par
  par : ∀ p ∈ x.par, inT m o p ∧ Leads m o p id
  len : x.par.length ≤ 1000
  top : x.hi ≤ 1099511628776
theorem SegH.tells {m o : List (List Int)} (h : TOK m o) {x : Seg} (hx : SegH m o x) : Tells m o x x.hi := by
  have h1 := inT_range h (hx.has x.lo (Int.le_refl _) hx.le)
  have h2 := inT_range h (hx.has x.hi hx.le (Int.le_refl _))
  have hp : ∀ p ∈ x.par, inT m o p ∧ Leads m o p x.hi := fun p hp => by
    obtain ⟨_, y, y1, y2, y3⟩ := hx.from_ p hp
    exact ⟨(h.par y3).2, (Leads.par y3 (h.par y3).2).trans (hx.lead y y1 y2)⟩
  refine ⟨h1.1, hx.le, Int.le_refl _, hx.lead, hx.all, hp, ?_, h2.2⟩
  have := nodup_len x.par (allI m.length o.length) hx.nodup fun p q => (allI_hasI _ _ _).2 (hp p q).1
  have := allI_len m.length o.length
  have := h.len
  omega
theorem FlatS.leads {m o : List (List Int)} {x : Seg} (hx : FlatS m o x) {id : Int} (h2 : id ≤ x.hi) : ∀ (k : Nat), x.lo ≤ id - k → Leads m o (id - k) id := by
  intro k
  induction k with
  | zero => intro _; simp; exact Leads.refl m o id
  | succ k ih =>
    intro hk
    refine Leads.trans ?_ (ih (by omega))
    refine Leads.par ?_ (hx.inn _ (by omega) (by omega))
    rw [hx.one (id - k) (by omega) (by omega)]; simp; omega
theorem FlatS.tells {m o : List (List Int)} (h : TOK m o) {x : Seg} (hx : FlatS m o x) {id : Int} (h1 : x.lo ≤ id) (h2 : id ≤ x.hi) : Tells m o x id := by
  have hl : ∀ y, x.lo ≤ y → y ≤ id → Leads m o y id := fun y q1 q2 => by
    have := hx.leads h2 (id - y).toNat (by omega)
    rwa [show id - ((id - y).toNat : Int) = y by omega] at this
  refine ⟨hx.lo, h1, h2, hl, fun y q1 q2 p hp q3 => ?_, fun p hp => ?_, by have := flat_par4 h hx; omega, hx.top⟩
  · by_cases e : y = x.lo
    · rw [e] at hp; rw [hx.par]; exact hp
    · rw [hx.one y (by omega) (by omega)] at hp
      simp at hp; omega
  · rw [hx.par] at hp
    exact ⟨(h.par hp).2, (Leads.par hp (h.par hp).2).trans (hl x.lo (Int.le_refl _) h1)⟩
theorem aFind {m o : List (List Int)} {L : List (List Seg)} (h : DagOK m o L) (i : Nat) (hi : i < L.length) (id : Int) : GPure Try.prog 64 [.slice (segsG (L.getD i [])) .none, .int .i64 id] (.tuple [.int .i64 (fnd id (L.getD i []) 0).1, .bool (fnd id (L.getD i []) 0).2]) :=
  spec33 _ _ id _ (by have := (h.size i).1; omega) fun k hk => ends_fnd (h.segs i hi).sorted id k hk
theorem DagOK.below {m o : List (List Int)} {L : List (List Seg)} (h : DagOK m o L) {i : Nat} (hi : i < L.length) {x : Seg} (hx : x ∈ L.getD i []) {id : Int} (hl : x.lo ≤ id) : ∀ s ∈ L.getD 0 [], s.lo ≤ id → id ≤ s.hi → x.lo ≤ s.lo := by
  intro s hs h1 h2
  obtain ⟨q, hq, e⟩ := h.lows i hi x hx
  rw [e]
  obtain ⟨a, ha, ea⟩ := List.getElem_of_mem hs
  obtain ⟨b, hb, eb⟩ := List.getElem_of_mem hq
  have ea' : (L.getD 0 []).getD a default = s := by rw [List.getD_eq_getElem?_getD, List.getElem?_eq_getElem ha]; exact ea
  have eb' : (L.getD 0 []).getD b default = q := by rw [List.getD_eq_getElem?_getD, List.getElem?_eq_getElem hb]; exact eb
  have so := (h.segs 0 (by have := h.len1; omega)).sorted
  by_cases c : a < b
  · have := so.at_ a b c hb
    rw [ea', eb'] at this
    omega
  · by_cases c2 : b < a
    · have := so.at_ b a c2 ha
      have := (h.flat q hq).le
      rw [ea', eb'] at *
      omega
    · have : a = b := by omega
      subst this
      rw [← ea', ← eb']; omega
theorem aWhole {m o : List (List Int)} {L : List (List Seg)} (h : DagOK m o L) (id : Int) (hid : inT m o id) (st : Nat) (kk : Int) (hk : 0 ≤ kk ∧ kk ≤ 1000000000) :
    GCalls Try.prog 38 [.ptr 0 st 0 0, .int .i64 id] [.row st 3 [dagG L (allN L) kk]] (fun g O' => ∃ x', O' = [x'] ∧ ∃ x k', g = .agg (segG x) ∧ x' = .row st 3 [dagG L (allN L) k'] ∧ kk + 1 ≤ k' ∧ k' ≤ kk + L.length ∧ Tells m o x id ∧ ∀ s ∈ L.getD 0 [], s.lo ≤ id → id ≤ s.hi → x.lo ≤ s.lo) := by
  have hL1 := h.len1
  have hL4 := h.len4
  have hidr := inT_range h.tok hid
  refine GCalls.dropTo ?_
  refine h38.calls mixS (by simp) ?_
  simp only [gstart, s38, List.cons_append, List.nil_append, List.length_cons, List.length_nil, Nat.reduceAdd, Nat.reduceSub, List.replicate_succ, List.replicate_zero]
  simp +contextual -implicitDefEqProofs (maxSteps := 2000000) (disch := omega) only [↓lenV, binV, ↓loadV, ↓storeV, ↓fieldAddrV, ↓indexAddrV, ↓allocV, ↓nil_ptr, ↓nil_ref, GVal.cells, grp, GVal.ofConst, ↓resV, resG, List.map, List.headD, List.take, List.drop, ↓reduceIte, Nat.reduceEqDiff, Nat.reduceAdd, Nat.reduceSub, Nat.reduceLeDiff, reduceCtorEq, implies_true, ne_eq, aggV, Tag.cap, List.replicate, allSolid, GVal.solid, Nat.reduceBEq, Nat.reduceMul, Nat.reduceLT, List.length_map, List.length_range, splice, vcA, ↓vcB, vcC, fbFf, e38, levsG_length]
  intro w
  refine vcSLoop_by (ι := { p : Nat × Int // p.1 < L.length ∧ kk ≤ p.2 ∧ p.2 + p.1 + 1 ≤ kk + L.length }) (fun p => ⟨[.ptr 0 st 0 0, .int .i64 id, .any, .any, .ptr 1 w 0 0, .int .i64 (p.1.1 : Nat)] ++ List.replicate 78 .any, [.row st 3 [dagG L (allN L) p.1.2], .row w 5 [[.int .i64 0, .int .i64 0, .slice [] .nil, .bool false, .bool false]]]⟩) (fun p => p.1.1) ?_ ?_
  · exact Into.first ⟨(L.length - 1, kk), by show L.length - 1 < _; omega, Int.le_refl _, by show kk + ((L.length - 1 : Nat) : Int) + 1 ≤ _; omega⟩ ⟨[], by simp⟩ (by simp [WL, leG_self, leG_any, leG_int] <;> omega)
  · rintro ⟨⟨i, k'⟩, hi, hk1, hk2⟩
    change i < L.length at hi
    change kk ≤ k' at hk1
    change k' + i + 1 ≤ kk + L.length at hk2
    obtain ⟨j, hj, hin, hfd⟩ := h.seg hi hid
    obtain ⟨j0, hj0, hin0, hfd0⟩ := h.seg (i := 0) (by omega) hid
    have cF := aFind h i hi id
    have cF0 := aFind h 0 (by omega) id
    rw [hfd] at cF
    rw [hfd0] at cF0
    simp only [] at cF cF0
    have eL := levsG_at L i hi
    have hsH := h.segH hi hj
    have hF0 := h.flat _ (seg_mem hj0)
    have eS := segsG_at (L.getD i []) j hj
    have eS0 := segsG_at (L.getD 0 []) j0 hj0
    obtain ⟨h1, h2⟩ := hin
    obtain ⟨h3, h4⟩ := hin0
    have T0 := hF0.tells h.tok h3 h4
    have TH := hsH.tells h.tok
    have W0 := h.below (by omega) (seg_mem hj0) h3
    have WH := h.below hi (seg_mem hj) h1
    clear hsH hF0 hfd hfd0
    generalize (L.getD i []).getD j default = x at *
    generalize (L.getD 0 []).getD j0 default = x0 at *
    by_cases h0 : 0 < i
    · have d0 : ((0 : Int) < (i : Int)) = True := eq_true (by omega)
      by_cases e : x.hi = id
      · have d1 : (x.hi == id) = true := by simpa using e
        simp +contextual -implicitDefEqProofs (maxSteps := 2000000) (disch := omega) only [↓lenV, binV, ↓loadV, ↓storeV, ↓fieldAddrV, ↓indexAddrV, ↓allocV, ↓nil_ptr, ↓nil_ref, GVal.cells, grp, GVal.ofConst, ↓resV, resG, List.map, List.headD, List.take, List.drop, ↓reduceIte, Nat.reduceEqDiff, Nat.reduceAdd, Nat.reduceSub, Nat.reduceLeDiff, reduceCtorEq, implies_true, ne_eq, aggV, Tag.cap, List.replicate, allSolid, GVal.solid, Nat.reduceBEq, Nat.reduceMul, Nat.reduceLT, List.length_map, List.length_range, splice, vcA, ↓vcB, vcC, fbFf, e38, levsG_length, d0, eL]
        refine ⟨by omega, by omega, ?_⟩
        refine cF.then ?_ (by rfl)
        simp +contextual -implicitDefEqProofs (maxSteps := 2000000) (disch := omega) only [↓lenV, binV, ↓loadV, ↓storeV, ↓fieldAddrV, ↓indexAddrV, ↓allocV, ↓nil_ptr, ↓nil_ref, GVal.cells, grp, GVal.ofConst, ↓resV, resG, List.map, List.headD, List.take, List.drop, ↓reduceIte, Nat.reduceEqDiff, Nat.reduceAdd, Nat.reduceSub, Nat.reduceLeDiff, reduceCtorEq, implies_true, ne_eq, aggV, Tag.cap, List.replicate, allSolid, GVal.solid, Nat.reduceBEq, Nat.reduceMul, Nat.reduceLT, List.length_map, List.length_range, splice, vcA, ↓vcB, vcC, fbFf, e38, levsG_length, d0, eL, segsG_length, eS, segG, d1]
        refine ⟨by omega, by omega, by omega, by omega, by omega, by omega, by omega, by omega, ?_⟩
        exact ⟨.agg (segG x), [.row st 3 [dagG L (allN L) (k' + 1)]], [_], rfl, by rw [leA_agg]; simp [segG, WL, leG_self], _, rfl, x, k' + 1, rfl, rfl, by omega, by omega, by rw [← e]; exact TH, WH⟩
      · have d1 : (x.hi == id) = false := by simpa using e
        simp +contextual -implicitDefEqProofs (maxSteps := 2000000) (disch := omega) only [↓lenV, binV, ↓loadV, ↓storeV, ↓fieldAddrV, ↓indexAddrV, ↓allocV, ↓nil_ptr, ↓nil_ref, GVal.cells, grp, GVal.ofConst, ↓resV, resG, List.map, List.headD, List.take, List.drop, ↓reduceIte, Nat.reduceEqDiff, Nat.reduceAdd, Nat.reduceSub, Nat.reduceLeDiff, reduceCtorEq, implies_true, ne_eq, aggV, Tag.cap, List.replicate, allSolid, GVal.solid, Nat.reduceBEq, Nat.reduceMul, Nat.reduceLT, List.length_map, List.length_range, splice, vcA, ↓vcB, vcC, fbFf, e38, levsG_length, d0, eL]
        refine ⟨by omega, by omega, ?_⟩
        refine cF.then ?_ (by rfl)
        simp +contextual -implicitDefEqProofs (maxSteps := 2000000) (disch := omega) only [↓lenV, binV, ↓loadV, ↓storeV, ↓fieldAddrV, ↓indexAddrV, ↓allocV, ↓nil_ptr, ↓nil_ref, GVal.cells, grp, GVal.ofConst, ↓resV, resG, List.map, List.headD, List.take, List.drop, ↓reduceIte, Nat.reduceEqDiff, Nat.reduceAdd, Nat.reduceSub, Nat.reduceLeDiff, reduceCtorEq, implies_true, ne_eq, aggV, Tag.cap, List.replicate, allSolid, GVal.solid, Nat.reduceBEq, Nat.reduceMul, Nat.reduceLT, List.length_map, List.length_range, splice, vcA, ↓vcB, vcC, fbFf, e38, levsG_length, d0, eL, segsG_length, eS, segG, d1]
        refine ⟨by omega, by omega, by omega, by omega, ?_⟩
        exact Into.at ⟨(i - 1, k' + 1), by show i - 1 < _; omega, by show kk ≤ k' + 1; omega, by show k' + 1 + ((i - 1 : Nat) : Int) + 1 ≤ _; omega⟩ (by show i - 1 < i; omega) ⟨[], rfl⟩ (by simp [WL, leG_self, leG_any, leG_int] <;> omega)
    · have d0 : ((0 : Int) < (i : Int)) = False := eq_false (by omega)
      simp +contextual -implicitDefEqProofs (maxSteps := 2000000) (disch := omega) only [↓lenV, binV, ↓loadV, ↓storeV, ↓fieldAddrV, ↓indexAddrV, ↓allocV, ↓nil_ptr, ↓nil_ref, GVal.cells, grp, GVal.ofConst, ↓resV, resG, List.map, List.headD, List.take, List.drop, ↓reduceIte, Nat.reduceEqDiff, Nat.reduceAdd, Nat.reduceSub, Nat.reduceLeDiff, reduceCtorEq, implies_true, ne_eq, aggV, Tag.cap, List.replicate, allSolid, GVal.solid, Nat.reduceBEq, Nat.reduceMul, Nat.reduceLT, List.length_map, List.length_range, splice, vcA, ↓vcB, vcC, fbFf, e38, levsG_length, d0]
      refine (aFlat L (allN L) h.len1).then ?_
      simp +contextual -implicitDefEqProofs (maxSteps := 2000000) (disch := omega) only [↓lenV, binV, ↓loadV, ↓storeV, ↓fieldAddrV, ↓indexAddrV, ↓allocV, ↓nil_ptr, ↓nil_ref, GVal.cells, grp, GVal.ofConst, ↓resV, resG, List.map, List.headD, List.take, List.drop, ↓reduceIte, Nat.reduceEqDiff, Nat.reduceAdd, Nat.reduceSub, Nat.reduceLeDiff, reduceCtorEq, implies_true, ne_eq, aggV, Tag.cap, List.replicate, allSolid, GVal.solid, Nat.reduceBEq, Nat.reduceMul, Nat.reduceLT, List.length_map, List.length_range, splice, vcA, ↓vcB, vcC, fbFf, e38, levsG_length, d0]
      refine cF0.then ?_ (by rfl)
      simp +contextual -implicitDefEqProofs (maxSteps := 2000000) (disch := omega) only [↓lenV, binV, ↓loadV, ↓storeV, ↓fieldAddrV, ↓indexAddrV, ↓allocV, ↓nil_ptr, ↓nil_ref, GVal.cells, grp, GVal.ofConst, ↓resV, resG, List.map, List.headD, List.take, List.drop, ↓reduceIte, Nat.reduceEqDiff, Nat.reduceAdd, Nat.reduceSub, Nat.reduceLeDiff, reduceCtorEq, implies_true, ne_eq, aggV, Tag.cap, List.replicate, allSolid, GVal.solid, Nat.reduceBEq, Nat.reduceMul, Nat.reduceLT, List.length_map, List.length_range, splice, vcA, ↓vcB, vcC, fbFf, e38, levsG_length, d0, ext_0, ext_1]
      refine (aFlat L (allN L) h.len1).then ?_
      simp +contextual -implicitDefEqProofs (maxSteps := 2000000) (disch := omega) only [↓lenV, binV, ↓loadV, ↓storeV, ↓fieldAddrV, ↓indexAddrV, ↓allocV, ↓nil_ptr, ↓nil_ref, GVal.cells, grp, GVal.ofConst, ↓resV, resG, List.map, List.headD, List.take, List.drop, ↓reduceIte, Nat.reduceEqDiff, Nat.reduceAdd, Nat.reduceSub, Nat.reduceLeDiff, reduceCtorEq, implies_true, ne_eq, aggV, Tag.cap, List.replicate, allSolid, GVal.solid, Nat.reduceBEq, Nat.reduceMul, Nat.reduceLT, List.length_map, List.length_range, splice, vcA, ↓vcB, vcC, fbFf, e38, levsG_length, segsG_length, d0, eS0, segG]
      exact ⟨by omega, by omega, .agg (segG x0), [.row st 3 [dagG L (allN L) (k' + 1)]], [_], rfl, by rw [leA_agg]; simp [segG, WL, leG_self], _, rfl, x0, k' + 1, rfl, rfl, by omega, by omega, T0, W0⟩
/-- how many segments begin there or later -/
def cntB (l : List Seg) (B : Int) : Nat := (l.filter fun s => decide (B ≤ s.lo)).length
theorem cntB_le (l : List Seg) (B : Int) : cntB l B ≤ l.length := List.length_filter_le _ _
theorem cntB_mono : ∀ (l : List Seg) {B B' : Int}, B' ≤ B → cntB l B ≤ cntB l B'
  | [], _, _, _ => Nat.le_refl _
  | s :: r, B, B', h => by
    have := cntB_mono r h
    unfold cntB at *
    simp only [List.filter_cons]
    by_cases c : B ≤ s.lo
    · rw [if_pos (by simpa using c), if_pos (by simp; omega)]; simp; exact this
    · rw [if_neg (by simpa using c)]
      split
      · simp; omega
      · exact this
theorem cntB_step : ∀ (l : List Seg) {B B' : Int} {s : Seg}, s ∈ l → s.lo < B → B' ≤ s.lo → cntB l B + 1 ≤ cntB l B'
  | [], _, _, s, hs, _, _ => by simp at hs
  | a :: r, B, B', s, hs, h1, h2 => by
    rcases List.mem_cons.1 hs with rfl | hs
    · have := cntB_mono r (B := B) (B' := B') (by omega)
      unfold cntB at *
      simp only [List.filter_cons]
      rw [if_neg (by simp; omega), if_pos (by simpa using h2)]; simp; exact this
    · have := cntB_step r hs h1 h2
      unfold cntB at *
      simp only [List.filter_cons]
      by_cases c : B ≤ a.lo
      · rw [if_pos (by simpa using c), if_pos (by simp; omega)]; simp; exact this
      · rw [if_neg (by simpa using c)]
        split
        · simp; omega
        · exact this
theorem filter_lt {α : Type} (p q : α → Bool) : ∀ (l : List α), (∀ x ∈ l, q x = true → p x = true) → (∃ x ∈ l, p x = true ∧ q x = false) → (l.filter q).length < (l.filter p).length
  | [], _, ⟨x, hx, _⟩ => by simp at hx
  | a :: r, h, hx => by
    have mono : ∀ (l : List α), (∀ x ∈ l, q x = true → p x = true) → (l.filter q).length ≤ (l.filter p).length := by
      intro l
      induction l with
      | nil => intro _; exact Nat.le_refl _
      | cons b t ih =>
        intro hh
        have := ih fun x hx => hh x (by simp [hx])
        have hb := hh b (by simp)
        simp only [List.filter_cons]
        cases hq : q b with
        | true => rw [hb hq]; simpa using this
        | false => cases p b <;> simp <;> omega
    obtain ⟨x, hx, h1, h2⟩ := hx
    simp only [List.filter_cons]
    rcases List.mem_cons.1 hx with rfl | hx
    · have := mono r fun y hy => h y (by simp [hy])
      rw [h1, h2]; simp; omega
    · have := filter_lt p q r (fun y hy => h y (by simp [hy])) ⟨x, hx, h1, h2⟩
      have ha := h a (by simp)
      cases hq : q a with
      | true => rw [ha hq]; simpa using this
      | false => cases p a <;> simp <;> omega
/-- how many IDs a set lacks -/
def lackN (m o : List (List Int)) (s : List Sp.S) : Nat := ((allI m.length o.length).filter fun x => !Sp.hasB s x).length
structure AncI (m o : List (List Int)) (L : List (List Seg)) (s : List Sp.S) (kk : Int) (out todo : List Sp.S) (k : Int) : Prop where
  r1 : Sp.Rt 0 out
  r2 : Sp.Rt 0 todo
  o1 : ∀ n, Sp.has out n → inT m o n ∧ aP m o s n
  t1 : ∀ n, Sp.has todo n → inT m o n ∧ aP m o s n
  all : ∀ n, inT m o n → Sp.has s n → Sp.has out n ∨ Sp.has todo n
  cl : ∀ n p, Sp.has out n → p ∈ parI m o n → Sp.has out p ∨ Sp.has todo p
  dis : ∀ n, Sp.has todo n → ¬ Sp.has out n
  cnt : ∃ B : Int, (∀ n, Sp.has todo n → n < B) ∧ kk ≤ k ∧ k ≤ kk + ((L.length * cntB (L.getD 0 []) B : Nat) : Int)
  one : kk + 1 ≤ k ∨ todo = idsP m o (Sp.has s)
theorem rt_ids {m o : List (List Int)} {l : List Sp.S} (h : Sp.Rt 0 l) (hn : ∀ n, Sp.has l n → inT m o n) : l = idsP m o (Sp.has l) := idsP_eq h fun n => ⟨fun q => ⟨hn n q, q⟩, fun q => q.2⟩
theorem AncI.done {m o : List (List Int)} (h : TOK m o) {L : List (List Seg)} {s out : List Sp.S} {kk k : Int} (hI : AncI m o L s kk out [] k) : out = idsP m o (aP m o s) := by
  refine idsP_eq hI.r1 fun n => ⟨fun q => hI.o1 n q, fun ⟨hn, b, hb, hs, hl⟩ => ?_⟩
  have hb' : Sp.has out b := (hI.all b hb hs).elim id fun q => absurd q (by simp [Sp.has])
  classical
  have := hl ((allI m.length o.length).filter fun x => decide (Sp.has out x)) (by simp only [List.mem_filter, decide_eq_true_iff]; exact ⟨(allI_hasI _ _ _).2 hb, hb'⟩) (by
    intro x hx p hp hpt
    simp only [List.mem_filter, decide_eq_true_iff] at hx ⊢
    exact ⟨(allI_hasI _ _ _).2 hpt, (hI.cl x p hx.2 hp).elim id fun q => absurd q (by simp [Sp.has])⟩)
  simp only [List.mem_filter, decide_eq_true_iff] at this
  exact this.2
theorem AncI.step {m o : List (List Int)} {L : List (List Seg)} (h : DagOK m o L) {s out todo : List Sp.S} {kk k k2 high : Int} {x : Seg} (hI : AncI m o L s kk out todo k) (hh : Sp.has todo high) (hm : ∀ n, Sp.has todo n → n ≤ high)
    (T : Tells m o x high) (W : ∀ s ∈ L.getD 0 [], s.lo ≤ high → high ≤ s.hi → x.lo ≤ s.lo) (h1 : k + 1 ≤ k2) (h2 : k2 ≤ k + L.length) :
    AncI m o L s kk (Sp.uni out [(x.lo, high)]) (Sp.minus (Sp.uni todo (Sp.nf (x.par.map fun i => (i, i)))) (Sp.uni out [(x.lo, high)])) k2 ∧
      lackN m o (Sp.uni out [(x.lo, high)]) < lackN m o out := by
  have hT := hI.t1 high hh
  have Tlo := T.lo
  have okO : Sp.Ok out := by rw [rt_ids hI.r1 fun n q => (hI.o1 n q).1]; exact idsP_ok h.tok _
  have okT : Sp.Ok todo := by rw [rt_ids hI.r2 fun n q => (hI.t1 n q).1]; exact idsP_ok h.tok _
  have okX : Sp.Ok [(x.lo, high)] := fun q hq => by
    simp at hq; subst hq
    have := inT_range h.tok hT.1
    have := T.le
    simp only; omega
  have okP := idsOk h.tok fun p hp => (T.par p hp).1
  have hX : ∀ n, Sp.has [(x.lo, high)] n ↔ x.lo ≤ n ∧ n ≤ high := fun n => by
    unfold Sp.has; simp; omega
  have hP : ∀ n, Sp.has (Sp.nf (x.par.map fun i => (i, i))) n ↔ n ∈ x.par := fun n => by
    rw [Sp.nf_has, has_ones _ _ fun p hp => (inT_range h.tok (T.par p hp).1).1]
  have hO : ∀ n, Sp.has (Sp.uni out [(x.lo, high)]) n ↔ Sp.has out n ∨ (x.lo ≤ n ∧ n ≤ high) := fun n => by rw [Sp.uni_has, hX]
  have hQ : ∀ n, Sp.has (Sp.minus (Sp.uni todo (Sp.nf (x.par.map fun i => (i, i)))) (Sp.uni out [(x.lo, high)])) n ↔ (Sp.has todo n ∨ n ∈ x.par) ∧ ¬ (Sp.has out n ∨ (x.lo ≤ n ∧ n ≤ high)) := fun n => by
    rw [Sp.minus_has (Sp.uni_ok okT (Sp.nf_ok okP)) (Sp.uni_ok okO okX), Sp.uni_has, hP, hO]
  have anc : ∀ n, Leads m o n high → aP m o s n := fun n hl => by
    obtain ⟨b, hb, hs, hl2⟩ := hT.2
    exact ⟨b, hb, hs, hl.trans hl2⟩
  have inX : ∀ n, x.lo ≤ n → n ≤ high → inT m o n ∧ aP m o s n := fun n q1 q2 => ⟨leads_in (T.lead n q1 q2) hT.1, anc n (T.lead n q1 q2)⟩
  refine ⟨⟨Sp.uni_rt _ _, Sp.minus_rt _ _, fun n q => ?_, fun n q => ?_, fun n q1 q2 => ?_, fun n p q hp => ?_, fun n q => ?_, ?_, .inl ?_⟩, ?_⟩
  · rcases (hO n).1 q with q | q
    · exact hI.o1 n q
    · exact inX n q.1 q.2
  · rcases ((hQ n).1 q).1 with q | q
    · exact hI.t1 n q
    · exact ⟨(T.par n q).1, anc n (T.par n q).2⟩
  · rw [hO, hQ]
    rcases hI.all n q1 q2 with q | q
    · exact .inl (.inl q)
    · by_cases c : Sp.has out n ∨ (x.lo ≤ n ∧ n ≤ high)
      · exact .inl c
      · exact .inr ⟨.inl q, c⟩
  · rw [hO, hQ]
    by_cases c : Sp.has out p ∨ (x.lo ≤ p ∧ p ≤ high)
    · exact .inl c
    · refine .inr ⟨?_, c⟩
      rcases (hO n).1 q with q | q
      · rcases hI.cl n p q hp with q | q
        · exact absurd (.inl q) c
        · exact .inl q
      · have := h.tok.par hp
        exact .inr (T.all n q.1 q.2 p hp (by
          by_cases c2 : p < x.lo
          · exact c2
          · exact absurd (.inr ⟨by omega, by omega⟩) c))
  · rw [hO]; exact ((hQ n).1 q).2
  · obtain ⟨B, hB, hk1, hk2⟩ := hI.cnt
    obtain ⟨j, hj, hin, _⟩ := h.seg (i := 0) (by have := h.len1; omega) hT.1
    have hs0 := seg_mem hj
    generalize (L.getD 0 []).getD j default = s0 at *
    have hlo := W s0 hs0 hin.1 hin.2
    have hb := hB high hh
    have hin1 := hin.1
    have c1 := cntB_step (L.getD 0 []) (B := B) (B' := x.lo) hs0 (by omega) hlo
    refine ⟨x.lo, fun n q => ?_, by omega, ?_⟩
    · obtain ⟨q1, q2⟩ := (hQ n).1 q
      rcases q1 with q1 | q1
      · have := hm n q1
        by_cases c2 : n < x.lo
        · exact c2
        · exact absurd (.inr ⟨by omega, this⟩) q2
      · have := leads_le h.tok (T.par n q1).2
        by_cases c2 : n < x.lo
        · exact c2
        · exact absurd (.inr ⟨by omega, this⟩) q2
    · have c2 : L.length * (cntB (L.getD 0 []) B + 1) ≤ L.length * cntB (L.getD 0 []) x.lo := Nat.mul_le_mul_left _ c1
      rw [Nat.mul_succ] at c2
      omega
  · obtain ⟨B, hB, hk1, hk2⟩ := hI.cnt
    omega
  · refine filter_lt _ _ _ (fun n _ q => ?_) ⟨high, (allI_hasI _ _ _).2 hT.1, ?_, ?_⟩
    · simp only [Bool.not_eq_true'] at q ⊢
      cases hq : Sp.hasB out n with
      | false => rfl
      | true =>
        have := (Sp.hasB_iff _ _).2 ((hO n).2 (.inl ((Sp.hasB_iff _ _).1 hq)))
        rw [this] at q; cases q
    · simp only [Bool.not_eq_true']
      cases hq : Sp.hasB out high with
      | false => rfl
      | true => exact absurd ((Sp.hasB_iff _ _).1 hq) (hI.dis high hh)
    · simp only [Bool.not_eq_false']
      exact (Sp.hasB_iff _ _).2 ((hO high).2 (.inr ⟨T.le, Int.le_refl _⟩))
end Gv.Try
/- Contracts: ancestors of a set. -/
set_option linter.unusedVariables false
set_option linter.unusedSimpArgs false
set_option maxRecDepth 20000
set_option maxHeartbeats 8000000
namespace Gv.Try
open Go Gv Go.Proofs
theorem rt_last {l : List Sp.S} (h : Sp.Rt 0 l) {n : Int} (hn : Sp.has l n) : n ≤ (l.getD (l.length - 1) (0, 0)).2 := by
  rcases List.eq_nil_or_concat l with e | ⟨A, x, e⟩
  · subst e; simp [Sp.has] at hn
  · subst e
    rw [List.concat_eq_append] at *
    have e1 : (A ++ [x]).length - 1 = A.length := by simp
    rw [e1, getD_last]
    obtain ⟨_, _, h3, h4⟩ := (Sp.Rt_snoc x A 0).1 h
    rcases (Sp.has_app _ _ _).1 hn with ⟨y, hy, q1, q2, q3⟩ | ⟨y, hy, q1, q2, q3⟩
    · have := h4 y hy; omega
    · simp at hy; subst hy; exact q3
theorem aAncestors {m o : List (List Int)} {L : List (List Seg)} (h : DagOK m o L) (s : List Sp.S) (t : Tag) (hl : s.length ≤ 1000000) (hs : Sp.Ok s) (st : Nat) (kk : Int) (hk : 0 ≤ kk ∧ kk ≤ 100000000) :
    GCalls Try.prog 12 [.ptr 0 st 0 0, .slice (spl s) t] [.row st 3 [dagG L (allN L) kk]] (fun g O' => ∃ x', O' = [x'] ∧ ∃ k', g = .slice (spl (idsP m o (aP m o s))) .none ∧ x' = .row st 3 [dagG L (allN L) k'] ∧ kk ≤ k' ∧ k' ≤ kk + ((L.length * (L.getD 0 []).length : Nat) : Int) ∧ (idsP m o (Sp.has s) ≠ [] → kk + 1 ≤ k')) := by
  have hN := h.allLen
  have hT := h.tok.len
  have hL1 := h.len1
  have hL4 := h.len4
  have hll := (h.size 0).1
  have hfz : ∀ B, L.length * cntB (L.getD 0 []) B ≤ L.length * (L.getD 0 []).length := fun B => Nat.mul_le_mul_left _ (cntB_le _ _)
  have hf2 : L.length * (L.getD 0 []).length ≤ 4 * 1000 := Nat.mul_le_mul hL4 hll
  refine h12.calls mixS (by simp) ?_
  simp only [gstart, s12, List.cons_append, List.nil_append, List.length_cons, List.length_nil, Nat.reduceAdd, Nat.reduceSub, List.replicate_succ, List.replicate_zero]
  simp +contextual -implicitDefEqProofs (maxSteps := 2000000) (disch := omega) only [↓unV, optV, ↓loadV, ↓storeV, ↓fieldAddrV, ↓allocV, ↓buildV, ↓buildSliceV, ↓sliceV, bound, cutTag, hiTag, fillG, fillE, place, GVal.cells, grp, GVal.ofConst, ↓resV, resG, List.map, List.headD, List.take, List.drop, ↓reduceIte, Nat.reduceEqDiff, Nat.reduceAdd, Nat.reduceSub, Nat.reduceLeDiff, reduceCtorEq, implies_true, ne_eq, Tag.cap, List.replicate, allSolid, GVal.solid, Nat.reduceBEq, Nat.reduceMul, Nat.reduceLT, List.length_map, List.length_range, splice, vcA, ↓vcB, vcC, fbFf, e12]
  refine (aThere L (allN L) s t (by omega) hs h.allOk).then ?_
  rw [h.thereEq s]
  simp +contextual -implicitDefEqProofs (maxSteps := 2000000) (disch := omega) only [↓unV, optV, ↓loadV, ↓storeV, ↓fieldAddrV, ↓allocV, ↓buildV, ↓buildSliceV, ↓sliceV, bound, cutTag, hiTag, fillG, fillE, place, GVal.cells, grp, GVal.ofConst, ↓resV, resG, List.map, List.headD, List.take, List.drop, ↓reduceIte, Nat.reduceEqDiff, Nat.reduceAdd, Nat.reduceSub, Nat.reduceLeDiff, reduceCtorEq, implies_true, ne_eq, Tag.cap, List.replicate, allSolid, GVal.solid, Nat.reduceBEq, Nat.reduceMul, Nat.reduceLT, List.length_map, List.length_range, splice, vcA, ↓vcB, vcC, fbFf, e12]
  refine vcSLoop_by (ι := { p : List Sp.S × List Sp.S × Int // AncI m o L s kk p.1 p.2.1 p.2.2 }) (fun p => ⟨[.ptr 0 st 0 0, .any, .any, .any, .any, .slice (spl p.1.1) .none, .slice (spl p.1.2.1) .none] ++ List.replicate 33 .any, [.row st 3 [dagG L (allN L) p.1.2.2]]⟩) (fun p => lackN m o p.1.1) ?_ ?_
  · refine Into.first ⟨([], idsP m o (Sp.has s), kk), ?_⟩ ⟨[], by simp⟩ (by simp [WL, leG_self, leG_any, leG_none, spl])
    have no : ∀ n, ¬ Sp.has [] n := fun n q => by simp [Sp.has] at q
    refine ⟨trivial, idsP_rt _ _ _, fun n q => absurd q (no n), fun n q => ?_, fun n q1 q2 => .inr ((idsP_has _ _ _ _).2 ⟨q1, q2⟩), fun n p q => absurd q (no n), fun n q => no n, ⟨1099511628777, fun n q => ?_, Int.le_refl _, by show kk ≤ kk + _; omega⟩, .inr rfl⟩
    · have := (idsP_has _ _ _ _).1 q
      exact ⟨this.1, n, this.1, this.2, Leads.refl m o n⟩
    · have := inT_range h.tok ((idsP_has _ _ _ _).1 q).1; omega
  · rintro ⟨⟨out, todo, k⟩, hI⟩
    change AncI m o L s kk out todo k at hI
    have eO := rt_ids hI.r1 fun n q => (hI.o1 n q).1
    have eT := rt_ids hI.r2 fun n q => (hI.t1 n q).1
    have lO : out.length ≤ 1000 := by rw [eO]; have := idsP_len m o (Sp.has out); omega
    have lT : todo.length ≤ 1000 := by rw [eT]; have := idsP_len m o (Sp.has todo); omega
    have okO : Sp.Ok out := by rw [eO]; exact idsP_ok h.tok _
    have okT : Sp.Ok todo := by rw [eT]; exact idsP_ok h.tok _
    have cH := sHigh todo .none (by omega) okT
    rw [Sp.nf_rt_eq hI.r2] at cH
    unfold highV at cH
    obtain ⟨B, hB, hk1, hk2⟩ := hI.cnt
    have hb := hfz B
    by_cases h0 : 0 < todo.length
    · rw [decide_eq_true h0] at cH
      have hmem : todo.getD (todo.length - 1) (0, 0) ∈ todo := by
        rw [List.getD_eq_getElem?_getD, List.getElem?_eq_getElem (by omega)]; exact List.getElem_mem _
      have hhas := hI.r2.hi (Int.le_refl _) hmem
      have hmax : ∀ n, Sp.has todo n → n ≤ (todo.getD (todo.length - 1) (0, 0)).2 := fun n q => rt_last hI.r2 q
      have hin := hI.t1 _ hhas
      have hr := inT_range h.tok hin.1
      generalize (todo.getD (todo.length - 1) (0, 0)).2 = high at *
      simp +contextual -implicitDefEqProofs (maxSteps := 2000000) (disch := omega) only [↓unV, optV, ↓loadV, ↓storeV, ↓fieldAddrV, ↓allocV, ↓buildV, ↓buildSliceV, ↓sliceV, bound, cutTag, hiTag, fillG, fillE, place, GVal.cells, grp, GVal.ofConst, ↓resV, resG, List.map, List.headD, List.take, List.drop, ↓reduceIte, Nat.reduceEqDiff, Nat.reduceAdd, Nat.reduceSub, Nat.reduceLeDiff, reduceCtorEq, implies_true, ne_eq, Tag.cap, List.replicate, allSolid, GVal.solid, Nat.reduceBEq, Nat.reduceMul, Nat.reduceLT, List.length_map, List.length_range, splice, vcA, ↓vcB, vcC, fbFf, e12]
      refine cH.then ?_ (by rfl)
      simp +contextual -implicitDefEqProofs (maxSteps := 2000000) (disch := omega) only [↓unV, optV, ↓loadV, ↓storeV, ↓fieldAddrV, ↓allocV, ↓buildV, ↓buildSliceV, ↓sliceV, bound, cutTag, hiTag, fillG, fillE, place, GVal.cells, grp, GVal.ofConst, ↓resV, resG, List.map, List.headD, List.take, List.drop, ↓reduceIte, Nat.reduceEqDiff, Nat.reduceAdd, Nat.reduceSub, Nat.reduceLeDiff, reduceCtorEq, implies_true, ne_eq, Tag.cap, List.replicate, allSolid, GVal.solid, Nat.reduceBEq, Nat.reduceMul, Nat.reduceLT, List.length_map, List.length_range, splice, vcA, ↓vcB, vcC, fbFf, e12]
      refine (aWhole h high hin.1 st k (by omega)).mono ?_
      rintro g O' ⟨_, rfl, x, k2, rfl, rfl, hk3, hk4, T, W⟩
      obtain ⟨I2, hlack⟩ := hI.step h hhas hmax T W hk3 hk4
      have T1 := T.lo
      have T2 := T.le
      have okX : Sp.Ok [(x.lo, high)] := fun q hq => by simp at hq; subst hq; simp only; omega
      have okP := idsOk h.tok fun p hp => (T.par p hp).1
      have cU := sUnion out [(x.lo, high)] .none .full (by simp; omega) okO okX
      have lU := Sp.uni_len out [(x.lo, high)]
      have okU := Sp.uni_ok okO okX
      have cOf := sOf x.par .none T.len (getD_bounds (fun p hp => by have := inT_range h.tok (T.par p hp).1; omega) (by omega) (by omega))
      have lP := Sp.nf_len (x.par.map fun i => (i, i))
      rw [List.length_map] at lP
      have lX := T.len
      have cU2 := sUnion todo (Sp.nf (x.par.map fun i => (i, i))) .none .none (by omega) okT (Sp.nf_ok okP)
      have lU2 := Sp.uni_len todo (Sp.nf (x.par.map fun i => (i, i)))
      have okU2 := Sp.uni_ok okT (Sp.nf_ok okP)
      simp only [List.length_singleton] at lU
      have cM := sMinus (Sp.uni todo (Sp.nf (x.par.map fun i => (i, i)))) (Sp.uni out [(x.lo, high)]) .none .none (by omega) okU2 okU
      simp +contextual -implicitDefEqProofs (maxSteps := 2000000) (disch := omega) only [↓unV, optV, ↓loadV, ↓storeV, ↓fieldAddrV, ↓allocV, ↓buildV, ↓buildSliceV, ↓sliceV, bound, cutTag, hiTag, fillG, fillE, place, GVal.cells, grp, GVal.ofConst, ↓resV, resG, List.map, List.headD, List.take, List.drop, ↓reduceIte, Nat.reduceEqDiff, Nat.reduceAdd, Nat.reduceSub, Nat.reduceLeDiff, reduceCtorEq, implies_true, ne_eq, Tag.cap, List.replicate, allSolid, GVal.solid, Nat.reduceBEq, Nat.reduceMul, Nat.reduceLT, List.length_map, List.length_range, splice, vcA, ↓vcB, vcC, fbFf, e12, segG]
      intro w
      refine cU.then ?_ (by rfl)
      simp +contextual -implicitDefEqProofs (maxSteps := 2000000) (disch := omega) only [↓unV, optV, ↓loadV, ↓storeV, ↓fieldAddrV, ↓allocV, ↓buildV, ↓buildSliceV, ↓sliceV, bound, cutTag, hiTag, fillG, fillE, place, GVal.cells, grp, GVal.ofConst, ↓resV, resG, List.map, List.headD, List.take, List.drop, ↓reduceIte, Nat.reduceEqDiff, Nat.reduceAdd, Nat.reduceSub, Nat.reduceLeDiff, reduceCtorEq, implies_true, ne_eq, Tag.cap, List.replicate, allSolid, GVal.solid, Nat.reduceBEq, Nat.reduceMul, Nat.reduceLT, List.length_map, List.length_range, splice, vcA, ↓vcB, vcC, fbFf, e12, segG]
      refine cOf.then ?_ (by rfl)
      simp +contextual -implicitDefEqProofs (maxSteps := 2000000) (disch := omega) only [↓unV, optV, ↓loadV, ↓storeV, ↓fieldAddrV, ↓allocV, ↓buildV, ↓buildSliceV, ↓sliceV, bound, cutTag, hiTag, fillG, fillE, place, GVal.cells, grp, GVal.ofConst, ↓resV, resG, List.map, List.headD, List.take, List.drop, ↓reduceIte, Nat.reduceEqDiff, Nat.reduceAdd, Nat.reduceSub, Nat.reduceLeDiff, reduceCtorEq, implies_true, ne_eq, Tag.cap, List.replicate, allSolid, GVal.solid, Nat.reduceBEq, Nat.reduceMul, Nat.reduceLT, List.length_map, List.length_range, splice, vcA, ↓vcB, vcC, fbFf, e12, segG]
      refine cU2.then ?_ (by rfl)
      simp +contextual -implicitDefEqProofs (maxSteps := 2000000) (disch := omega) only [↓unV, optV, ↓loadV, ↓storeV, ↓fieldAddrV, ↓allocV, ↓buildV, ↓buildSliceV, ↓sliceV, bound, cutTag, hiTag, fillG, fillE, place, GVal.cells, grp, GVal.ofConst, ↓resV, resG, List.map, List.headD, List.take, List.drop, ↓reduceIte, Nat.reduceEqDiff, Nat.reduceAdd, Nat.reduceSub, Nat.reduceLeDiff, reduceCtorEq, implies_true, ne_eq, Tag.cap, List.replicate, allSolid, GVal.solid, Nat.reduceBEq, Nat.reduceMul, Nat.reduceLT, List.length_map, List.length_range, splice, vcA, ↓vcB, vcC, fbFf, e12, segG]
      refine cM.then ?_ (by rfl)
      simp +contextual -implicitDefEqProofs (maxSteps := 2000000) (disch := omega) only [↓unV, optV, ↓loadV, ↓storeV, ↓fieldAddrV, ↓allocV, ↓buildV, ↓buildSliceV, ↓sliceV, bound, cutTag, hiTag, fillG, fillE, place, GVal.cells, grp, GVal.ofConst, ↓resV, resG, List.map, List.headD, List.take, List.drop, ↓reduceIte, Nat.reduceEqDiff, Nat.reduceAdd, Nat.reduceSub, Nat.reduceLeDiff, reduceCtorEq, implies_true, ne_eq, Tag.cap, List.replicate, allSolid, GVal.solid, Nat.reduceBEq, Nat.reduceMul, Nat.reduceLT, List.length_map, List.length_range, splice, vcA, ↓vcB, vcC, fbFf, e12, segG]
      exact Into.at ⟨(Sp.uni out [(x.lo, high)], Sp.minus (Sp.uni todo (Sp.nf (x.par.map fun i => (i, i)))) (Sp.uni out [(x.lo, high)]), k2), I2⟩ hlack ⟨[.row w 5 [segG x]], by simp [segG]⟩ (by simp [WL, leG_self, leG_any])
    · rw [decide_eq_false h0] at cH
      have e : todo = [] := List.length_eq_zero_iff.1 (by omega)
      subst e
      have hd := hI.done h.tok
      simp +contextual -implicitDefEqProofs (maxSteps := 2000000) (disch := omega) only [↓unV, optV, ↓loadV, ↓storeV, ↓fieldAddrV, ↓allocV, ↓buildV, ↓buildSliceV, ↓sliceV, bound, cutTag, hiTag, fillG, fillE, place, GVal.cells, grp, GVal.ofConst, ↓resV, resG, List.map, List.headD, List.take, List.drop, ↓reduceIte, Nat.reduceEqDiff, Nat.reduceAdd, Nat.reduceSub, Nat.reduceLeDiff, reduceCtorEq, implies_true, ne_eq, Tag.cap, List.replicate, allSolid, GVal.solid, Nat.reduceBEq, Nat.reduceMul, Nat.reduceLT, List.length_map, List.length_range, splice, vcA, ↓vcB, vcC, fbFf, e12]
      refine cH.then ?_ (by rfl)
      simp +contextual -implicitDefEqProofs (maxSteps := 2000000) (disch := omega) only [↓unV, optV, ↓loadV, ↓storeV, ↓fieldAddrV, ↓allocV, ↓buildV, ↓buildSliceV, ↓sliceV, bound, cutTag, hiTag, fillG, fillE, place, GVal.cells, grp, GVal.ofConst, ↓resV, resG, List.map, List.headD, List.take, List.drop, ↓reduceIte, Nat.reduceEqDiff, Nat.reduceAdd, Nat.reduceSub, Nat.reduceLeDiff, reduceCtorEq, implies_true, ne_eq, Tag.cap, List.replicate, allSolid, GVal.solid, Nat.reduceBEq, Nat.reduceMul, Nat.reduceLT, List.length_map, List.length_range, splice, vcA, ↓vcB, vcC, fbFf, e12]
      refine ⟨_, rfl, k, by rw [hd], rfl, hk1, by omega, fun hne => ?_⟩
      rcases hI.one with q | q
      · exact q
      · exact absurd q.symm hne
end Gv.Try
/- A line of commits: its table, its ancestors. -/
set_option linter.unusedVariables false
set_option linter.unusedSimpArgs false
set_option maxRecDepth 20000
set_option maxHeartbeats 8000000
namespace Gv.Try
open Go Gv Go.Proofs
def rowN (i : Nat) : List Int := if i = 0 then [] else [(i : Int) - 1]
def lineM (n : Nat) : List (List Int) := (List.range n).map rowN
theorem lineM_len (n : Nat) : (lineM n).length = n := by simp [lineM]
theorem lineM_at (n i : Nat) (h : i < n) : (lineM n).getD i [] = rowN i := by simp [lineM, List.getD, h]
def rowG (i : Nat) : List GVal := if i = 0 then [.slice [] .nil] else [.slice [[.int .i64 ((i : Int) - 1)]] .full]
def lineG (n : Nat) : List (List GVal) := (List.range n).map rowG
theorem lineG_len (n : Nat) : (lineG n).length = n := by simp [lineG]
theorem lineG_succ (n : Nat) : lineG (n + 1) = lineG n ++ [rowG n] := by simp [lineG, List.range_succ]
theorem all_lineG (n : Nat) : (∀ x ∈ lineG n, x.length = 1) = True := eq_true fun x hx => by
  obtain ⟨i, _, rfl⟩ := List.mem_map.1 hx
  unfold rowG; split <;> rfl
theorem line_hasI (n : Nat) (x : Int) : inT (lineM n) [] x ↔ 0 ≤ x ∧ x < n := by
  unfold inT hasI
  rw [lineM_len, decide_eq_true_iff]
  have : split = 1099511627776 := rfl
  simp; omega
theorem line_par {n : Nat} (hn : n ≤ 1000) {x : Int} (h : 0 ≤ x) (h2 : x < n) : parI (lineM n) [] x = if x = 0 then [] else [x - 1] := by
  rw [parI_m _ _ _ h (by rw [lineM_len]; exact h2), Int.sub_zero, lineM_at _ _ (by omega), rowN]
  by_cases e : x = 0
  · subst e; rfl
  · rw [if_neg e, if_neg (by omega)]
    congr 1; omega
theorem line_tok (n : Nat) (hn : n ≤ 1000) : TOK (lineM n) [] := by
  refine ⟨by rw [lineM_len]; simp; exact hn, ?_⟩
  unfold rightI
  rw [Bool.and_eq_true]
  refine ⟨okG_of _ _ fun k hk => ?_, rfl⟩
  rw [lineM_len] at hk
  rw [lineM_at _ _ hk]
  unfold rowN
  by_cases e : k = 0
  · rw [if_pos e]; simp
  · rw [if_neg e]
    refine ⟨fun p hp => ?_, by simp, by simp⟩
    simp at hp; subst hp
    refine ⟨by omega, by omega, ?_⟩
    exact (line_hasI n _).2 (by omega)
theorem line_leads {n : Nat} (hn : n ≤ 1000) : ∀ (k : Nat) (b : Int), 0 ≤ b - k → b < n → Leads (lineM n) [] (b - k) b := by
  intro k
  induction k with
  | zero => intro b _ _; simp; exact Leads.refl _ _ b
  | succ k ih =>
    intro b h1 h2
    refine Leads.trans ?_ (ih b (by omega) h2)
    refine Leads.par ?_ ((line_hasI n _).2 (by omega))
    rw [line_par hn (by omega) (by omega), if_neg (by omega)]; simp; omega
theorem line_anc {n : Nat} (hn : n ≤ 1000) (a : Int) (h0 : 0 ≤ a) (h1 : a < n) : idsP (lineM n) [] (aP (lineM n) [] [(a, a)]) = [(0, a)] := by
  symm
  refine idsP_eq ⟨Int.le_refl _, h0, trivial⟩ fun x => ?_
  have hs : ∀ y, Sp.has [(a, a)] y ↔ y = a := fun y => by unfold Sp.has; simp; omega
  rw [line_hasI]
  constructor
  · rintro ⟨p, hp, q0, q1, q2⟩
    simp at hp; subst hp
    simp only at q1 q2
    refine ⟨⟨q0, by omega⟩, a, (line_hasI n _).2 ⟨h0, h1⟩, (hs a).2 rfl, ?_⟩
    have := line_leads hn (a - x).toNat a (by omega) h1
    rwa [show a - ((a - x).toNat : Int) = x by omega] at this
  · rintro ⟨⟨q0, q1⟩, b, hb, hs2, hl⟩
    have := (hs b).1 hs2
    subst this
    have := leads_le (line_tok n hn) hl
    exact ⟨_, List.mem_singleton.2 rfl, q0, by simp only; omega, by simp only; omega⟩
theorem okS_max {m o : List (List Int)} : ∀ (l : List Seg) (n : Nat), okS m o n l → ∀ s ∈ l, s.par = [s.lo - 1] → s.lo = split
  | [], n, h, s, hs, _ => by simp at hs
  | a :: r, n, h, s, hs, hp => by
    simp only [okS] at h
    obtain ⟨_, _, _, _, h7, h8⟩ := h
    rcases List.mem_cons.1 hs with rfl | hs
    · exact h7 hp
    · exact okS_max r _ h8 s hs hp
theorem line_one {n : Nat} (hn : n ≤ 1000) {L : List (List Seg)} (h : DagOK (lineM n) [] L) : (L.getD 0 []).length ≤ 1 := by
  have hz : ∀ s ∈ L.getD 0 [], s.lo = 0 := fun s hs => by
    have f := h.flat s hs
    have hr := (line_hasI n _).1 (f.inn s.lo (Int.le_refl _) f.le)
    by_cases e : s.lo = 0
    · exact e
    · have := okS_max _ 0 h.oks s hs (by rw [f.par, line_par hn hr.1 hr.2, if_neg e])
      have : split = 1099511627776 := rfl
      omega
  by_cases c : (L.getD 0 []).length ≤ 1
  · exact c
  · have a1 := hz _ (seg_mem (l := L.getD 0 []) (k := 0) (by omega))
    have a2 := hz _ (seg_mem (l := L.getD 0 []) (k := 1) (by omega))
    have := (h.segs 0 (by have := h.len1; omega)).sorted.at_ 0 1 (by omega) (by omega)
    have := (h.flat _ (seg_mem (l := L.getD 0 []) (k := 0) (by omega))).le
    omega
theorem line_levels {size : Int} {l : List Seg} {L : List (List Seg)} (hl : l.length ≤ 1) (h : LevOK size l L) : L.length = 1 := by
  obtain ⟨h1, h2, h3, h4, h5⟩ := h
  by_cases c : L.length = 1
  · exact c
  · obtain ⟨u1, u2⟩ := h4 0 (by omega)
    rw [h3] at u1 u2
    have e : L.getD (0 + 1) [] = [] := List.length_eq_zero_iff.1 (by omega)
    rw [e] at u1
    cases u1 with
    | nil => simp at u2
theorem GLess_map {α : Type} (f g : α → List GVal) : ∀ (l : List α), (∀ x, GLes (f x) (g x)) → GLess (l.map f) (l.map g)
  | [], _ => trivial
  | a :: r, h => ⟨h a, GLess_map f g r h⟩
theorem line_frz (O : List GObj) (n k u : Nat) : frzS (.agg [.slice (tabG (lineM k)) .none, .slice [] .none]) (.agg [.slice (lineG k) (.tok n u), .slice [] .nil]) O := by
  have e : frzLL (Gv.frz O 6) (lineG k) = some (lineG k) := frzLL_same fun x hx => by
    obtain ⟨i, _, rfl⟩ := List.mem_map.1 hx
    unfold rowG
    split <;> rfl
  have e2 : Gv.frz O 7 (.slice (lineG k) (.tok n u)) = some (.slice (lineG k) .none) := by rw [Gv.frz, e]; rfl
  have e3 : Gv.frz O 7 (.slice [] .nil) = some (.slice [] .nil) := rfl
  refine ⟨8, .agg [.slice (lineG k) .none, .slice [] .nil], by rw [Gv.frz, frzL, e2, frzL, e3]; rfl, ?_⟩
  refine GLe.agg ⟨GLe.slice ?_, GLe.of _ _ (by rw [leG_none]), trivial⟩
  unfold lineG tabG lineM
  rw [List.map_map]
  refine GLess_map _ _ _ fun i => ?_
  simp only [Function.comp]
  unfold rowG rowN
  split
  · exact ⟨GLe.of _ _ (by rw [leG_none]; rfl), trivial⟩
  · exact ⟨GLe.of _ _ (by rw [leG_none]; rfl), trivial⟩
theorem aLine (n : Nat) (hn : n ≤ 1000) : GPure Try.prog 10 [.int .i64 n] (.agg [.slice (tabG (lineM n)) .none, .slice [] .none]) := by
  refine h10.pureS mixS (by simp) ?_
  simp only [gstart, s10, List.cons_append, List.nil_append, List.length_cons, List.length_nil, Nat.reduceAdd, Nat.reduceSub, List.replicate_succ, List.replicate_zero]
  simp +contextual -implicitDefEqProofs (maxSteps := 2000000) (disch := omega) only [binV, optV, ↓loadV, ↓storeV, ↓fieldAddrV, ↓allocV, ↓buildSliceV, ↓sliceV, ↓appendV, ↓srcV, bound, cutTag, hiTag, fillE, GVal.cells, grp, GVal.ofConst, ↓resV, resG, List.map, List.headD, List.take, List.drop, ↓reduceIte, Nat.reduceEqDiff, Nat.reduceAdd, Nat.reduceSub, Nat.reduceLeDiff, reduceCtorEq, implies_true, ne_eq, ↓asrcV, aggV, Tag.cap, List.replicate, allSolid, GVal.solid, Nat.reduceBEq, Nat.reduceMul, Nat.reduceLT, List.length_map, List.length_range, splice, vcA, ↓vcB, vcC, fbFf, e10]
  intro s0 s1
  refine vcSLoop_by (ι := { p : Nat × Nat // p.1 ≤ n }) (fun p => ⟨[.int .i64 n, .any, .ptr 0 s0 0 0, .ptr 1 s1 0 0, .int .i64 (p.1.1 : Nat)] ++ List.replicate 21 .any, [.row s0 2 [[.slice [] .nil, .slice [] .nil]], .row s1 2 [[.slice (lineG p.1.1) (.tok 2 p.1.2), .slice [] .nil]], .tok p.1.2 1]⟩) (fun p => n - p.1.1) ?_ ?_
  · refine Into.cellTok 1 0 1 [] (tg := .nil) rfl rfl rfl rfl ?_
    simp +contextual -implicitDefEqProofs (maxSteps := 2000000) (disch := omega) only [binV, optV, ↓loadV, ↓storeV, ↓fieldAddrV, ↓allocV, ↓buildSliceV, ↓sliceV, ↓appendV, ↓srcV, bound, cutTag, hiTag, fillE, GVal.cells, grp, GVal.ofConst, ↓resV, resG, List.map, List.headD, List.take, List.drop, ↓reduceIte, Nat.reduceEqDiff, Nat.reduceAdd, Nat.reduceSub, Nat.reduceLeDiff, reduceCtorEq, implies_true, ne_eq, ↓asrcV, aggV, Tag.cap, List.replicate, allSolid, GVal.solid, Nat.reduceBEq, Nat.reduceMul, Nat.reduceLT, List.length_map, List.length_range, splice, vcA, ↓vcB, vcC, fbFf, e10]
    intro u
    exact Into.first ⟨(0, u), by omega⟩ ⟨[], by simp [lineG]⟩ (by simp [WL, leG_self, leG_any])
  · rintro ⟨⟨k, u⟩, hk⟩
    change k ≤ n at hk
    by_cases h : k < n
    · have d0 : ((k : Int) < (n : Int)) = True := eq_true (by omega)
      have eN := lineG_succ k
      have lk := lineG_len k
      by_cases e : k = 0
      · subst e
        have d2 : ((0 : Int) < (n : Int)) = True := eq_true (by omega)
        simp +contextual -implicitDefEqProofs (maxSteps := 2000000) (disch := omega) only [binV, optV, ↓loadV, ↓storeV, ↓fieldAddrV, ↓allocV, ↓buildSliceV, ↓sliceV, ↓appendV, ↓srcV, bound, cutTag, hiTag, fillE, GVal.cells, grp, GVal.ofConst, ↓resV, resG, List.map, List.headD, List.take, List.drop, ↓reduceIte, Nat.reduceEqDiff, Nat.reduceAdd, Nat.reduceSub, Nat.reduceLeDiff, reduceCtorEq, implies_true, ne_eq, ↓asrcV, aggV, Tag.cap, List.replicate, allSolid, GVal.solid, Nat.reduceBEq, Nat.reduceMul, Nat.reduceLT, List.length_map, List.length_range, splice, vcA, ↓vcB, vcC, fbFf, e10, d0, d2, lk, all_lineG]
        intro v
        exact Into.at ⟨(1, v), by show 1 ≤ n; omega⟩ (by show n - 1 < n - 0; omega) ⟨[], by simp [eN, rowG]⟩ (by simp [WL, leG_self, leG_any, leG_int])
      · have d1 : ((k : Int) == 0) = false := by simpa using e
        simp +contextual -implicitDefEqProofs (maxSteps := 2000000) (disch := omega) only [binV, optV, ↓loadV, ↓storeV, ↓fieldAddrV, ↓allocV, ↓buildSliceV, ↓sliceV, ↓appendV, ↓srcV, bound, cutTag, hiTag, fillE, GVal.cells, grp, GVal.ofConst, ↓resV, resG, List.map, List.headD, List.take, List.drop, ↓reduceIte, Nat.reduceEqDiff, Nat.reduceAdd, Nat.reduceSub, Nat.reduceLeDiff, reduceCtorEq, implies_true, ne_eq, ↓asrcV, aggV, Tag.cap, List.replicate, allSolid, GVal.solid, Nat.reduceBEq, Nat.reduceMul, Nat.reduceLT, List.length_map, List.length_range, splice, vcA, ↓vcB, vcC, fbFf, e10, d0, d1, lk, all_lineG]
        refine ⟨by omega, by omega, fun v => ?_⟩
        exact Into.at ⟨(k + 1, v), by show k + 1 ≤ n; omega⟩ (by show n - (k + 1) < n - k; omega) ⟨[], by simp [eN, rowG, e]⟩ (by simp [WL, leG_self, leG_any, leG_int])
    · have d0 : ((k : Int) < (n : Int)) = False := eq_false (by omega)
      have e : k = n := by omega
      subst e
      simp +contextual -implicitDefEqProofs (maxSteps := 2000000) (disch := omega) only [binV, optV, ↓loadV, ↓storeV, ↓fieldAddrV, ↓allocV, ↓buildSliceV, ↓sliceV, ↓appendV, ↓srcV, bound, cutTag, hiTag, fillE, GVal.cells, grp, GVal.ofConst, ↓resV, resG, List.map, List.headD, List.take, List.drop, ↓reduceIte, Nat.reduceEqDiff, Nat.reduceAdd, Nat.reduceSub, Nat.reduceLeDiff, reduceCtorEq, implies_true, ne_eq, ↓asrcV, aggV, Tag.cap, List.replicate, allSolid, GVal.solid, Nat.reduceBEq, Nat.reduceMul, Nat.reduceLT, List.length_map, List.length_range, splice, vcA, ↓vcB, vcC, fbFf, e10, d0]
      exact line_frz _ 2 k u
/-- a line's dag: all that stands on one another -/
theorem line_dag {n : Nat} (h1 : 1 ≤ n) (hn : n ≤ 1000) {size : Int} {L : List (List Seg)} (h : DagOK (lineM n) [] L) (hL : LevOK size (buildI (lineM n) []) L) : L.length * (L.getD 0 []).length ≤ 1 := by
  have a := line_one hn h
  have e : L.getD 0 [] = buildI (lineM n) [] := hL.2.2.1
  have b := line_levels (by rw [← e]; exact a) hL
  rw [b, Nat.one_mul]; exact a
theorem line_has {n : Nat} (a : Int) (h0 : 0 ≤ a) (h1 : a < n) : idsP (lineM n) [] (Sp.has [(a, a)]) ≠ [] := fun e => by
  have : Sp.has (idsP (lineM n) [] (Sp.has [(a, a)])) a := (idsP_has _ _ _ _).2 ⟨(line_hasI n a).2 ⟨h0, h1⟩, (a, a), by simp, h0, Int.le_refl _, Int.le_refl _⟩
  rw [e] at this; simp [Sp.has] at this
theorem frzB (O : List GObj) : frzTo (.bool true) (.bool true) O := ⟨1, .bool true, rfl, by rw [leA_bool]⟩
theorem aKnown : GPure Try.prog 11 [] (.bool true) := by
  have hT := line_tok 9 (by omega)
  refine GCalls.toPure ?_
  refine h11.calls mixS (by simp) ?_
  simp only [gstart, s11, List.cons_append, List.nil_append, List.length_cons, List.length_nil, Nat.reduceAdd, Nat.reduceSub, List.replicate_succ, List.replicate_zero]
  simp +contextual -implicitDefEqProofs (maxSteps := 2000000) (disch := omega) only [↓lenV, binV, ↓loadV, ↓indexAddrV, ↓buildV, ↓buildSliceV, fillG, fillE, place, GVal.cells, grp, GVal.ofConst, ↓resV, resG, List.map, List.headD, List.take, List.drop, ↓reduceIte, Nat.reduceEqDiff, Nat.reduceAdd, Nat.reduceSub, Nat.reduceLeDiff, reduceCtorEq, implies_true, ne_eq, aggV, Tag.cap, List.replicate, allSolid, GVal.solid, Nat.reduceBEq, Nat.reduceMul, Nat.reduceLT, List.length_map, List.length_range, splice, vcA, ↓vcB, vcC, fbFf, e11]
  refine (aLine 9 (by omega)).then ?_ (by rfl)
  simp +contextual -implicitDefEqProofs (maxSteps := 2000000) (disch := omega) only [↓lenV, binV, ↓loadV, ↓indexAddrV, ↓buildV, ↓buildSliceV, fillG, fillE, place, GVal.cells, grp, GVal.ofConst, ↓resV, resG, List.map, List.headD, List.take, List.drop, ↓reduceIte, Nat.reduceEqDiff, Nat.reduceAdd, Nat.reduceSub, Nat.reduceLeDiff, reduceCtorEq, implies_true, ne_eq, aggV, Tag.cap, List.replicate, allSolid, GVal.solid, Nat.reduceBEq, Nat.reduceMul, Nat.reduceLT, List.length_map, List.length_range, splice, vcA, ↓vcB, vcC, fbFf, e11]
  refine (aNew hT .none .none 3 (by omega)).mono ?_
  rintro g O' ⟨st, L, rfl, rfl, hD, hL⟩
  have hc := line_dag (by omega) (by omega) hD hL
  have cA := aAncestors hD [(8, 8)] .full (by simp) (fun q hq => by simp at hq; subst hq; simp only; omega) st 0 (by omega)
  rw [line_anc (by omega) 8 (by omega) (by omega)] at cA
  have hne := line_has (n := 9) 8 (by omega) (by omega)
  have cc : cellsEq [Sk.int, Sk.int] [.int .i64 0, .int .i64 8] [.int .i64 0, .int .i64 8] = some true := rfl
  simp +contextual -implicitDefEqProofs (maxSteps := 2000000) (disch := omega) only [↓lenV, binV, ↓loadV, ↓indexAddrV, ↓buildV, ↓buildSliceV, fillG, fillE, place, GVal.cells, grp, GVal.ofConst, ↓resV, resG, List.map, List.headD, List.take, List.drop, ↓reduceIte, Nat.reduceEqDiff, Nat.reduceAdd, Nat.reduceSub, Nat.reduceLeDiff, reduceCtorEq, implies_true, ne_eq, aggV, Tag.cap, List.replicate, allSolid, GVal.solid, Nat.reduceBEq, Nat.reduceMul, Nat.reduceLT, List.length_map, List.length_range, splice, vcA, ↓vcB, vcC, fbFf, e11]
  refine cA.mono ?_
  rintro g O' ⟨_, rfl, k, rfl, rfl, h1, h2, h3⟩
  have h4 := h3 hne
  have ek : k = 1 := by omega
  subst ek
  simp +contextual -implicitDefEqProofs (maxSteps := 2000000) (disch := omega) only [↓lenV, binV, ↓loadV, ↓indexAddrV, ↓buildV, ↓buildSliceV, fillG, fillE, place, GVal.cells, grp, GVal.ofConst, ↓resV, resG, List.map, List.headD, List.take, List.drop, ↓reduceIte, Nat.reduceEqDiff, Nat.reduceAdd, Nat.reduceSub, Nat.reduceLeDiff, reduceCtorEq, implies_true, ne_eq, aggV, Tag.cap, List.replicate, allSolid, GVal.solid, Nat.reduceBEq, Nat.reduceMul, Nat.reduceLT, List.length_map, List.length_range, splice, vcA, ↓vcB, vcC, fbFf, e11, spl_length, spl_one, spG, cc, Int.toNat_zero]
  refine ⟨by omega, by omega, ?_⟩
  refine (aSteps L (allN L) 1 st).mono ?_
  rintro g O' ⟨rfl, rfl⟩
  simp +contextual -implicitDefEqProofs (maxSteps := 2000000) (disch := omega) only [↓lenV, binV, ↓loadV, ↓indexAddrV, ↓buildV, ↓buildSliceV, fillG, fillE, place, GVal.cells, grp, GVal.ofConst, ↓resV, resG, List.map, List.headD, List.take, List.drop, ↓reduceIte, Nat.reduceEqDiff, Nat.reduceAdd, Nat.reduceSub, Nat.reduceLeDiff, reduceCtorEq, implies_true, ne_eq, aggV, Tag.cap, List.replicate, allSolid, GVal.solid, Nat.reduceBEq, Nat.reduceMul, Nat.reduceLT, List.length_map, List.length_range, splice, vcA, ↓vcB, vcC, fbFf, e11]
  refine ⟨fun _ => ?_, fun hh => absurd hh (by omega)⟩
  refine (aSteps L (allN L) 1 st).mono ?_
  rintro g O' ⟨rfl, rfl⟩
  simp +contextual -implicitDefEqProofs (maxSteps := 2000000) (disch := omega) only [↓lenV, binV, ↓loadV, ↓indexAddrV, ↓buildV, ↓buildSliceV, fillG, fillE, place, GVal.cells, grp, GVal.ofConst, ↓resV, resG, List.map, List.headD, List.take, List.drop, ↓reduceIte, Nat.reduceEqDiff, Nat.reduceAdd, Nat.reduceSub, Nat.reduceLeDiff, reduceCtorEq, implies_true, ne_eq, aggV, Tag.cap, List.replicate, allSolid, GVal.solid, Nat.reduceBEq, Nat.reduceMul, Nat.reduceLT, List.length_map, List.length_range, splice, vcA, ↓vcB, vcC, fbFf, e11]
  first | exact frzB _ | exact ⟨fun _ => frzB _, fun hh => absurd hh (by omega)⟩
theorem spec3 (n size at_ : Int) : GPure Try.prog 3 [.int .i64 n, .int .i64 size, .int .i64 at_] (.bool true) := by
  have b1 := Int.emod_nonneg n (by decide : (600 : Int) ≠ 0)
  have b2 := Int.emod_lt_of_pos n (by decide : (0 : Int) < 600)
  have b3 := Int.emod_nonneg size (by decide : (8 : Int) ≠ 0)
  have b4 := Int.emod_lt_of_pos size (by decide : (0 : Int) < 8)
  obtain ⟨k, ek⟩ := Int.eq_ofNat_of_zero_le b1
  have hT := line_tok (k + 1) (by omega)
  have cP1 := sPick n 600 (by omega) (by omega)
  have cP2 := sPick size 8 (by omega) (by omega)
  rw [ek] at cP1 b2
  have b5 := Int.emod_nonneg at_ (by omega : ((k + 1 : Nat) : Int) ≠ 0)
  have b6 := Int.emod_lt_of_pos at_ (by omega : (0 : Int) < ((k + 1 : Nat) : Int))
  have cP3 := sPick at_ ((k + 1 : Nat) : Int) (by omega) (by omega)
  generalize size % 8 = z at *
  generalize at_ % ((k + 1 : Nat) : Int) = a at *
  have cL := aLine (k + 1) (by omega)
  have e1 : ((k + 1 : Nat) : Int) = 1 + (k : Int) := by omega
  rw [e1] at cL cP3
  refine GCalls.toPure ?_
  refine h3.calls mixS (by simp) ?_
  simp only [gstart, s3, List.cons_append, List.nil_append, List.length_cons, List.length_nil, Nat.reduceAdd, Nat.reduceSub, List.replicate_succ, List.replicate_zero]
  simp +contextual -implicitDefEqProofs (maxSteps := 2000000) (disch := omega) only [↓lenV, binV, ↓unV, ↓loadV, ↓indexAddrV, ↓buildV, ↓buildSliceV, fillG, fillE, place, GVal.cells, grp, GVal.ofConst, ↓resV, resG, List.map, List.headD, List.take, List.drop, ↓reduceIte, Nat.reduceEqDiff, Nat.reduceAdd, Nat.reduceSub, Nat.reduceLeDiff, reduceCtorEq, implies_true, ne_eq, aggV, Tag.cap, List.replicate, allSolid, GVal.solid, Nat.reduceBEq, Nat.reduceMul, Nat.reduceLT, List.length_map, List.length_range, splice, vcA, ↓vcB, vcC, fbFf, e3]
  refine cP1.then ?_ (by rfl)
  simp +contextual -implicitDefEqProofs (maxSteps := 2000000) (disch := omega) only [↓lenV, binV, ↓unV, ↓loadV, ↓indexAddrV, ↓buildV, ↓buildSliceV, fillG, fillE, place, GVal.cells, grp, GVal.ofConst, ↓resV, resG, List.map, List.headD, List.take, List.drop, ↓reduceIte, Nat.reduceEqDiff, Nat.reduceAdd, Nat.reduceSub, Nat.reduceLeDiff, reduceCtorEq, implies_true, ne_eq, aggV, Tag.cap, List.replicate, allSolid, GVal.solid, Nat.reduceBEq, Nat.reduceMul, Nat.reduceLT, List.length_map, List.length_range, splice, vcA, ↓vcB, vcC, fbFf, e3]
  refine cP2.then ?_ (by rfl)
  simp +contextual -implicitDefEqProofs (maxSteps := 2000000) (disch := omega) only [↓lenV, binV, ↓unV, ↓loadV, ↓indexAddrV, ↓buildV, ↓buildSliceV, fillG, fillE, place, GVal.cells, grp, GVal.ofConst, ↓resV, resG, List.map, List.headD, List.take, List.drop, ↓reduceIte, Nat.reduceEqDiff, Nat.reduceAdd, Nat.reduceSub, Nat.reduceLeDiff, reduceCtorEq, implies_true, ne_eq, aggV, Tag.cap, List.replicate, allSolid, GVal.solid, Nat.reduceBEq, Nat.reduceMul, Nat.reduceLT, List.length_map, List.length_range, splice, vcA, ↓vcB, vcC, fbFf, e3]
  refine cL.then ?_ (by rfl)
  simp +contextual -implicitDefEqProofs (maxSteps := 2000000) (disch := omega) only [↓lenV, binV, ↓unV, ↓loadV, ↓indexAddrV, ↓buildV, ↓buildSliceV, fillG, fillE, place, GVal.cells, grp, GVal.ofConst, ↓resV, resG, List.map, List.headD, List.take, List.drop, ↓reduceIte, Nat.reduceEqDiff, Nat.reduceAdd, Nat.reduceSub, Nat.reduceLeDiff, reduceCtorEq, implies_true, ne_eq, aggV, Tag.cap, List.replicate, allSolid, GVal.solid, Nat.reduceBEq, Nat.reduceMul, Nat.reduceLT, List.length_map, List.length_range, splice, vcA, ↓vcB, vcC, fbFf, e3]
  refine (aNew hT .none .none (2 + z) (by omega)).mono ?_
  rintro g O' ⟨st, L, rfl, rfl, hD, hL⟩
  have hc := line_dag (by omega) (by omega) hD hL
  have cA := aAncestors hD [((k : Int), (k : Int))] .full (by simp) (fun q hq => by simp at hq; subst hq; simp only; omega) st 0 (by omega)
  rw [line_anc (by omega) (k : Int) (by omega) (by omega)] at cA
  have hne := line_has (n := k + 1) (k : Int) (by omega) (by omega)
  have cA2 := aAncestors hD [(a, a)] .full (by simp) (fun q hq => by simp at hq; subst hq; simp only; omega) st 1 (by omega)
  rw [line_anc (by omega) a (by omega) (by omega)] at cA2
  have cck : cellsEq [Sk.int, Sk.int] [.int .i64 0, .int .i64 k] [.int .i64 0, .int .i64 k] = some true := by rw [cellsEq_pair]; simp
  have cca : cellsEq [Sk.int, Sk.int] [.int .i64 0, .int .i64 a] [.int .i64 0, .int .i64 a] = some true := by rw [cellsEq_pair]; simp
  have ez : (1 : Int) + (k : Int) - 1 = (k : Int) := by omega
  simp +contextual -implicitDefEqProofs (maxSteps := 2000000) (disch := omega) only [↓lenV, binV, ↓unV, ↓loadV, ↓indexAddrV, ↓buildV, ↓buildSliceV, fillG, fillE, place, GVal.cells, grp, GVal.ofConst, ↓resV, resG, List.map, List.headD, List.take, List.drop, ↓reduceIte, Nat.reduceEqDiff, Nat.reduceAdd, Nat.reduceSub, Nat.reduceLeDiff, reduceCtorEq, implies_true, ne_eq, aggV, Tag.cap, List.replicate, allSolid, GVal.solid, Nat.reduceBEq, Nat.reduceMul, Nat.reduceLT, List.length_map, List.length_range, splice, vcA, ↓vcB, vcC, fbFf, e3]
  refine aKnown.then ?_ (by rfl)
  simp +contextual -implicitDefEqProofs (maxSteps := 2000000) (disch := omega) only [↓lenV, binV, ↓unV, ↓loadV, ↓indexAddrV, ↓buildV, ↓buildSliceV, fillG, fillE, place, GVal.cells, grp, GVal.ofConst, ↓resV, resG, List.map, List.headD, List.take, List.drop, ↓reduceIte, Nat.reduceEqDiff, Nat.reduceAdd, Nat.reduceSub, Nat.reduceLeDiff, reduceCtorEq, implies_true, ne_eq, aggV, Tag.cap, List.replicate, allSolid, GVal.solid, Nat.reduceBEq, Nat.reduceMul, Nat.reduceLT, List.length_map, List.length_range, splice, vcA, ↓vcB, vcC, fbFf, e3, ez]
  refine cA.mono ?_
  rintro g O' ⟨_, rfl, k2, rfl, rfl, h1, h2, h3⟩
  have h4 := h3 hne
  have ek2 : k2 = 1 := by omega
  subst ek2
  simp +contextual -implicitDefEqProofs (maxSteps := 2000000) (disch := omega) only [↓lenV, binV, ↓unV, ↓loadV, ↓indexAddrV, ↓buildV, ↓buildSliceV, fillG, fillE, place, GVal.cells, grp, GVal.ofConst, ↓resV, resG, List.map, List.headD, List.take, List.drop, ↓reduceIte, Nat.reduceEqDiff, Nat.reduceAdd, Nat.reduceSub, Nat.reduceLeDiff, reduceCtorEq, implies_true, ne_eq, aggV, Tag.cap, List.replicate, allSolid, GVal.solid, Nat.reduceBEq, Nat.reduceMul, Nat.reduceLT, List.length_map, List.length_range, splice, vcA, ↓vcB, vcC, fbFf, e3, spl_length, spl_one, spG, ez]
  refine (aSteps L (allN L) 1 st).mono ?_
  rintro g O' ⟨rfl, rfl⟩
  simp +contextual -implicitDefEqProofs (maxSteps := 2000000) (disch := omega) only [↓lenV, binV, ↓unV, ↓loadV, ↓indexAddrV, ↓buildV, ↓buildSliceV, fillG, fillE, place, GVal.cells, grp, GVal.ofConst, ↓resV, resG, List.map, List.headD, List.take, List.drop, ↓reduceIte, Nat.reduceEqDiff, Nat.reduceAdd, Nat.reduceSub, Nat.reduceLeDiff, reduceCtorEq, implies_true, ne_eq, aggV, Tag.cap, List.replicate, allSolid, GVal.solid, Nat.reduceBEq, Nat.reduceMul, Nat.reduceLT, List.length_map, List.length_range, splice, vcA, ↓vcB, vcC, fbFf, e3, spl_length, spl_one, spG, ez]
  refine cP3.then ?_ (by rfl)
  simp +contextual -implicitDefEqProofs (maxSteps := 2000000) (disch := omega) only [↓lenV, binV, ↓unV, ↓loadV, ↓indexAddrV, ↓buildV, ↓buildSliceV, fillG, fillE, place, GVal.cells, grp, GVal.ofConst, ↓resV, resG, List.map, List.headD, List.take, List.drop, ↓reduceIte, Nat.reduceEqDiff, Nat.reduceAdd, Nat.reduceSub, Nat.reduceLeDiff, reduceCtorEq, implies_true, ne_eq, aggV, Tag.cap, List.replicate, allSolid, GVal.solid, Nat.reduceBEq, Nat.reduceMul, Nat.reduceLT, List.length_map, List.length_range, splice, vcA, ↓vcB, vcC, fbFf, e3, spl_length, spl_one, spG, ez]
  refine cA2.mono ?_
  rintro g O' ⟨_, rfl, k3, rfl, rfl, h5, h6, h7⟩
  simp +contextual -implicitDefEqProofs (maxSteps := 2000000) (disch := omega) only [↓lenV, binV, ↓unV, ↓loadV, ↓indexAddrV, ↓buildV, ↓buildSliceV, fillG, fillE, place, GVal.cells, grp, GVal.ofConst, ↓resV, resG, List.map, List.headD, List.take, List.drop, ↓reduceIte, Nat.reduceEqDiff, Nat.reduceAdd, Nat.reduceSub, Nat.reduceLeDiff, reduceCtorEq, implies_true, ne_eq, aggV, Tag.cap, List.replicate, allSolid, GVal.solid, Nat.reduceBEq, Nat.reduceMul, Nat.reduceLT, List.length_map, List.length_range, splice, vcA, ↓vcB, vcC, fbFf, e3, spl_length, spl_one, spG, ez, Int.toNat_zero, cck, cca]
  exact ⟨by omega, by omega, fun _ => ⟨fun _ => ⟨by omega, by omega, frzB _⟩, fun hh => absurd hh (by omega)⟩, fun hh => absurd hh (by omega)⟩
end Gv.Try
