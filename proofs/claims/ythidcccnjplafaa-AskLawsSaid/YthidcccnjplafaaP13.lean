import Derived.Test.YthidcccnjplafaaP8
import Derived.Test.YthidcccnjplafaaP12
import Derived.Test.YthidcccnjplafaaP7
import Derived.Test.YthidcccnjplafaaP10

/- Contracts: equal lists of lists and of segments. -/
set_option linter.unusedVariables false
set_option linter.unusedSimpArgs false
set_option maxRecDepth 20000
set_option maxHeartbeats 4000000
namespace Gv.Try
open Go Gv Go.Proofs

end Gv.Try
/- Contracts: the same tables, the document's Find. -/
set_option linter.unusedVariables false
set_option linter.unusedSimpArgs false
set_option maxRecDepth 20000
set_option maxHeartbeats 4000000
namespace Gv.Try
open Go Gv Go.Proofs

/-- the place of the segment that has an ID -/
def fnd (id : Int) : List Seg → Nat → Int × Bool
  | [], _ => (0, false)
  | s :: r, k => if s.lo ≤ id ∧ id ≤ s.hi then ((k : Int), true) else fnd id r (k + 1)
end Gv.Try
/- Contracts: a segment's rows put behind a table's. -/
set_option linter.unusedVariables false
set_option linter.unusedSimpArgs false
set_option maxRecDepth 20000
set_option maxHeartbeats 8000000
namespace Gv.Try
open Go Gv Go.Proofs

end Gv.Try
/- Contract: the table of segments. -/
set_option linter.unusedVariables false
set_option linter.unusedSimpArgs false
set_option maxRecDepth 20000
set_option maxHeartbeats 8000000
namespace Gv.Try
open Go Gv Go.Proofs

abbrev Tab := List (List Int) × List (List Int)
/-- a table within bounds -/
def okT (t : Tab) : Prop := t.1.length + t.2.length ≤ 1000 ∧ (∀ p ∈ t.1, p.length ≤ 17592186044416) ∧ ∀ p ∈ t.2, p.length ≤ 17592186044416
end Gv.Try
/- Contracts: where an ID is found; its parents. -/
set_option linter.unusedVariables false
set_option linter.unusedSimpArgs false
set_option maxRecDepth 20000
set_option maxHeartbeats 8000000
namespace Gv.Try
open Go Gv Go.Proofs

theorem c56 (l : List Seg) (t : Tag) (id : Int) (k : Nat) (s1 s2 : Nat) (hk : k < l.length) :
    GCalls Try.prog 87 [.int .i64 (k : Nat), .ptr 0 s1 0 0, .ptr 1 s2 0 0] [.row s1 1 [[.slice (segsG l) t]], .row s2 1 [[.int .i64 id]]] (fun g O' => g = .bool (decide (id ≤ (l.getD k default).hi)) ∧ O' = [.row s1 1 [[.slice (segsG l) t]], .row s2 1 [[.int .i64 id]]]) := by
  have eS : (segsG l).getD k [] = segG (l.getD k default) := segsG_at l k hk
  generalize l.getD k default = s at *
  refine h87.calls mixS (by simp) ?_
  simp only [gstart, s87, List.cons_append, List.nil_append, List.length_cons, List.length_nil, Nat.reduceAdd, Nat.reduceSub, List.replicate_succ, List.replicate_zero]
  simp +contextual -implicitDefEqProofs (maxSteps := 2000000) (disch := omega) only [drawC, binV, ↓loadV, ↓fieldAddrV, ↓indexAddrV, GVal.cells, grp, GVal.ofConst, ↓resV, resG, List.map, List.headD, List.take, List.drop, ↓reduceIte, Nat.reduceEqDiff, Nat.reduceAdd, Nat.reduceSub, Nat.reduceLeDiff, reduceCtorEq, implies_true, ne_eq, Tag.cap, List.replicate, allSolid, GVal.solid, Nat.reduceBEq, Nat.reduceMul, Nat.reduceLT, List.length_map, List.length_range, splice, vcA, ↓vcB, vcC, fbFf, e87, segsG_length, eS, segG]
  omega

/-- where the search ends -/
def Ends (l : List Seg) (id : Int) (k : Nat) : Prop := k ≤ l.length ∧ (0 < k → (l.getD (k - 1) default).hi < id) ∧ (k < l.length → id ≤ (l.getD k default).hi)

theorem c55 (l : List Seg) (t : Tag) (id : Int) (s1 s2 : Nat) (hl : l.length ≤ 17592186044416) :
    GCalls Try.prog 86 [.int .i64 (l.length : Nat), .func (.func 87) [] [.ptr 0 s1 0 0, .ptr 1 s2 0 0]] [.row s1 1 [[.slice (segsG l) t]], .row s2 1 [[.int .i64 id]]] (fun g O' => (∃ k : Nat, g = .int .i64 k ∧ Ends l id k) ∧ O' = [.row s1 1 [[.slice (segsG l) t]], .row s2 1 [[.int .i64 id]]]) := by
  have q1 := fun (a : Int) K => conv_int Try.prog 3 106 .i64 .u64 a K und3 und106
  have q2 := fun (a : Int) K => conv_int Try.prog 106 3 .u64 .i64 a K und106 und3
  refine h86.calls mixS (by simp) ?_
  simp only [gstart, s86, List.cons_append, List.nil_append, List.length_cons, List.length_nil, Nat.reduceAdd, Nat.reduceSub, List.replicate_succ, List.replicate_zero]
  simp +contextual -implicitDefEqProofs (maxSteps := 2000000) (disch := omega) only [binV, ↓unV, ↓convV, GVal.cells, grp, GVal.ofConst, ↓resV, resG, List.map, List.headD, List.take, List.drop, ↓reduceIte, Nat.reduceEqDiff, Nat.reduceAdd, Nat.reduceSub, Nat.reduceLeDiff, reduceCtorEq, implies_true, ne_eq, Tag.cap, List.replicate, allSolid, GVal.solid, Nat.reduceBEq, Nat.reduceMul, Nat.reduceLT, List.length_map, List.length_range, splice, vcA, ↓vcB, vcC, fbFf, e86]
  refine vcSLoop_by (ι := { p : Nat × Nat // p.1 ≤ p.2 ∧ p.2 ≤ l.length ∧ (0 < p.1 → (l.getD (p.1 - 1) default).hi < id) ∧ (p.2 < l.length → id ≤ (l.getD p.2 default).hi) }) (fun p => ⟨[.int .i64 (l.length : Nat), .func (.func 87) [] [.ptr 0 s1 0 0, .ptr 1 s2 0 0], .any, .any, .any, .int .i64 (p.1.1 : Nat), .int .i64 (p.1.2 : Nat)] ++ List.replicate 19 .any, [.row s1 1 [[.slice (segsG l) t]], .row s2 1 [[.int .i64 id]]]⟩) (fun p => p.1.2 - p.1.1) ?_ ?_
  · exact Into.first ⟨(0, l.length), by omega, by omega, by simp, by simp⟩ ⟨[], by simp⟩ (by simp [WL, leG_self, leG_any])
  · rintro ⟨⟨i, j⟩, h1, h2, h3, h4⟩
    change i ≤ j at h1
    change j ≤ l.length at h2
    change 0 < i → (l.getD (i - 1) default).hi < id at h3
    change j < l.length → id ≤ (l.getD j default).hi at h4
    by_cases hij : i < j
    · have d0 : decide ((i : Int) < (j : Int)) = true := decide_eq_true (by omega)
      have hm : ((i : Int) + j) / 2 = ((i + j) / 2 : Nat) := by omega
      have e1 : norm .u64 ((i : Int) + j) = (i : Int) + j := norm_u64 (by omega)
      have e2 : norm .i64 (((i + j) / 2 : Nat) : Int) = ((i + j) / 2 : Nat) := norm_i64 (by omega)
      simp +contextual -implicitDefEqProofs (maxSteps := 2000000) (disch := omega) only [binV, ↓unV, ↓convV, GVal.cells, grp, GVal.ofConst, ↓resV, resG, List.map, List.headD, List.take, List.drop, ↓reduceIte, Nat.reduceEqDiff, Nat.reduceAdd, Nat.reduceSub, Nat.reduceLeDiff, reduceCtorEq, implies_true, ne_eq, Tag.cap, List.replicate, allSolid, GVal.solid, Nat.reduceBEq, Nat.reduceMul, Nat.reduceLT, List.length_map, List.length_range, splice, vcA, ↓vcB, vcC, fbFf, e86, d0, ↓q1, ↓q2, ↓ibin_shr1, e1, hm, e2]
      have hb : (i + j) / 2 < l.length := by omega
      have c := c56 l t id ((i + j) / 2) s1 s2 hb
      have hlo : i ≤ (i + j) / 2 := by omega
      have hhi : (i + j) / 2 < j := by omega
      have e3 : norm .i64 (((i : Int) + j) / 2 ^ Int.toNat 1) = ((i + j) / 2 : Nat) := by rw [show (2 : Int) ^ Int.toNat 1 = 2 from rfl, hm, e2]
      clear e1 e2 hm
      generalize (i + j) / 2 = h at *
      refine ⟨by omega, by decide, ?_⟩
      rw [e3]
      refine c.mono ?_
      rintro g O' ⟨rfl, rfl⟩
      by_cases hq : id ≤ (l.getD h default).hi
      · rw [decide_eq_true hq]
        simp +contextual -implicitDefEqProofs (maxSteps := 2000000) (disch := omega) only [binV, ↓unV, ↓convV, GVal.cells, grp, GVal.ofConst, ↓resV, resG, List.map, List.headD, List.take, List.drop, ↓reduceIte, Nat.reduceEqDiff, Nat.reduceAdd, Nat.reduceSub, Nat.reduceLeDiff, reduceCtorEq, implies_true, ne_eq, Tag.cap, List.replicate, allSolid, GVal.solid, Nat.reduceBEq, Nat.reduceMul, Nat.reduceLT, List.length_map, List.length_range, splice, vcA, ↓vcB, vcC, fbFf, e86]
        exact Into.at ⟨(i, h), by show i ≤ h; omega, by show h ≤ _; omega, h3, fun _ => hq⟩ (by show h - i < j - i; omega) ⟨_, rfl⟩ (by simp [WL, leG_self, leG_any, leG_int])
      · rw [decide_eq_false hq]
        simp +contextual -implicitDefEqProofs (maxSteps := 2000000) (disch := omega) only [binV, ↓unV, ↓convV, GVal.cells, grp, GVal.ofConst, ↓resV, resG, List.map, List.headD, List.take, List.drop, ↓reduceIte, Nat.reduceEqDiff, Nat.reduceAdd, Nat.reduceSub, Nat.reduceLeDiff, reduceCtorEq, implies_true, ne_eq, Tag.cap, List.replicate, allSolid, GVal.solid, Nat.reduceBEq, Nat.reduceMul, Nat.reduceLT, List.length_map, List.length_range, splice, vcA, ↓vcB, vcC, fbFf, e86]
        exact Into.at ⟨(h + 1, j), by show h + 1 ≤ j; omega, h2, fun _ => by show (l.getD (h + 1 - 1) default).hi < id; rw [Nat.add_sub_cancel]; omega, h4⟩ (by show j - (h + 1) < j - i; omega) ⟨_, rfl⟩ (by simp [WL, leG_self, leG_any, leG_int])
    · have d0 : decide ((i : Int) < (j : Int)) = false := decide_eq_false (by omega)
      simp +contextual -implicitDefEqProofs (maxSteps := 2000000) (disch := omega) only [binV, ↓unV, ↓convV, GVal.cells, grp, GVal.ofConst, ↓resV, resG, List.map, List.headD, List.take, List.drop, ↓reduceIte, Nat.reduceEqDiff, Nat.reduceAdd, Nat.reduceSub, Nat.reduceLeDiff, reduceCtorEq, implies_true, ne_eq, Tag.cap, List.replicate, allSolid, GVal.solid, Nat.reduceBEq, Nat.reduceMul, Nat.reduceLT, List.length_map, List.length_range, splice, vcA, ↓vcB, vcC, fbFf, e86, d0]
      have e : i = j := by omega
      subst e
      exact ⟨i, rfl, h2, h3, h4⟩

def endAt (l : List Seg) (id : Int) (k : Nat) : Int × Bool := if k = l.length ∨ id < (l.getD k default).lo then (0, false) else ((k : Int), true)

theorem spec33 (l : List Seg) (t : Tag) (id : Int) (r : Int × Bool) (hl : l.length ≤ 17592186044416) (hr : ∀ k, Ends l id k → endAt l id k = r) :
    GPure Try.prog 64 [.slice (segsG l) t, .int .i64 id] (.tuple [.int .i64 r.1, .bool r.2]) := by
  refine h64.pure mixS (by simp) ?_
  simp only [gstart, s64, List.cons_append, List.nil_append, List.length_cons, List.length_nil, Nat.reduceAdd, Nat.reduceSub, List.replicate_succ, List.replicate_zero]
  simp +contextual -implicitDefEqProofs (maxSteps := 2000000) (disch := omega) only [drawC, ↓lenV, binV, ↓loadV, ↓fieldAddrV, ↓indexAddrV, ↓boxV, GVal.cells, grp, GVal.ofConst, ↓resV, resG, List.map, List.headD, List.take, List.drop, ↓reduceIte, Nat.reduceEqDiff, Nat.reduceAdd, Nat.reduceSub, Nat.reduceLeDiff, reduceCtorEq, implies_true, ne_eq, aggV, Tag.cap, List.replicate, allSolid, GVal.solid, Nat.reduceBEq, Nat.reduceMul, Nat.reduceLT, List.length_map, List.length_range, splice, vcA, ↓vcB, vcC, fbFf, e64, segsG_length]
  intro s1 s2
  repeat (refine ⟨by omega, ?_⟩)
  refine (c55 l t id s1 s2 hl).mono ?_
  rintro g O' ⟨⟨k, rfl, hk⟩, rfl⟩
  have hh := hr k hk
  have hk2 := hk.1
  by_cases he : k = l.length
  · have d0 : ((k : Int) == (l.length : Int)) = true := by rw [beq_iff_eq]; omega
    rw [endAt, if_pos (.inl he)] at hh
    simp +contextual -implicitDefEqProofs (maxSteps := 2000000) (disch := omega) only [drawC, ↓lenV, binV, ↓loadV, ↓fieldAddrV, ↓indexAddrV, ↓boxV, GVal.cells, grp, GVal.ofConst, ↓resV, resG, List.map, List.headD, List.take, List.drop, ↓reduceIte, Nat.reduceEqDiff, Nat.reduceAdd, Nat.reduceSub, Nat.reduceLeDiff, reduceCtorEq, implies_true, ne_eq, aggV, Tag.cap, List.replicate, allSolid, GVal.solid, Nat.reduceBEq, Nat.reduceMul, Nat.reduceLT, List.length_map, List.length_range, splice, vcA, ↓vcB, vcC, fbFf, e64, segsG_length, d0]
    subst hh
    exact ⟨rfl, rfl⟩
  · have d0 : ((k : Int) == (l.length : Int)) = false := by rw [beq_eq_false_iff_ne]; omega
    have eS : (segsG l).getD k [] = segG (l.getD k default) := segsG_at l k (by omega)
    unfold endAt at hh
    generalize l.getD k default = s at *
    simp +contextual -implicitDefEqProofs (maxSteps := 2000000) (disch := omega) only [drawC, ↓lenV, binV, ↓loadV, ↓fieldAddrV, ↓indexAddrV, ↓boxV, GVal.cells, grp, GVal.ofConst, ↓resV, resG, List.map, List.headD, List.take, List.drop, ↓reduceIte, Nat.reduceEqDiff, Nat.reduceAdd, Nat.reduceSub, Nat.reduceLeDiff, reduceCtorEq, implies_true, ne_eq, aggV, Tag.cap, List.replicate, allSolid, GVal.solid, Nat.reduceBEq, Nat.reduceMul, Nat.reduceLT, List.length_map, List.length_range, splice, vcA, ↓vcB, vcC, fbFf, e64, segsG_length, eS, segG, d0]
    refine ⟨by omega, by omega, fun h1 => ?_, fun h1 => ?_⟩
    · rw [if_pos (.inr h1)] at hh
      subst hh; exact ⟨rfl, rfl⟩
    · rw [if_neg (by omega)] at hh
      subst hh; exact ⟨rfl, rfl⟩

end Gv.Try
/- The plain laws: an ID is found where it is; the table is there again. -/
set_option linter.unusedVariables false
set_option maxRecDepth 20000
set_option linter.unusedSimpArgs false
namespace Gv.Try
open Go Gv Go.Proofs

/-- is an ID in a segment? -/
def inS (id : Int) (s : Seg) : Prop := s.lo ≤ id ∧ id ≤ s.hi
def SortedS : List Seg → Prop
  | [] => True
  | s :: r => s.lo ≤ s.hi ∧ (∀ x ∈ r, s.hi < x.lo) ∧ SortedS r
theorem SortedS.at_ : ∀ {l : List Seg}, SortedS l → ∀ i j, i < j → j < l.length → (l.getD i default).hi < (l.getD j default).lo
  | [], _, i, j, _, hj => by simp at hj
  | s :: r, h, 0, j + 1, _, hj => by
    have hj' : j < r.length := by simpa using hj
    simp only [List.getD_cons_zero, List.getD_cons_succ]
    exact h.2.1 _ (by rw [List.getD_eq_getElem?_getD, List.getElem?_eq_getElem hj']; exact List.getElem_mem hj')
  | s :: r, h, i + 1, j + 1, hij, hj => by
    simp only [List.getD_cons_succ]
    exact SortedS.at_ h.2.2 i j (by omega) (by simpa using hj)
theorem SortedS.le : ∀ {l : List Seg}, SortedS l → ∀ i, i < l.length → (l.getD i default).lo ≤ (l.getD i default).hi
  | [], _, i, hi => by simp at hi
  | s :: r, h, 0, hi => by simpa using h.1
  | s :: r, h, i + 1, hi => by
    simp only [List.getD_cons_succ]
    exact SortedS.le h.2.2 i (by simpa using hi)
theorem fnd_yes (id : Int) : ∀ (l : List Seg) (k b : Nat), k < l.length → inS id (l.getD k default) → (∀ j, j < k → ¬ inS id (l.getD j default)) → fnd id l b = (((b + k : Nat) : Int), true)
  | [], k, b, h, _, _ => by simp at h
  | s :: r, 0, b, h, h1, _ => by
    rw [fnd, if_pos (by simpa [inS] using h1)]; rfl
  | s :: r, k + 1, b, h, h1, h2 => by
    have h0 := h2 0 (by omega)
    rw [fnd, if_neg (by simpa [inS] using h0), fnd_yes id r k (b + 1) (by simpa using h) (by simpa using h1) (fun j hj => by simpa using h2 (j + 1) (by omega))]
    rw [show b + 1 + k = b + (k + 1) from by omega]
theorem fnd_no (id : Int) : ∀ (l : List Seg) (b : Nat), (∀ j, j < l.length → ¬ inS id (l.getD j default)) → fnd id l b = (0, false)
  | [], b, _ => rfl
  | s :: r, b, h => by
    have h0 := h 0 (by simp)
    rw [fnd, if_neg (by simpa [inS] using h0), fnd_no id r (b + 1) (fun j hj => by simpa using h (j + 1) (by simpa using hj))]
theorem ends_fnd {l : List Seg} (hs : SortedS l) (id : Int) (k : Nat) (h : Ends l id k) : endAt l id k = fnd id l 0 := by
  obtain ⟨h1, h2, h3⟩ := h
  have hlow : ∀ j, j < k → ¬ inS id (l.getD j default) := fun j hj hi => by
    have hk := h2 (by omega)
    by_cases e : j = k - 1
    · subst e; exact absurd hi.2 (by omega)
    · have q1 := hs.at_ j (k - 1) (by omega) (by omega)
      have q2 := hs.le (k - 1) (by omega)
      exact absurd hi.2 (by omega)
  unfold endAt
  by_cases hk : k < l.length
  · have h3 := h3 hk
    by_cases hlo : id < (l.getD k default).lo
    · rw [if_pos (.inr hlo), fnd_no]
      intro j hj hi
      by_cases e : j < k
      · exact hlow j e hi
      · by_cases e2 : j = k
        · subst e2; exact absurd hi.1 (by omega)
        · have q1 := hs.at_ k j (by omega) hj
          have q2 := hs.le k hk
          exact absurd hi.1 (by omega)
    · rw [if_neg (by omega), fnd_yes id l k 0 hk ⟨by omega, h3⟩ hlow, Nat.zero_add]
  · rw [if_pos (.inl (by omega)), fnd_no]
    exact fun j hj => hlow j (by omega)

/-! the table is there again -/
end Gv.Try
/- The plain law of heads: kept by a map, counted by ancestors. -/
set_option linter.unusedVariables false
set_option maxRecDepth 20000
set_option linter.unusedSimpArgs false
namespace Gv.Try
open Go Gv Go.Proofs

end Gv.Try
/- The plain law of the document's segments. -/
set_option linter.unusedVariables false
set_option maxRecDepth 20000
set_option linter.unusedSimpArgs false
namespace Gv.Try
open Go Gv Go.Proofs

end Gv.Try
/- Contract: the document's segments are the program's. -/
set_option linter.unusedVariables false
set_option linter.unusedSimpArgs false
set_option maxRecDepth 20000
set_option maxHeartbeats 8000000
namespace Gv.Try
open Go Gv Go.Proofs

end Gv.Try
/- A call that is handed one object of the caller's: wherever it lies among the caller's objects, the others stay as they are. -/
set_option linter.unusedVariables false
namespace Gv
open Go
/-- the same value, its pointers' places told anew -/
def GVal.place (i : Nat) : GVal → GVal
  | .ptr _ st a b => .ptr i st a b
  | .own _ st a b => .own i st a b
  | .map _ st => .map i st
  | g => g
theorem VR.place {E : Env} {v : Value} {g : GVal} (i : Nat) (h : VR E v (g.place i)) : VR E v g := by
  cases g with
  | ptr o st a b => cases h; exact .ptr _ _ _ _ _ _ _ (by assumption) (by assumption) (by assumption)
  | own o st a b => cases h; exact .own _ _ _ _ _ _ _ (by assumption) (by assumption) (by assumption)
  | map o st => cases h; exact .map _ _ _ _ (by assumption) (by assumption)
  | _ => exact h
theorem HSim.only {E : Env} {O : List GObj} {w : World} (h : HSim E O w) {i : Nat} {x : GObj} (hx : O[i]? = some x) (hc : x.isClock = false) : HSim E [x] w := by
  refine ⟨?_, h.sealed, h.one, fun k y hy => ?_, fun a b oa ob bb hab ha hb => ?_, h.glob⟩
  · obtain ⟨n, _, h2⟩ := h.fin
    refine ⟨n, fun c hc' => ?_, h2⟩
    cases x <;> simp [clockOf, GObj.isClock] at hc' hc
  · match k with
    | 0 => simp at hy; subst hy; exact h.real i x hx
    | k + 1 => simp at hy
  · match a, b with
    | 0, 0 => exact absurd rfl hab
    | a + 1, _ => simp at ha
    | 0, b + 1 => simp at hb
theorem GCalls.ownFrame {P : Program} {f : FuncId} {args : List GVal} {x : GObj} {R : GVal → GObj → Prop} (h : GCalls P f args [x] (fun g O' => ∃ x', O' = [x'] ∧ R g x')) {O : List GObj} (i : Nat) (hO : O[i]? = some x) (hc : clockOf O = none) (hcl : ∀ g x', R g x' → x'.isClock = false) (hx : x.isClock = false) :
    GCalls P f (args.map (GVal.place i)) O (fun g O' => ∃ x', O' = O.set i x' ∧ R g x') := by
  have hlt : i < O.length := (List.getElem?_eq_some_iff.1 hO).1
  refine ⟨h.1, fun E w vs hs ha => ?_⟩
  have ha' : ArgsR E vs args := ⟨by simpa using ha.1, fun k g hg => VR.place i (ha.2 k _ (by simp [hg]))⟩
  refine (h.2 E w vs (hs.only hO hx) ha').mono ?_
  rintro e w' ⟨v, E', O', g, rfl, h1, h2, h3, x', rfl, hR⟩
  have inX : ∀ b, InO E [x] b ↔ x.blk E = some b := fun b => ⟨fun ⟨k, y, hy, hb⟩ => by
    match k with
    | 0 => simp at hy; subst hy; exact hb
    | k + 1 => simp at hy, fun hb => ⟨0, x, rfl, hb⟩⟩
  have inX' : ∀ b, x'.blk E' = some b → x.blk E = some b ∨ w.heap.size ≤ b := fun b hb => by
    rcases h2.objs b ⟨0, x', rfl, hb⟩ with q | q
    · exact .inl ((inX b).1 q)
    · exact .inr q
  have get : ∀ (k : Nat) y, (O.set i x')[k]? = some y → (k = i ∧ y = x') ∨ (k ≠ i ∧ O[k]? = some y) := by
    intro k y hy
    rw [List.getElem?_set] at hy
    by_cases e : i = k
    · rw [if_pos e, if_pos hlt] at hy
      simp only [Option.some.injEq] at hy; exact .inl ⟨e.symm, hy.symm⟩
    · rw [if_neg e] at hy; exact .inr ⟨fun q => e q.symm, hy⟩
  have far : ∀ (k : Nat) y b, k ≠ i → O[k]? = some y → y.blk E = some b → ¬ InO E [x] b := fun k y b hk hy hb hin => hs.sep k i y x b hk hy hO hb ((inX b).1 hin)
  have hold : ∀ (k : Nat) y, k ≠ i → O[k]? = some y → Realized E' w' y ∧ y.blk E' = y.blk E := fun k y hk hy =>
    ⟨(hs.real k y hy).keep h2.ext (fun b hb => h2.heap b ((hs.real k y hy).blk_lt hb) (far k y b hk hy hb)) (fun b o v hb hv => by
      rcases h2.snap b o v hv with q | q | q
      · exact q
      · exact absurd ((hs.real k y hy).blk_lt hb) (by omega)
      · exact absurd q (far k y b hk hy hb)), GObj.blk_mono h2.ext (hs.real k y hy)⟩
  have hclk : clockOf (O.set i x') = none := by
    have := clockOf_set (obj' := x') hO hx (hcl _ _ hR)
    rw [this, hc]
  have hx'r : Realized E' w' x' := h1.real 0 x' rfl
  refine ⟨v, E', O.set i x', g, rfl, ⟨?_, h1.sealed, h1.one, fun k y hy => ?_, fun a b oa ob bb hab ha1 hb1 q1 q2 => ?_, h1.glob⟩, ⟨h2.ext, h2.os, h2.out, h2.size, fun b hb hn => h2.heap b hb fun hin => hn ⟨i, x, hO, (inX b).1 hin⟩, fun b o v hv => ?_, fun b hb => ?_, trivial⟩, h3, x', rfl, hR⟩
  · obtain ⟨n, _, q⟩ := h1.fin
    exact ⟨n, fun c hc' => (by rw [hclk] at hc'; cases hc'), q⟩
  · rcases get k y hy with ⟨rfl, rfl⟩ | ⟨hk, hy⟩
    · exact hx'r
    · exact (hold k y hk hy).1
  · rcases get a oa ha1 with ⟨rfl, rfl⟩ | ⟨hka, hya⟩ <;> rcases get b ob hb1 with ⟨rfl, rfl⟩ | ⟨hkb, hyb⟩
    · exact hab rfl
    · rw [(hold b ob hkb hyb).2] at q2
      rcases inX' bb q1 with e | e
      · exact hs.sep b a ob x bb hkb hyb hO q2 e
      · exact absurd ((hs.real b ob hyb).blk_lt q2) (by omega)
    · rw [(hold a oa hka hya).2] at q1
      rcases inX' bb q2 with e | e
      · exact hs.sep a b oa x bb hka hya hO q1 e
      · exact absurd ((hs.real a oa hya).blk_lt q1) (by omega)
    · rw [(hold a oa hka hya).2] at q1
      rw [(hold b ob hkb hyb).2] at q2
      exact hs.sep a b oa ob bb hab hya hyb q1 q2
  · rcases h2.snap b o v hv with q | q | q
    · exact .inl q
    · exact .inr (.inl q)
    · exact .inr (.inr ⟨i, x, hO, (inX b).1 q⟩)
  · obtain ⟨k, y, hy, hb⟩ := hb
    rcases get k y hy with ⟨rfl, rfl⟩ | ⟨hk, hy⟩
    · rcases inX' b hb with e | e
      · exact .inl ⟨_, x, hO, e⟩
      · exact .inr e
    · exact .inl ⟨k, y, hy, by rw [← (hold k y hk hy).2]; exact hb⟩
/-- what comes back, with objects at the end left behind -/
def dropTo (K : GVal → List GObj → Prop) (g : GVal) (O' : List GObj) : Prop := ∃ g' O1 X, O' = O1 ++ X ∧ leA g g' ∧ K g' O1
theorem GCalls.dropTo {P : Program} {f : FuncId} {args : List GVal} {O : List GObj} {K : GVal → List GObj → Prop} (h : GCalls P f args O (dropTo K)) : GCalls P f args O K :=
  (h.mono fun g O' ⟨g', O1, X, e, hl, hk⟩ => by
    subst e
    exact fun E v w hs hv => by
      obtain ⟨h1, h2⟩ := hs.drop
      exact ⟨g', O1, E, hk, h1, h2, hl.sound hv⟩ : GCalls P f args O (fun g O' => GInto g O' K)).into
end Gv
/- Contracts: small functions of ask. -/
set_option linter.unusedVariables false
set_option linter.unusedSimpArgs false
set_option maxRecDepth 20000
set_option maxHeartbeats 4000000
namespace Gv.Try
open Go Gv Go.Proofs
theorem aPart (s : List Sp.S) (t : Tag) (lo hi : Int) (hl : s.length ≤ 1000000) (ho : Sp.Ok s) (h1 : -9223372036854775808 ≤ lo ∧ lo ≤ 9223372036854775807) (h2 : -9223372036854775808 ≤ hi ∧ hi ≤ 9223372036854775807) :
    GPure Try.prog 54 [.slice (spl s) t, .int .i64 lo, .int .i64 hi] (.slice (spl (Sp.bothS s [(lo, hi)])) .none) := by
  refine h54.pure mixS (by simp) ?_
  simp only [gstart, s54, List.cons_append, List.nil_append, List.length_cons, List.length_nil, Nat.reduceAdd, Nat.reduceSub, List.replicate_succ, List.replicate_zero]
  simp +contextual -implicitDefEqProofs (maxSteps := 2000000) (disch := omega) only [optV, ↓buildV, ↓buildSliceV, ↓sliceV, bound, cutTag, hiTag, fillG, fillE, place, GVal.cells, grp, GVal.ofConst, ↓resV, resG, List.map, List.headD, List.take, List.drop, ↓reduceIte, Nat.reduceEqDiff, Nat.reduceAdd, Nat.reduceSub, Nat.reduceLeDiff, reduceCtorEq, implies_true, ne_eq, Tag.cap, List.replicate, allSolid, GVal.solid, Nat.reduceBEq, Nat.reduceMul, Nat.reduceLT, List.length_map, List.length_range, splice, vcA, ↓vcB, vcC, fbFf, e54]
  refine (sBoth s [(lo, hi)] t _ (by simp; omega) ho (fun x hx => by simp at hx; subst hx; exact ⟨h1, h2⟩)).then ?_ (by rfl)
  simp +contextual -implicitDefEqProofs (maxSteps := 2000000) (disch := omega) only [optV, ↓buildV, ↓buildSliceV, ↓sliceV, bound, cutTag, hiTag, fillG, fillE, place, GVal.cells, grp, GVal.ofConst, ↓resV, resG, List.map, List.headD, List.take, List.drop, ↓reduceIte, Nat.reduceEqDiff, Nat.reduceAdd, Nat.reduceSub, Nat.reduceLeDiff, reduceCtorEq, implies_true, ne_eq, Tag.cap, List.replicate, allSolid, GVal.solid, Nat.reduceBEq, Nat.reduceMul, Nat.reduceLT, List.length_map, List.length_range, splice, vcA, ↓vcB, vcC, fbFf, e54]
/-- spans, moved -/
def movedS (s : List Sp.S) (b : Int) : List Sp.S := s.map fun x => (x.1 + b, x.2 + b)
theorem movedS_len (s : List Sp.S) (b : Int) : (movedS s b).length = s.length := by simp [movedS]
theorem cCloneS (s : List Sp.S) (hl : s.length ≤ 1000000) : GCalls Try.prog 51 [.slice (spl s) .none] [] (fun g O' => (∃ st, g = .own 0 st 0 s.length ∧ O' = [.row st 2 (spl s)]) ∨ (s = [] ∧ g = .slice [] .nil ∧ O' = [])) := by
  refine h51.calls mixS (by simp) ?_
  simp only [gstart, s51, List.cons_append, List.nil_append, List.length_cons, List.length_nil, Nat.reduceAdd, Nat.reduceSub, List.replicate_succ, List.replicate_zero]
  simp +contextual -implicitDefEqProofs (maxSteps := 2000000) (disch := omega) only [binV, optV, ↓buildSliceV, ↓sliceV, ↓appendV, ↓srcV, bound, cutTag, hiTag, fillE, GVal.cells, grp, GVal.ofConst, ↓resV, resG, List.map, List.headD, List.take, List.drop, ↓reduceIte, Nat.reduceEqDiff, Nat.reduceAdd, Nat.reduceSub, Nat.reduceLeDiff, reduceCtorEq, implies_true, ne_eq, ↓asrcV, aggV, Tag.cap, List.replicate, allSolid, GVal.solid, Nat.reduceBEq, Nat.reduceMul, Nat.reduceLT, List.length_map, List.length_range, splice, vcA, ↓vcB, vcC, fbFf, e51, spl_length, all_spl]
  have hnil : spl s = [] → s = [] := fun h => by cases s with
    | nil => rfl
    | cons a r => simp [spl] at h
  refine ⟨fun h => ⟨.inr (hnil h), by simp, fun st => .inl ⟨st, by rw [hnil h]; exact ⟨rfl, rfl⟩⟩⟩, fun h => ⟨by omega, by omega, by simp, fun st => .inl ⟨st, rfl, rfl⟩⟩⟩
theorem cCloneP (s : List Sp.S) (hl : s.length ≤ 1000000) : GPure Try.prog 51 [.slice (spl s) .none] (.slice (spl s) .none) := by
  refine GCalls.toPure ((cCloneS s hl).mono ?_)
  rintro g O' (⟨st, rfl, rfl⟩ | ⟨rfl, rfl, rfl⟩)
  · exact ⟨3, .slice (spl s) .none, frz_own rfl (spl_length _).symm (frz_spl _ 1 _), by rw [leA_slice]⟩
  · exact ⟨2, .slice [] .nil, rfl, by rw [leA_slice]; rfl⟩
theorem aMoved (s : List Sp.S) (b : Int) (hl : s.length ≤ 1000000) (hb : -1 ≤ b ∧ b ≤ 1) (ho : ∀ x ∈ s, (-4611686018427387904 ≤ x.1 ∧ x.1 ≤ 4611686018427387904) ∧ (-4611686018427387904 ≤ x.2 ∧ x.2 ≤ 4611686018427387904)) :
    GPure Try.prog 57 [.slice (spl s) .none, .int .i64 b] (.slice (spl (movedS s b)) .none) := by
  refine h57.pureF mixS (by simp) ?_
  simp only [gstart, s57, List.cons_append, List.nil_append, List.length_cons, List.length_nil, Nat.reduceAdd, Nat.reduceSub, List.replicate_succ, List.replicate_zero]
  simp +contextual -implicitDefEqProofs (maxSteps := 2000000) (disch := omega) only [drawC, ↓lenV, binV, optV, ↓loadV, ↓storeV, ↓fieldAddrV, ↓indexAddrV, ↓sliceV, bound, cutTag, hiTag, GVal.cells, grp, GVal.ofConst, ↓resV, resG, List.map, List.headD, List.take, List.drop, ↓reduceIte, Nat.reduceEqDiff, Nat.reduceAdd, Nat.reduceSub, Nat.reduceLeDiff, reduceCtorEq, implies_true, ne_eq, Tag.cap, List.replicate, allSolid, GVal.solid, Nat.reduceBEq, Nat.reduceMul, Nat.reduceLT, List.length_map, List.length_range, splice, vcA, ↓vcB, vcC, fbFf, e57]
  refine (cCloneS s hl).mono ?_
  rintro g O' (⟨st, rfl, rfl⟩ | ⟨rfl, rfl, rfl⟩)
  · simp +contextual -implicitDefEqProofs (maxSteps := 2000000) (disch := omega) only [drawC, ↓lenV, binV, optV, ↓loadV, ↓storeV, ↓fieldAddrV, ↓indexAddrV, ↓sliceV, bound, cutTag, hiTag, GVal.cells, grp, GVal.ofConst, ↓resV, resG, List.map, List.headD, List.take, List.drop, ↓reduceIte, Nat.reduceEqDiff, Nat.reduceAdd, Nat.reduceSub, Nat.reduceLeDiff, reduceCtorEq, implies_true, ne_eq, Tag.cap, List.replicate, allSolid, GVal.solid, Nat.reduceBEq, Nat.reduceMul, Nat.reduceLT, List.length_map, List.length_range, splice, vcA, ↓vcB, vcC, fbFf, e57, spl_length]
    refine vcSLoop_by (ι := { k : Nat // k ≤ s.length }) (fun k => ⟨[.any, .int .i64 b, .any, .any, .any, .own 0 st 0 s.length, .any, .any, .any, .any, .int .i64 s.length, .int .i64 (k.1 : Nat)] ++ List.replicate 26 .any, [.row st 2 (spl (movedS (s.take k.1) b ++ s.drop k.1))]⟩) (fun k => s.length - k.1) ?_ ?_
    · exact Into.first ⟨0, by omega⟩ ⟨[], by simp [movedS]⟩ (by simp [WL, leG_self, leG_any])
    · rintro ⟨k, hk⟩
      have hA : (movedS (s.take k) b ++ s.drop k).length = s.length := by simp [movedS_len]; omega
      by_cases h : k < s.length
      · have d0 : ((k : Int) < (s.length : Int)) = True := eq_true (by omega)
        have eg : (movedS (s.take k) b ++ s.drop k).getD k (0, 0) = s.getD k (0, 0) := by
          simp only [List.getD_eq_getElem?_getD]
          rw [List.getElem?_append_right (by simp [movedS_len]; omega)]
          simp [movedS_len, List.getElem?_drop]
          congr 2; omega
        have en : movedS (s.take (k + 1)) b ++ s.drop (k + 1) = (movedS (s.take k) b ++ s.drop k).set k ((s.getD k (0, 0)).1 + b, (s.getD k (0, 0)).2 + b) := by
          rw [take_getD h, drop_getD h]
          have e0 : (movedS (s.take k) b).length = k := by simp [movedS_len]; omega
          rw [List.set_append_right _ _ (by omega), e0, Nat.sub_self, List.set_cons_zero]
          simp [movedS]
        have hx := ho (s.getD k (0, 0)) (by rw [List.getD_eq_getElem?_getD, List.getElem?_eq_getElem h]; exact List.getElem_mem h)
        generalize s.getD k (0, 0) = x at *
        generalize movedS (s.take k) b ++ s.drop k = A at *
        have eS := spl_at A k (by omega)
        rw [eg] at eS
        have eS2 : ((spl A).set k [.int .i64 (x.1 + b), .int .i64 x.2]).getD k [] = [.int .i64 (x.1 + b), .int .i64 x.2] := by simp [List.getD, spl_length, hA, h]
        have eL2 : ((spl A).set k [.int .i64 (x.1 + b), .int .i64 x.2]).length = s.length := by simp [spl_length, hA]
        simp +contextual -implicitDefEqProofs (maxSteps := 2000000) (disch := omega) only [drawC, ↓lenV, binV, optV, ↓loadV, ↓storeV, ↓fieldAddrV, ↓indexAddrV, ↓sliceV, bound, cutTag, hiTag, GVal.cells, grp, GVal.ofConst, ↓resV, resG, List.map, List.headD, List.take, List.drop, ↓reduceIte, Nat.reduceEqDiff, Nat.reduceAdd, Nat.reduceSub, Nat.reduceLeDiff, reduceCtorEq, implies_true, ne_eq, Tag.cap, List.replicate, allSolid, GVal.solid, Nat.reduceBEq, Nat.reduceMul, Nat.reduceLT, List.length_map, List.length_range, splice, vcA, ↓vcB, vcC, fbFf, e57, spl_length, d0, eS, spG, hA, eS2, eL2, List.set_set]
        repeat (refine ⟨by omega, ?_⟩)
        refine Into.at ⟨k + 1, by omega⟩ (by show _ < _; simp; omega) ⟨[], ?_⟩ (by simp [WL, leG_self, leG_any, leG_int])
        show _ = [GObj.row st 2 (spl (movedS (s.take (k + 1)) b ++ s.drop (k + 1)))] ++ []
        rw [en, ← spl_set]; rfl
      · have d0 : ((k : Int) < (s.length : Int)) = False := eq_false (by omega)
        have e1 : k = s.length := by omega
        subst e1
        simp +contextual -implicitDefEqProofs (maxSteps := 2000000) (disch := omega) only [drawC, ↓lenV, binV, optV, ↓loadV, ↓storeV, ↓fieldAddrV, ↓indexAddrV, ↓sliceV, bound, cutTag, hiTag, GVal.cells, grp, GVal.ofConst, ↓resV, resG, List.map, List.headD, List.take, List.drop, ↓reduceIte, Nat.reduceEqDiff, Nat.reduceAdd, Nat.reduceSub, Nat.reduceLeDiff, reduceCtorEq, implies_true, ne_eq, Tag.cap, List.replicate, allSolid, GVal.solid, Nat.reduceBEq, Nat.reduceMul, Nat.reduceLT, List.length_map, List.length_range, splice, vcA, ↓vcB, vcC, fbFf, e57, spl_length, d0, hA, List.take_length, List.drop_length, List.append_nil]
        exact ⟨3, .slice (spl (movedS s b)) .none, frz_own rfl (by rw [spl_length, movedS_len]) (frz_spl _ 1 _), by rw [leA_slice]⟩
  · simp +contextual -implicitDefEqProofs (maxSteps := 2000000) (disch := omega) only [drawC, ↓lenV, binV, optV, ↓loadV, ↓storeV, ↓fieldAddrV, ↓indexAddrV, ↓sliceV, bound, cutTag, hiTag, GVal.cells, grp, GVal.ofConst, ↓resV, resG, List.map, List.headD, List.take, List.drop, ↓reduceIte, Nat.reduceEqDiff, Nat.reduceAdd, Nat.reduceSub, Nat.reduceLeDiff, reduceCtorEq, implies_true, ne_eq, Tag.cap, List.replicate, allSolid, GVal.solid, Nat.reduceBEq, Nat.reduceMul, Nat.reduceLT, List.length_map, List.length_range, splice, vcA, ↓vcB, vcC, fbFf, e57]
    refine vcSLoop_by (ι := Unit) (fun _ => ⟨[.any, .any, .any, .any, .any, .slice [] .nil, .any, .any, .any, .any, .int .i64 0, .int .i64 0] ++ List.replicate 26 .any, []⟩) (fun _ => 0) ?_ ?_
    · exact Into.first () ⟨[], by simp⟩ (by simp [WL, leG_self, leG_any])
    · rintro ⟨⟩
      simp +contextual -implicitDefEqProofs (maxSteps := 2000000) (disch := omega) only [drawC, ↓lenV, binV, optV, ↓loadV, ↓storeV, ↓fieldAddrV, ↓indexAddrV, ↓sliceV, bound, cutTag, hiTag, GVal.cells, grp, GVal.ofConst, ↓resV, resG, List.map, List.headD, List.take, List.drop, ↓reduceIte, Nat.reduceEqDiff, Nat.reduceAdd, Nat.reduceSub, Nat.reduceLeDiff, reduceCtorEq, implies_true, ne_eq, Tag.cap, List.replicate, allSolid, GVal.solid, Nat.reduceBEq, Nat.reduceMul, Nat.reduceLT, List.length_map, List.length_range, splice, vcA, ↓vcB, vcC, fbFf, e57]
      exact ⟨fun h => absurd h (by omega), fun _ => ⟨2, .slice [] .nil, rfl, by rw [leA_slice]; rfl⟩⟩
theorem aTouch1 (s : List Sp.S) (n : Int) (hl : s.length ≤ 4398046511104) (ho : Sp.Ok s) : GPure Try.prog 72 [.int .i64 n, .ref [.slice (spl s) .none]] (.bool (Sp.hasB s n)) := by
  refine h72.pure mixS (by simp) ?_
  simp only [gstart, s72, List.cons_append, List.nil_append, List.length_cons, List.length_nil, Nat.reduceAdd, Nat.reduceSub, List.replicate_succ, List.replicate_zero]
  simp +contextual -implicitDefEqProofs (maxSteps := 2000000) (disch := omega) only [↓loadV, GVal.cells, grp, GVal.ofConst, ↓resV, resG, List.map, List.headD, List.take, List.drop, ↓reduceIte, Nat.reduceEqDiff, Nat.reduceAdd, Nat.reduceSub, Nat.reduceLeDiff, reduceCtorEq, implies_true, ne_eq, Tag.cap, List.replicate, allSolid, GVal.solid, Nat.reduceBEq, Nat.reduceMul, Nat.reduceLT, List.length_map, List.length_range, splice, vcA, ↓vcB, vcC, fbFf, e72]
  refine (sHas s .none n hl ho).then ?_ (by rfl)
  simp +contextual -implicitDefEqProofs (maxSteps := 2000000) (disch := omega) only [↓loadV, GVal.cells, grp, GVal.ofConst, ↓resV, resG, List.map, List.headD, List.take, List.drop, ↓reduceIte, Nat.reduceEqDiff, Nat.reduceAdd, Nat.reduceSub, Nat.reduceLeDiff, reduceCtorEq, implies_true, ne_eq, Tag.cap, List.replicate, allSolid, GVal.solid, Nat.reduceBEq, Nat.reduceMul, Nat.reduceLT, List.length_map, List.length_range, splice, vcA, ↓vcB, vcC, fbFf, e72]
def idxT : List Int → List Sp.S → Int → Int
  | [], _, _ => -1
  | a :: r, s, i => if Sp.hasB s a = true then i else idxT r s (i + 1)
theorem idxT_ge : ∀ (l : List Int) (s : List Sp.S) (i : Int), 0 ≤ i → (decide (0 ≤ idxT l s i) = l.any fun a => Sp.hasB s a)
  | [], s, i, h => by simp [idxT]
  | a :: r, s, i, h => by
    rw [idxT, List.any_cons]
    split
    · rename_i h1; rw [h1, decide_eq_true h]; rfl
    · rename_i h1
      rw [idxT_ge r s (i + 1) (by omega)]
      cases hq : Sp.hasB s a with
      | true => exact absurd hq h1
      | false => rfl
theorem drop_getI {l : List Int} {k : Nat} (h : k < l.length) : l.drop k = l.getD k 0 :: l.drop (k + 1) := by
  rw [List.drop_eq_getElem_cons h]; simp [List.getD, h]
theorem aIdx (l : List Int) (t : Tag) (s : List Sp.S) (hl : l.length ≤ 4398046511104) (hs : s.length ≤ 4398046511104) (ho : Sp.Ok s) : GPure Try.prog 89 [.slice (ints l) t, .func (.func 72) [] [.ref [.slice (spl s) .none]]] (.int .i64 (idxT l s 0)) := by
  refine h89.pure mixS (by simp) ?_
  simp only [gstart, s89, List.cons_append, List.nil_append, List.length_cons, List.length_nil, Nat.reduceAdd, Nat.reduceSub, List.replicate_succ, List.replicate_zero]
  simp +contextual -implicitDefEqProofs (maxSteps := 2000000) (disch := omega) only [↓lenV, binV, ↓loadV, ↓indexAddrV, GVal.cells, grp, GVal.ofConst, ↓resV, resG, List.map, List.headD, List.take, List.drop, ↓reduceIte, Nat.reduceEqDiff, Nat.reduceAdd, Nat.reduceSub, Nat.reduceLeDiff, reduceCtorEq, implies_true, ne_eq, Tag.cap, List.replicate, allSolid, GVal.solid, Nat.reduceBEq, Nat.reduceMul, Nat.reduceLT, List.length_map, List.length_range, splice, vcA, ↓vcB, vcC, fbFf, e89]
  refine vcSLoop_by (ι := { k : Nat // k ≤ l.length ∧ idxT (l.drop k) s k = idxT l s 0 }) (fun k => ⟨[.slice (ints l) t, .func (.func 72) [] [.ref [.slice (spl s) .none]], .any, .any, .any, .any, .slice (ints l) t, .int .i64 l.length, .int .i64 (k.1 : Nat)] ++ List.replicate 10 .any, []⟩) (fun k => l.length - k.1) ?_ ?_
  · exact Into.first ⟨0, by omega, by simp⟩ ⟨[], by simp⟩ (by simp [WL, leG_self, leG_any, leG_int])
  · rintro ⟨k, hk, he⟩
    by_cases h : k < l.length
    · have d0 : ((k : Int) < (l.length : Int)) = True := eq_true (by omega)
      have eS := ints_at l k h
      rw [drop_getI h] at he
      generalize l.getD k 0 = x at *
      simp +contextual -implicitDefEqProofs (maxSteps := 2000000) (disch := omega) only [vcS_skip, vcS_reg, vcS_drw, vcS_seq, vcS_cond, vcS_block, vcS_exit, vcS_ret, vcS_loopI, opsS_nil, opsS_one, opsS_if, ordS_nil, ordS_one, ordS_if, hold_mk, ev_tmp, ev_const, ev_func, put_some, put_none, setS_mk, ↓lenV, binV, ↓loadV, ↓indexAddrV, GVal.cells, grp, GVal.ofConst, ↓resV, resG, sget_0, sget_1, sget_2, sget_3, sget_4, set_0, set_1, set_2, set_3, set_4, setO_0, setO_1, setO_2, setL_0, setL_1, setL_2, List.map, List.headD, List.take, List.drop, ↓reduceIte, Nat.reduceEqDiff, Nat.reduceAdd, Nat.reduceSub, Nat.reduceLeDiff, reduceCtorEq, implies_true, ne_eq, norm_i64, ints_length, leG_bool, leG_int, Tag.cap, List.replicate, okCells_eq, allSolid_eq, allSolid, GVal.solid, all_nil, all_cons, all_append, all_ints, all_tabG, stamp_nil, stamp_tok, stamp_row, stamp_map, tick_nil, tick_tok, tick_row, tick_map, Nat.reduceBEq, tabG_length, tabG_at, Nat.reduceMul, Nat.reduceLT, List.length_map, List.length_range, leA_int, leA_bool, leA_slice, leA_agg, leA_tuple, WL_nil, WL_cons, leG_self, splice, ↓vcB, vcC, fbFf, e89, d0, eS]
      repeat (refine ⟨by omega, ?_⟩)
      refine (aTouch1 s x hs ho).then ?_ (by rfl)
      rw [idxT] at he
      cases e : Sp.hasB s x with
      | true =>
        rw [if_pos e] at he
        simp +contextual -implicitDefEqProofs (maxSteps := 2000000) (disch := omega) only [vcS_skip, vcS_reg, vcS_drw, vcS_seq, vcS_cond, vcS_block, vcS_exit, vcS_ret, vcS_loopI, opsS_nil, opsS_one, opsS_if, ordS_nil, ordS_one, ordS_if, hold_mk, ev_tmp, ev_const, ev_func, put_some, put_none, setS_mk, ↓lenV, binV, ↓loadV, ↓indexAddrV, GVal.cells, grp, GVal.ofConst, ↓resV, resG, sget_0, sget_1, sget_2, sget_3, sget_4, set_0, set_1, set_2, set_3, set_4, setO_0, setO_1, setO_2, setL_0, setL_1, setL_2, List.map, List.headD, List.take, List.drop, ↓reduceIte, Nat.reduceEqDiff, Nat.reduceAdd, Nat.reduceSub, Nat.reduceLeDiff, reduceCtorEq, implies_true, ne_eq, norm_i64, ints_length, leG_bool, leG_int, Tag.cap, List.replicate, okCells_eq, allSolid_eq, allSolid, GVal.solid, all_nil, all_cons, all_append, all_ints, all_tabG, stamp_nil, stamp_tok, stamp_row, stamp_map, tick_nil, tick_tok, tick_row, tick_map, Nat.reduceBEq, tabG_length, tabG_at, Nat.reduceMul, Nat.reduceLT, List.length_map, List.length_range, leA_int, leA_bool, leA_slice, leA_agg, leA_tuple, WL_nil, WL_cons, leG_self, splice, ↓vcB, vcC, fbFf, e89, d0, eS]
        rw [he]
      | false =>
        rw [if_neg (by rw [e]; simp)] at he
        simp +contextual -implicitDefEqProofs (maxSteps := 2000000) (disch := omega) only [vcS_skip, vcS_reg, vcS_drw, vcS_seq, vcS_cond, vcS_block, vcS_exit, vcS_ret, vcS_loopI, opsS_nil, opsS_one, opsS_if, ordS_nil, ordS_one, ordS_if, hold_mk, ev_tmp, ev_const, ev_func, put_some, put_none, setS_mk, ↓lenV, binV, ↓loadV, ↓indexAddrV, GVal.cells, grp, GVal.ofConst, ↓resV, resG, sget_0, sget_1, sget_2, sget_3, sget_4, set_0, set_1, set_2, set_3, set_4, setO_0, setO_1, setO_2, setL_0, setL_1, setL_2, List.map, List.headD, List.take, List.drop, ↓reduceIte, Nat.reduceEqDiff, Nat.reduceAdd, Nat.reduceSub, Nat.reduceLeDiff, reduceCtorEq, implies_true, ne_eq, norm_i64, ints_length, leG_bool, leG_int, Tag.cap, List.replicate, okCells_eq, allSolid_eq, allSolid, GVal.solid, all_nil, all_cons, all_append, all_ints, all_tabG, stamp_nil, stamp_tok, stamp_row, stamp_map, tick_nil, tick_tok, tick_row, tick_map, Nat.reduceBEq, tabG_length, tabG_at, Nat.reduceMul, Nat.reduceLT, List.length_map, List.length_range, leA_int, leA_bool, leA_slice, leA_agg, leA_tuple, WL_nil, WL_cons, leG_self, splice, ↓vcB, vcC, fbFf, e89, d0, eS]
        exact Into.at ⟨k + 1, by omega, by rw [← he]; simp⟩ (by show _ < _; simp; omega) ⟨[], by simp⟩ (by simp [WL, leG_self, leG_any, leG_int])
    · have d0 : ((k : Int) < (l.length : Int)) = False := eq_false (by omega)
      rw [List.drop_of_length_le (by omega)] at he
      simp +contextual -implicitDefEqProofs (maxSteps := 2000000) (disch := omega) only [↓lenV, binV, ↓loadV, ↓indexAddrV, GVal.cells, grp, GVal.ofConst, ↓resV, resG, List.map, List.headD, List.take, List.drop, ↓reduceIte, Nat.reduceEqDiff, Nat.reduceAdd, Nat.reduceSub, Nat.reduceLeDiff, reduceCtorEq, implies_true, ne_eq, Tag.cap, List.replicate, allSolid, GVal.solid, Nat.reduceBEq, Nat.reduceMul, Nat.reduceLT, List.length_map, List.length_range, splice, vcA, ↓vcB, vcC, fbFf, e89, d0, false_imp_iff, true_and]
      rw [← he]; rfl
theorem aCont (l : List Int) (t : Tag) (s : List Sp.S) (hl : l.length ≤ 4398046511104) (hs : s.length ≤ 4398046511104) (ho : Sp.Ok s) : GPure Try.prog 71 [.slice (ints l) t, .func (.func 72) [] [.ref [.slice (spl s) .none]]] (.bool (l.any fun a => Sp.hasB s a)) := by
  refine h71.pure mixS (by simp) ?_
  simp only [gstart, s71, List.cons_append, List.nil_append, List.length_cons, List.length_nil, Nat.reduceAdd, Nat.reduceSub, List.replicate_succ, List.replicate_zero]
  simp +contextual -implicitDefEqProofs (maxSteps := 2000000) (disch := omega) only [binV, GVal.cells, grp, GVal.ofConst, ↓resV, resG, List.map, List.headD, List.take, List.drop, ↓reduceIte, Nat.reduceEqDiff, Nat.reduceAdd, Nat.reduceSub, Nat.reduceLeDiff, reduceCtorEq, implies_true, ne_eq, Tag.cap, List.replicate, allSolid, GVal.solid, Nat.reduceBEq, Nat.reduceMul, Nat.reduceLT, List.length_map, List.length_range, splice, vcA, ↓vcB, vcC, fbFf, e71]
  refine (aIdx l t s hl hs ho).then ?_ (by rfl)
  rw [← idxT_ge l s 0 (by omega)]
  simp +contextual -implicitDefEqProofs (maxSteps := 2000000) (disch := omega) only [binV, GVal.cells, grp, GVal.ofConst, ↓resV, resG, List.map, List.headD, List.take, List.drop, ↓reduceIte, Nat.reduceEqDiff, Nat.reduceAdd, Nat.reduceSub, Nat.reduceLeDiff, reduceCtorEq, implies_true, ne_eq, Tag.cap, List.replicate, allSolid, GVal.solid, Nat.reduceBEq, Nat.reduceMul, Nat.reduceLT, List.length_map, List.length_range, splice, vcA, ↓vcB, vcC, fbFf, e71]
theorem aTouches (l : List Int) (t : Tag) (s : List Sp.S) (hl : l.length ≤ 4398046511104) (hs : s.length ≤ 4398046511104) (ho : Sp.Ok s) : GPure Try.prog 55 [.slice (ints l) t, .slice (spl s) .none] (.bool (l.any fun a => Sp.hasB s a)) := by
  refine h55.pure mixS (by simp) ?_
  simp only [gstart, s55, List.cons_append, List.nil_append, List.length_cons, List.length_nil, Nat.reduceAdd, Nat.reduceSub, List.replicate_succ, List.replicate_zero]
  simp +contextual -implicitDefEqProofs (maxSteps := 2000000) (disch := omega) only [↓boxV, GVal.cells, grp, GVal.ofConst, ↓resV, resG, List.map, List.headD, List.take, List.drop, ↓reduceIte, Nat.reduceEqDiff, Nat.reduceAdd, Nat.reduceSub, Nat.reduceLeDiff, reduceCtorEq, implies_true, ne_eq, Tag.cap, List.replicate, allSolid, GVal.solid, Nat.reduceBEq, Nat.reduceMul, Nat.reduceLT, List.length_map, List.length_range, splice, vcA, ↓vcB, vcC, fbFf, e55]
  refine (aCont l t s hl hs ho).then ?_ (by rfl)
  simp +contextual -implicitDefEqProofs (maxSteps := 2000000) (disch := omega) only [↓boxV, GVal.cells, grp, GVal.ofConst, ↓resV, resG, List.map, List.headD, List.take, List.drop, ↓reduceIte, Nat.reduceEqDiff, Nat.reduceAdd, Nat.reduceSub, Nat.reduceLeDiff, reduceCtorEq, implies_true, ne_eq, Tag.cap, List.replicate, allSolid, GVal.solid, Nat.reduceBEq, Nat.reduceMul, Nat.reduceLT, List.length_map, List.length_range, splice, vcA, ↓vcB, vcC, fbFf, e55]
end Gv.Try
/- A dag over a table: what it holds; how it is made. -/
set_option linter.unusedVariables false
set_option linter.unusedSimpArgs false
set_option maxRecDepth 20000
set_option maxHeartbeats 4000000
namespace Gv.Try
open Go Gv Go.Proofs
/-- a dag's cells -/
abbrev dagG (L : List (List Seg)) (N : List Sp.S) (k : Int) : List GVal := [.slice (levsG L) .none, .slice (spl N) .none, .int .i64 k]
/-- what a method gives that leaves its dag as it is -/
def DPure (f : FuncId) (L : List (List Seg)) (N : List Sp.S) (ar : List GVal) (r : GVal) : Prop :=
  ∀ (st : Nat) (k : Int), GCalls Try.prog f (.ptr 0 st 0 0 :: ar) [.row st 3 [dagG L N k]] (fun g O' => ∃ x', O' = [x'] ∧ (g = r ∧ x' = .row st 3 [dagG L N k]))
theorem DPure.then {f : FuncId} {L : List (List Seg)} {N : List Sp.S} {ar : List GVal} {r : GVal} (h : DPure f L N ar r) {O : List GObj} {i st : Nat} {k : Int} {K : GVal → List GObj → Prop}
    (hk : K r O) (hO : O[i]? = some (.row st 3 [dagG L N k]) := by rfl) (hc : clockOf O = none := by rfl) (ha : ar.map (GVal.place i) = ar := by rfl) : GCalls Try.prog f (.ptr i st 0 0 :: ar) O K := by
  have := GCalls.ownFrame (h st k) i hO hc (fun g x' h => by rw [h.2]; rfl) rfl
  rw [List.map_cons, ha] at this
  refine this.mono ?_
  rintro g O' ⟨x', rfl, rfl, rfl⟩
  have e : O.set i (.row st 3 [dagG L N k]) = O := by
    apply List.ext_getElem (by simp)
    intro j h1 h2
    rw [List.getElem_set]
    split
    · rename_i e; subst e
      rw [List.getElem?_eq_getElem h2] at hO
      exact (Option.some.inj hO).symm
    · rfl
  rw [e]; exact hk
theorem aThere (L : List (List Seg)) (N s : List Sp.S) (t : Tag) (hl : s.length + N.length ≤ 4398046511104) (hs : Sp.Ok s) (hN : Sp.Ok N) : DPure 36 L N [.slice (spl s) t] (.slice (spl (Sp.bothS s N)) .none) := by
  intro st k
  refine h36.calls mixS (by simp) ?_
  simp only [gstart, s36, List.cons_append, List.nil_append, List.length_cons, List.length_nil, Nat.reduceAdd, Nat.reduceSub, List.replicate_succ, List.replicate_zero]
  simp +contextual -implicitDefEqProofs (maxSteps := 2000000) (disch := omega) only [optV, ↓loadV, ↓fieldAddrV, ↓sliceV, ↓nilV, bound, cutTag, hiTag, GVal.cells, grp, GVal.ofConst, ↓resV, resG, List.map, List.headD, List.take, List.drop, ↓reduceIte, Nat.reduceEqDiff, Nat.reduceAdd, Nat.reduceSub, Nat.reduceLeDiff, reduceCtorEq, implies_true, ne_eq, Tag.cap, List.replicate, allSolid, GVal.solid, Nat.reduceBEq, Nat.reduceMul, Nat.reduceLT, List.length_map, List.length_range, splice, vcA, ↓vcB, vcC, fbFf, e36]
  refine (sBoth s N t .none hl hs hN).then ?_ (by rfl)
  simp +contextual -implicitDefEqProofs (maxSteps := 2000000) (disch := omega) only [optV, ↓loadV, ↓fieldAddrV, ↓sliceV, ↓nilV, bound, cutTag, hiTag, GVal.cells, grp, GVal.ofConst, ↓resV, resG, List.map, List.headD, List.take, List.drop, ↓reduceIte, Nat.reduceEqDiff, Nat.reduceAdd, Nat.reduceSub, Nat.reduceLeDiff, reduceCtorEq, implies_true, ne_eq, Tag.cap, List.replicate, allSolid, GVal.solid, Nat.reduceBEq, Nat.reduceMul, Nat.reduceLT, List.length_map, List.length_range, splice, vcA, ↓vcB, vcC, fbFf, e36]
  exact ⟨_, rfl, rfl⟩
theorem aAll (L : List (List Seg)) (N : List Sp.S) (hl : N.length ≤ 1000000) : DPure 21 L N [] (.slice (spl N) .none) := by
  intro st k
  refine h21.calls mixS (by simp) ?_
  simp only [gstart, s21, List.cons_append, List.nil_append, List.length_cons, List.length_nil, Nat.reduceAdd, Nat.reduceSub, List.replicate_succ, List.replicate_zero]
  simp +contextual -implicitDefEqProofs (maxSteps := 2000000) (disch := omega) only [optV, ↓loadV, ↓fieldAddrV, ↓sliceV, ↓nilV, bound, cutTag, hiTag, GVal.cells, grp, GVal.ofConst, ↓resV, resG, List.map, List.headD, List.take, List.drop, ↓reduceIte, Nat.reduceEqDiff, Nat.reduceAdd, Nat.reduceSub, Nat.reduceLeDiff, reduceCtorEq, implies_true, ne_eq, Tag.cap, List.replicate, allSolid, GVal.solid, Nat.reduceBEq, Nat.reduceMul, Nat.reduceLT, List.length_map, List.length_range, splice, vcA, ↓vcB, vcC, fbFf, e21]
  refine (cCloneP N hl).then ?_ (by rfl)
  simp +contextual -implicitDefEqProofs (maxSteps := 2000000) (disch := omega) only [optV, ↓loadV, ↓fieldAddrV, ↓sliceV, ↓nilV, bound, cutTag, hiTag, GVal.cells, grp, GVal.ofConst, ↓resV, resG, List.map, List.headD, List.take, List.drop, ↓reduceIte, Nat.reduceEqDiff, Nat.reduceAdd, Nat.reduceSub, Nat.reduceLeDiff, reduceCtorEq, implies_true, ne_eq, Tag.cap, List.replicate, allSolid, GVal.solid, Nat.reduceBEq, Nat.reduceMul, Nat.reduceLT, List.length_map, List.length_range, splice, vcA, ↓vcB, vcC, fbFf, e21]
  exact ⟨_, rfl, rfl⟩
theorem aFlat (L : List (List Seg)) (N : List Sp.S) (h : 1 ≤ L.length) : DPure 52 L N [] (.slice (segsG (L.getD 0 [])) .none) := by
  intro st k
  have e := levsG_at L 0 (by omega)
  refine h52.calls mixS (by simp) ?_
  simp only [gstart, s52, List.cons_append, List.nil_append, List.length_cons, List.length_nil, Nat.reduceAdd, Nat.reduceSub, List.replicate_succ, List.replicate_zero]
  simp +contextual -implicitDefEqProofs (maxSteps := 2000000) (disch := omega) only [optV, ↓loadV, ↓fieldAddrV, ↓indexAddrV, ↓sliceV, ↓nilV, bound, cutTag, hiTag, GVal.cells, grp, GVal.ofConst, ↓resV, resG, List.map, List.headD, List.take, List.drop, ↓reduceIte, Nat.reduceEqDiff, Nat.reduceAdd, Nat.reduceSub, Nat.reduceLeDiff, reduceCtorEq, implies_true, ne_eq, Tag.cap, List.replicate, allSolid, GVal.solid, Nat.reduceBEq, Nat.reduceMul, Nat.reduceLT, List.length_map, List.length_range, splice, vcA, ↓vcB, vcC, fbFf, e52, levsG_length, e, Int.toNat_zero]
  exact ⟨by omega, by omega, _, rfl, rfl⟩
theorem aSteps (L : List (List Seg)) (N : List Sp.S) (k : Int) (st : Nat) : GCalls Try.prog 13 [.ptr 0 st 0 0] [.row st 3 [dagG L N k]] (fun g O' => g = .int .i64 k ∧ O' = [.row st 3 [dagG L N k]]) := by
  refine h13.calls mixS (by simp) ?_
  simp only [gstart, s13, List.cons_append, List.nil_append, List.length_cons, List.length_nil, Nat.reduceAdd, Nat.reduceSub, List.replicate_succ, List.replicate_zero]
  simp +contextual -implicitDefEqProofs (maxSteps := 2000000) (disch := omega) only [↓loadV, ↓fieldAddrV, ↓nilV, GVal.cells, grp, GVal.ofConst, ↓resV, resG, List.map, List.headD, List.take, List.drop, ↓reduceIte, Nat.reduceEqDiff, Nat.reduceAdd, Nat.reduceSub, Nat.reduceLeDiff, reduceCtorEq, implies_true, ne_eq, Tag.cap, List.replicate, allSolid, GVal.solid, Nat.reduceBEq, Nat.reduceMul, Nat.reduceLT, List.length_map, List.length_range, splice, vcA, ↓vcB, vcC, fbFf, e13]
theorem seg_mem {l : List Seg} {k : Nat} (h : k < l.length) : l.getD k default ∈ l := by
  rw [List.getD_eq_getElem?_getD, List.getElem?_eq_getElem h]; exact List.getElem_mem h
/-! what the flat segments are -/
structure FlatS (m o : List (List Int)) (s : Seg) : Prop where
  lo : 0 ≤ s.lo
  le : s.lo ≤ s.hi
  top : s.hi ≤ 1099511628776
  par : s.par = parI m o s.lo
  inn : ∀ id, s.lo ≤ id → id ≤ s.hi → inT m o id
  one : ∀ id, s.lo < id → id ≤ s.hi → parI m o id = [id - 1]
theorem okS_flat {m o : List (List Int)} : ∀ (l : List Seg) (n : Nat), okS m o n l → ∀ s ∈ l, FlatS m o s
  | [], n, h, s, hs => by simp at hs
  | a :: r, n, h, s, hs => by
    simp only [okS] at h
    obtain ⟨⟨h1, h2, h3⟩, h4, h5, h6, h7, h8⟩ := h
    rcases List.mem_cons.1 hs with rfl | hs
    · have hsp : split = 1099511627776 := rfl
      refine ⟨h1, h2, by omega, h5.symm, fun id q1 q2 => ?_, fun id q1 q2 => ?_⟩
      · obtain ⟨a, b, _⟩ := h4 (id - s.lo).toNat (by omega)
        show hasI m.length o.length id = true
        rw [← allI_hasI, show id = s.lo + ((id - s.lo).toNat : Int) by omega, ← b, List.getD_eq_getElem?_getD, List.getElem?_eq_getElem (by rw [allI_len]; exact a)]
        exact List.getElem_mem _
      · obtain ⟨_, _, c⟩ := h4 (id - s.lo).toNat (by omega)
        have c := c (by omega)
        rwa [show s.lo + ((id - s.lo).toNat : Int) = id by omega] at c
    · exact okS_flat r _ h8 s hs
/-- a dag over a table -/
structure DagOK (m o : List (List Int)) (L : List (List Seg)) : Prop where
  tok : TOK m o
  len1 : 1 ≤ L.length
  len4 : L.length ≤ 4
  oks : okS m o 0 (L.getD 0 [])
  segs : ∀ i, i < L.length → SegsOK (L.getD i [])
  okc : ∀ i, i < L.length → okC m o 0 (L.getD i []) (m.length + o.length)
  size : ∀ i, (L.getD i []).length ≤ 1000 ∧ sumP (L.getD i []) ≤ 100000
  lows : ∀ i, i < L.length → ∀ y ∈ L.getD i [], ∃ s ∈ L.getD 0 [], y.lo = s.lo
theorem UpOK.lows {size : Int} {l u : List Seg} (h : UpOK size l u) : ∀ y ∈ u, ∃ s ∈ l, y.lo = s.lo := by
  induction h with
  | nil => intro y hy; simp at hy
  | cons l u n h1 h2 h3 ih =>
    intro y hy
    obtain ⟨n1, n2, n3, n4⟩ := h1
    rcases List.mem_cons.1 hy with rfl | hy
    · refine ⟨(l.take n).getD 0 default, List.mem_of_mem_take (seg_mem (l := l.take n) (k := 0) ?_), rfl⟩
      rw [List.length_take]; omega
    · obtain ⟨s, hs, e⟩ := ih y hy
      exact ⟨s, List.mem_of_mem_drop hs, e⟩
theorem SegsOK.sorted : ∀ {l : List Seg}, SegsOK l → SortedS l
  | [], _ => trivial
  | s :: r, h => by
    have h1 := h.app (a := [s]) (b := r)
    refine ⟨?_, fun x hx => h1.2.2 s (by simp) x hx, SegsOK.sorted h1.2.1⟩
    have := okP_at h (s := s) (by simp)
    unfold okP at this
    simp only at this
    omega
theorem DagOK.of {m o : List (List Int)} (h : TOK m o) {l : List Seg} (hl : okS m o 0 l) (hn : l.length ≤ 1000) {size : Int} {L : List (List Seg)} (hL : LevOK size l L) : DagOK m o L := by
  have hsg := (okS_segs h.len _ 0 hl).1
  have hoC := okS_C h.len h.right _ 0 hl
  have hsegs := hL.segs hsg
  obtain ⟨L1, L2, L3, L4, L5⟩ := hL
  have hC : ∀ i, i < L.length → okC m o 0 (L.getD i []) (m.length + o.length) := by
    intro i
    induction i with
    | zero => intro _; rw [L3]; exact hoC
    | succ i ih => intro hi; exact (L4 i hi).1.okC h.len _ _ (hsegs i (by omega)) (ih (by omega))
  have hlow : ∀ i, i < L.length → ∀ y ∈ L.getD i [], ∃ s ∈ L.getD 0 [], y.lo = s.lo := by
    intro i
    induction i with
    | zero => intro _ y hy; exact ⟨y, hy, rfl⟩
    | succ i ih =>
      intro hi y hy
      obtain ⟨s, hs, e⟩ := (L4 i hi).1.lows y hy
      obtain ⟨q, hq, e2⟩ := ih (by omega) s hs
      exact ⟨q, hq, by rw [e, e2]⟩
  exact ⟨h, L1, L2, by rw [L3]; exact hl, hsegs, hC, L5, hlow⟩
theorem DagOK.flat {m o : List (List Int)} {L : List (List Seg)} (h : DagOK m o L) : ∀ s ∈ L.getD 0 [], FlatS m o s := okS_flat _ 0 h.oks
theorem allI_idx {a b : Nat} {x : Int} (h : x ∈ allI a b) : ∃ i, i < a + b ∧ (allI a b).getD i 0 = x := by
  obtain ⟨i, hi, e⟩ := List.getElem_of_mem h
  exact ⟨i, by rw [allI_len] at hi; exact hi, by rw [List.getD_eq_getElem?_getD, List.getElem?_eq_getElem hi]; exact e⟩
/-- an ID is in a segment of each level -/
theorem DagOK.seg {m o : List (List Int)} {L : List (List Seg)} (h : DagOK m o L) {i : Nat} (hi : i < L.length) {x : Int} (hx : inT m o x) : ∃ k, k < (L.getD i []).length ∧ inS x ((L.getD i []).getD k default) ∧ fnd x (L.getD i []) 0 = ((k : Int), true) := by
  obtain ⟨j, hj, e⟩ := allI_idx ((allI_hasI _ _ _).2 hx)
  obtain ⟨s, hs, h1, h2⟩ := okC_in m o _ _ _ (h.okc i hi) j (by omega) hj
  rw [e] at h1 h2
  obtain ⟨k, hk, ek⟩ := List.getElem_of_mem hs
  have ek' : (L.getD i []).getD k default = s := by rw [List.getD_eq_getElem?_getD, List.getElem?_eq_getElem hk]; exact ek
  refine ⟨k, hk, by rw [ek']; exact ⟨h1, h2⟩, ?_⟩
  rw [fnd_yes x (L.getD i []) k 0 hk (by rw [ek']; exact ⟨h1, h2⟩) (fun j hj hin => ?_), Nat.zero_add]
  have := (h.segs i hi).sorted.at_ j k hj hk
  rw [ek'] at this
  obtain ⟨_, h4⟩ := hin
  omega
theorem DagOK.segH {m o : List (List Int)} {L : List (List Seg)} (h : DagOK m o L) {i : Nat} (hi : i < L.length) {k : Nat} (hk : k < (L.getD i []).length) : SegH m o ((L.getD i []).getD k default) := by
  have := (okC_le m o _ _ _ (h.okc i hi)).2.2
  exact this _ (seg_mem hk)
/-- all IDs -/
def allN (L : List (List Seg)) : List Sp.S := Sp.nf (spansOf (L.getD 0 []))
theorem allN_rt (L : List (List Seg)) : Sp.Rt 0 (allN L) := Sp.nf_rt _
theorem DagOK.allHas {m o : List (List Int)} {L : List (List Seg)} (h : DagOK m o L) (n : Int) : Sp.has (allN L) n ↔ inT m o n := by
  unfold allN
  rw [Sp.nf_has]
  constructor
  · rintro ⟨p, hp, h0, h1, h2⟩
    obtain ⟨s, hs, rfl⟩ := List.mem_map.1 hp
    exact (h.flat s hs).inn n h1 h2
  · intro hn
    obtain ⟨k, hk, hin, _⟩ := h.seg (i := 0) (by have := h.len1; omega) hn
    refine ⟨_, List.mem_map.2 ⟨(L.getD 0 []).getD k default, seg_mem hk, rfl⟩, (inT_range h.tok hn).1, hin.1, hin.2⟩
theorem DagOK.allEq {m o : List (List Int)} {L : List (List Seg)} (h : DagOK m o L) : allN L = idsP m o (fun _ => True) := idsP_eq (allN_rt L) fun n => by rw [h.allHas]; simp
theorem DagOK.allOk {m o : List (List Int)} {L : List (List Seg)} (h : DagOK m o L) : Sp.Ok (allN L) := by rw [h.allEq]; exact idsP_ok h.tok _
theorem DagOK.allLen {m o : List (List Int)} {L : List (List Seg)} (h : DagOK m o L) : (allN L).length ≤ 1000 := by rw [h.allEq]; have := idsP_len m o (fun _ => True); have := h.tok.len; omega
/-- those of a set that are there -/
theorem DagOK.thereEq {m o : List (List Int)} {L : List (List Seg)} (h : DagOK m o L) (s : List Sp.S) : Sp.bothS s (allN L) = idsP m o (Sp.has s) :=
  idsP_eq (Sp.bothS_rt _ _) fun n => by rw [Sp.bothS_has, h.allHas]; exact and_comm
theorem spansOf_len (l : List Seg) : (spansOf l).length = l.length := by simp [spansOf]
theorem spansOf_take (l : List Seg) (k : Nat) (h : k < l.length) : spansOf (l.take (k + 1)) = spansOf (l.take k) ++ [((l.getD k default).lo, (l.getD k default).hi)] := by
  unfold spansOf
  rw [List.take_add_one, List.map_append]; simp [List.getD, h]
theorem rel35 (l : List Seg) (size : Int) (hl : l.length ≤ 1000) (hp : sumP l ≤ 100000) (hs : 2 ≤ size) (hok : Sp.Ok (spansOf l)) :
    GCalls Try.prog 35 [.slice (segsG l) .none, .int .i64 size] [] (fun g O' => ∃ st L, g = .ptr 0 st 0 0 ∧ O' = [.row st 3 [dagG L (Sp.nf (spansOf l)) 0]] ∧ LevOK size l L) := by
  refine GCalls.dropTo ?_
  refine h35.calls mixS (by simp) ?_
  simp only [gstart, s35, List.cons_append, List.nil_append, List.length_cons, List.length_nil, Nat.reduceAdd, Nat.reduceSub, List.replicate_succ, List.replicate_zero]
  simp +contextual -implicitDefEqProofs (maxSteps := 2000000) (disch := omega) only [drawC, ↓lenV, binV, ↓loadV, ↓storeV, ↓fieldAddrV, ↓indexAddrV, ↓allocV, ↓boxV, ↓buildV, ↓buildSliceV, ↓nilV, ↓appendV, ↓srcV, fillG, fillE, place, GVal.cells, grp, GVal.ofConst, ↓resV, resG, List.map, List.headD, List.take, List.drop, ↓reduceIte, Nat.reduceEqDiff, Nat.reduceAdd, Nat.reduceSub, Nat.reduceLeDiff, reduceCtorEq, implies_true, ne_eq, ↓asrcV, Tag.cap, List.replicate, allSolid, GVal.solid, Nat.reduceBEq, Nat.reduceMul, Nat.reduceLT, List.length_map, List.length_range, splice, vcA, ↓vcB, vcC, fbFf, e35]
  refine (rel21 l size hl hp hs).then ?_
  rintro g ⟨L, rfl, hL⟩
  simp +contextual -implicitDefEqProofs (maxSteps := 2000000) (disch := omega) only [drawC, ↓lenV, binV, ↓loadV, ↓storeV, ↓fieldAddrV, ↓indexAddrV, ↓allocV, ↓boxV, ↓buildV, ↓buildSliceV, ↓nilV, ↓appendV, ↓srcV, fillG, fillE, place, GVal.cells, grp, GVal.ofConst, ↓resV, resG, List.map, List.headD, List.take, List.drop, ↓reduceIte, Nat.reduceEqDiff, Nat.reduceAdd, Nat.reduceSub, Nat.reduceLeDiff, reduceCtorEq, implies_true, ne_eq, ↓asrcV, Tag.cap, List.replicate, allSolid, GVal.solid, Nat.reduceBEq, Nat.reduceMul, Nat.reduceLT, List.length_map, List.length_range, splice, vcA, ↓vcB, vcC, fbFf, e35]
  intro st
  have hsz : (spansOf l).length = l.length := spansOf_len l
  refine vcSLoop_by (ι := { p : Nat × Nat // p.1 ≤ l.length }) (fun p => ⟨[.any, .any, .any, .any, .any, .ptr 0 st 0 0, .any, .any, .any, .any, .any, .any, .any, .slice (segsG l) .none, .int .i64 l.length, .int .i64 (p.1.1 : Nat)] ++ List.replicate 27 .any, [.row st 3 [[.slice (levsG L) .none, .slice (spl (spansOf (l.take p.1.1))) (.tok 1 p.1.2), .int .i64 0]], .tok p.1.2 2]⟩) (fun p => l.length - p.1.1) ?_ ?_
  · refine Into.cellTok 0 1 2 [] (tg := .nil) rfl rfl rfl rfl ?_
    simp +contextual -implicitDefEqProofs (maxSteps := 2000000) (disch := omega) only [drawC, ↓lenV, binV, ↓loadV, ↓storeV, ↓fieldAddrV, ↓indexAddrV, ↓allocV, ↓boxV, ↓buildV, ↓buildSliceV, ↓nilV, ↓appendV, ↓srcV, fillG, fillE, place, GVal.cells, grp, GVal.ofConst, ↓resV, resG, List.map, List.headD, List.take, List.drop, ↓reduceIte, Nat.reduceEqDiff, Nat.reduceAdd, Nat.reduceSub, Nat.reduceLeDiff, reduceCtorEq, implies_true, ne_eq, ↓asrcV, Tag.cap, List.replicate, allSolid, GVal.solid, Nat.reduceBEq, Nat.reduceMul, Nat.reduceLT, List.length_map, List.length_range, splice, vcA, ↓vcB, vcC, fbFf, e35]
    intro u
    exact Into.first ⟨(0, u), by omega⟩ ⟨[], by simp [spansOf, spl]⟩ (by simp [WL, leG_self, leG_any, segsG_length])
  · rintro ⟨⟨k, u⟩, hk⟩
    change k ≤ l.length at hk
    by_cases h : k < l.length
    · have d0 : ((k : Int) < (l.length : Int)) = True := eq_true (by omega)
      have eS := segsG_at l k h
      have eN := spansOf_take l k h
      have lk : (spansOf (l.take k)).length = k := by rw [spansOf_len, List.length_take]; omega
      generalize l.getD k default = s at *
      generalize spansOf (l.take k) = A at *
      simp +contextual -implicitDefEqProofs (maxSteps := 2000000) (disch := omega) only [drawC, ↓lenV, binV, ↓loadV, ↓storeV, ↓fieldAddrV, ↓indexAddrV, ↓allocV, ↓boxV, ↓buildV, ↓buildSliceV, ↓nilV, ↓appendV, ↓srcV, fillG, fillE, place, GVal.cells, grp, GVal.ofConst, ↓resV, resG, List.map, List.headD, List.take, List.drop, ↓reduceIte, Nat.reduceEqDiff, Nat.reduceAdd, Nat.reduceSub, Nat.reduceLeDiff, reduceCtorEq, implies_true, ne_eq, ↓asrcV, Tag.cap, List.replicate, allSolid, GVal.solid, Nat.reduceBEq, Nat.reduceMul, Nat.reduceLT, List.length_map, List.length_range, splice, vcA, ↓vcB, vcC, fbFf, e35, segsG_length, d0, eS, segG, spl_length, all_spl, lk]
      refine ⟨by omega, fun st1 => ⟨by omega, by omega, fun st2 => ?_⟩⟩
      exact Into.at ⟨(k + 1, st2), by show k + 1 ≤ _; omega⟩ (by show _ < _; simp; omega) ⟨[.row st1 5 [segG s]], by simp [eN, spl_append, spl_one, spG, segG]⟩ (by simp [WL, leG_self, leG_any, leG_int])
    · have d0 : ((k : Int) < (l.length : Int)) = False := eq_false (by omega)
      have e : k = l.length := by omega
      subst e
      simp +contextual -implicitDefEqProofs (maxSteps := 2000000) (disch := omega) only [drawC, ↓lenV, binV, ↓loadV, ↓storeV, ↓fieldAddrV, ↓indexAddrV, ↓allocV, ↓boxV, ↓buildV, ↓buildSliceV, ↓nilV, ↓appendV, ↓srcV, fillG, fillE, place, GVal.cells, grp, GVal.ofConst, ↓resV, resG, List.map, List.headD, List.take, List.drop, ↓reduceIte, Nat.reduceEqDiff, Nat.reduceAdd, Nat.reduceSub, Nat.reduceLeDiff, reduceCtorEq, implies_true, ne_eq, ↓asrcV, Tag.cap, List.replicate, allSolid, GVal.solid, Nat.reduceBEq, Nat.reduceMul, Nat.reduceLT, List.length_map, List.length_range, splice, vcA, ↓vcB, vcC, fbFf, e35, segsG_length, d0, List.take_length]
      refine (sMake (spansOf l) _ (by omega) hok).then ?_ (by rfl)
      simp +contextual -implicitDefEqProofs (maxSteps := 2000000) (disch := omega) only [drawC, ↓lenV, binV, ↓loadV, ↓storeV, ↓fieldAddrV, ↓indexAddrV, ↓allocV, ↓boxV, ↓buildV, ↓buildSliceV, ↓nilV, ↓appendV, ↓srcV, fillG, fillE, place, GVal.cells, grp, GVal.ofConst, ↓resV, resG, List.map, List.headD, List.take, List.drop, ↓reduceIte, Nat.reduceEqDiff, Nat.reduceAdd, Nat.reduceSub, Nat.reduceLeDiff, reduceCtorEq, implies_true, ne_eq, ↓asrcV, Tag.cap, List.replicate, allSolid, GVal.solid, Nat.reduceBEq, Nat.reduceMul, Nat.reduceLT, List.length_map, List.length_range, splice, vcA, ↓vcB, vcC, fbFf, e35]
      exact ⟨.ptr 0 st 0 0, [.row st 3 [dagG L (Sp.nf (spansOf l)) 0]], [.tok u 2], rfl, by unfold leA; simp [leG_self], st, L, rfl, rfl, hL⟩
theorem buildI_len {m o : List (List Int)} (h : TOK m o) : (buildI m o).length ≤ 1000 := by
  have l1 := (lrun_len 0 m m.length).1
  have l2 := (lrun_len split o o.length).1
  have := h.len
  rw [buildI, if_pos h.right, List.length_append, linesI, linesI]; omega
theorem flat_par4 {m o : List (List Int)} (h : TOK m o) {s : Seg} (hs : FlatS m o s) : s.par.length ≤ 4 := by
  rw [hs.par]; exact okRow_len h.right _
theorem sumP_le4 : ∀ (l : List Seg), (∀ s ∈ l, s.par.length ≤ 4) → sumP l ≤ 4 * l.length
  | [], _ => by simp [sumP]
  | a :: l, h => by
    have := sumP_le4 l fun s hs => h s (by simp [hs])
    have := h a (by simp)
    simp only [sumP, List.length_cons]; omega
theorem okS_ok {m o : List (List Int)} {l : List Seg} (h : okS m o 0 l) : Sp.Ok (spansOf l) := fun p hp => by
  obtain ⟨s, hs, rfl⟩ := List.mem_map.1 hp
  have f := okS_flat l 0 h s hs
  have := f.lo
  have := f.le
  have := f.top
  simp only
  omega
theorem aOver {m o : List (List Int)} (h : TOK m o) {l : List Seg} (hl : okS m o 0 l) (hn : l.length ≤ 1000) (size : Int) (hs : 2 ≤ size) :
    GCalls Try.prog 35 [.slice (segsG l) .none, .int .i64 size] [] (fun g O' => ∃ st L, g = .ptr 0 st 0 0 ∧ O' = [.row st 3 [dagG L (allN L) 0]] ∧ DagOK m o L ∧ LevOK size l L) := by
  have hp : sumP l ≤ 100000 := by
    have := sumP_le4 l fun s hs => flat_par4 h (okS_flat l 0 hl s hs)
    omega
  refine (rel35 l size hn hp hs (okS_ok hl)).mono ?_
  rintro g O' ⟨st, L, rfl, rfl, hL⟩
  have e : L.getD 0 [] = l := hL.2.2.1
  exact ⟨st, L, rfl, by rw [allN, e], .of h hl hn hL, hL⟩
theorem aNew {m o : List (List Int)} (h : TOK m o) (tm to : Tag) (size : Int) (hs : 2 ≤ size) :
    GCalls Try.prog 9 [.agg [.slice (tabG m) tm, .slice (tabG o) to], .int .i64 size] [] (fun g O' => ∃ st L, g = .ptr 0 st 0 0 ∧ O' = [.row st 3 [dagG L (allN L) 0]] ∧ DagOK m o L ∧ LevOK size (buildI m o) L) := by
  have hl := h.len
  have hm4 : ∀ p ∈ m, p.length ≤ 17592186044416 := fun p hp => by
    have hr := h.right; rw [rightI, Bool.and_eq_true] at hr; have := okG_row hr.1 p hp; omega
  have ho4 : ∀ p ∈ o, p.length ≤ 17592186044416 := fun p hp => by
    have hr := h.right; rw [rightI, Bool.and_eq_true] at hr; have := okG_row hr.2 p hp; omega
  have hoS := build_okS m o (by omega) (by omega) h.right
  have c34 := spec34 m o tm to (by omega) (by omega) hm4 ho4
  rw [h.right] at c34
  refine h9.calls mixS (by simp) ?_
  simp only [gstart, s9, List.cons_append, List.nil_append, List.length_cons, List.length_nil, Nat.reduceAdd, Nat.reduceSub, List.replicate_succ, List.replicate_zero]
  simp +contextual -implicitDefEqProofs (maxSteps := 2000000) (disch := omega) only [binV, ↓unV, ↓loadV, ↓boxV, GVal.cells, grp, GVal.ofConst, ↓resV, resG, List.map, List.headD, List.take, List.drop, ↓reduceIte, Nat.reduceEqDiff, Nat.reduceAdd, Nat.reduceSub, Nat.reduceLeDiff, reduceCtorEq, implies_true, ne_eq, Tag.cap, List.replicate, allSolid, GVal.solid, Nat.reduceBEq, Nat.reduceMul, Nat.reduceLT, List.length_map, List.length_range, splice, vcA, ↓vcB, vcC, fbFf, e9]
  refine c34.then ?_ (by rfl)
  have d0 : (size < 2) = False := eq_false (by omega)
  simp +contextual -implicitDefEqProofs (maxSteps := 2000000) (disch := omega) only [binV, ↓unV, ↓loadV, ↓boxV, GVal.cells, grp, GVal.ofConst, ↓resV, resG, List.map, List.headD, List.take, List.drop, ↓reduceIte, Nat.reduceEqDiff, Nat.reduceAdd, Nat.reduceSub, Nat.reduceLeDiff, reduceCtorEq, implies_true, ne_eq, Tag.cap, List.replicate, allSolid, GVal.solid, Nat.reduceBEq, Nat.reduceMul, Nat.reduceLT, List.length_map, List.length_range, splice, vcA, ↓vcB, vcC, fbFf, e9, d0]
  refine (spec12 m o tm to (by omega) (by omega) hm4 ho4).then ?_ (by rfl)
  simp +contextual -implicitDefEqProofs (maxSteps := 2000000) (disch := omega) only [binV, ↓unV, ↓loadV, ↓boxV, GVal.cells, grp, GVal.ofConst, ↓resV, resG, List.map, List.headD, List.take, List.drop, ↓reduceIte, Nat.reduceEqDiff, Nat.reduceAdd, Nat.reduceSub, Nat.reduceLeDiff, reduceCtorEq, implies_true, ne_eq, Tag.cap, List.replicate, allSolid, GVal.solid, Nat.reduceBEq, Nat.reduceMul, Nat.reduceLT, List.length_map, List.length_range, splice, vcA, ↓vcB, vcC, fbFf, e9, d0]
  refine (aOver h hoS (buildI_len h) size hs).mono ?_
  rintro g O' ⟨st, L, rfl, rfl, h1, h2⟩
  simp +contextual -implicitDefEqProofs (maxSteps := 2000000) (disch := omega) only [binV, ↓unV, ↓loadV, ↓boxV, GVal.cells, grp, GVal.ofConst, ↓resV, resG, List.map, List.headD, List.take, List.drop, ↓reduceIte, Nat.reduceEqDiff, Nat.reduceAdd, Nat.reduceSub, Nat.reduceLeDiff, reduceCtorEq, implies_true, ne_eq, Tag.cap, List.replicate, allSolid, GVal.solid, Nat.reduceBEq, Nat.reduceMul, Nat.reduceLT, List.length_map, List.length_range, splice, vcA, ↓vcB, vcC, fbFf, e9]
  exact ⟨st, L, rfl, rfl, h1, h2⟩
end Gv.Try
/- Contracts: parents and children of a set. -/
set_option linter.unusedVariables false
set_option linter.unusedSimpArgs false
set_option maxRecDepth 20000
set_option maxHeartbeats 8000000
namespace Gv.Try
open Go Gv Go.Proofs
theorem both_bounds {S : List Sp.S} {lo hi : Int} {x : Sp.S} (hx : x ∈ Sp.bothS S [(lo, hi)]) : 0 ≤ x.1 ∧ x.1 ≤ x.2 ∧ lo ≤ x.1 ∧ x.2 ≤ hi := by
  have h1 := (Sp.bothS_rt S [(lo, hi)]).mem hx
  have h2 := ((Sp.bothS_has _ _ _).1 ((Sp.bothS_rt S [(lo, hi)]).lo (Int.le_refl _) hx)).2
  have h3 := ((Sp.bothS_has _ _ _).1 ((Sp.bothS_rt S [(lo, hi)]).hi (Int.le_refl _) hx)).2
  obtain ⟨p, hp, a1, a2, a3⟩ := h2
  obtain ⟨q, hq, b1, b2, b3⟩ := h3
  simp only [List.mem_singleton] at hp hq
  subst hp; subst hq
  simp only at a2 b3
  omega
theorem has_moved (S : List Sp.S) (b n : Int) : Sp.has (movedS S b) n ↔ ∃ x ∈ S, 0 ≤ n ∧ x.1 ≤ n - b ∧ n - b ≤ x.2 := by
  unfold Sp.has movedS
  constructor
  · rintro ⟨s, hs, h0, h1, h2⟩
    obtain ⟨x, hx, rfl⟩ := List.mem_map.1 hs
    simp only at h1 h2
    exact ⟨x, hx, h0, by omega, by omega⟩
  · rintro ⟨x, hx, h0, h1, h2⟩
    exact ⟨_, List.mem_map.2 ⟨x, hx, rfl⟩, h0, by simp only; omega, by simp only; omega⟩
theorem has_flatMap {α : Type} (l : List α) (f : α → List Sp.S) (n : Int) : Sp.has (l.flatMap f) n ↔ ∃ x ∈ l, Sp.has (f x) n := by
  unfold Sp.has
  constructor
  · rintro ⟨s, hs, h⟩
    obtain ⟨x, hx, hs⟩ := List.mem_flatMap.1 hs
    exact ⟨x, hx, s, hs, h⟩
  · rintro ⟨x, hx, s, hs, h⟩
    exact ⟨s, List.mem_flatMap.2 ⟨x, hx, hs⟩, h⟩
theorem flatMap_len {α : Type} (f : α → List Sp.S) (c : Nat) : ∀ (l : List α), (∀ x ∈ l, (f x).length ≤ c) → (l.flatMap f).length ≤ l.length * c
  | [], _ => by simp
  | a :: r, h => by
    have h1 := flatMap_len f c r fun x hx => h x (by simp [hx])
    have h2 := h a (by simp)
    rw [List.flatMap_cons, List.length_append, List.length_cons, Nat.succ_mul]; omega
theorem flatMap_take {α : Type} (f : α → List Sp.S) (l : List α) (d : α) (k : Nat) (h : k < l.length) : (l.take (k + 1)).flatMap f = (l.take k).flatMap f ++ f (l.getD k d) := by
  rw [List.take_add_one, List.flatMap_append]; simp [List.getD, h]
theorem getD_bounds {l : List Int} {a b : Int} (h : ∀ x ∈ l, a ≤ x ∧ x ≤ b) (ha : a ≤ 0) (hb : 0 ≤ b) (i : Nat) : a ≤ l.getD i 0 ∧ l.getD i 0 ≤ b := by
  by_cases hi : i < l.length
  · exact h _ (getD_mem hi)
  · rw [List.getD_eq_getElem?_getD, List.getElem?_eq_none (by omega)]; exact ⟨ha, hb⟩
theorem idsOk {m o : List (List Int)} (h : TOK m o) {l : List Int} (hl : ∀ p ∈ l, inT m o p) : Sp.Ok (l.map fun i => (i, i)) := fun s hs => by
  obtain ⟨i, hi, rfl⟩ := List.mem_map.1 hs
  have := inT_range h (hl i hi)
  simp only; omega
/-- what a segment gives: its IDs' parents -/
def parOut (S : List Sp.S) (x : Seg) : List Sp.S := (if Sp.hasB S x.lo = true then Sp.nf (x.par.map fun i => (i, i)) else []) ++ movedS (Sp.bothS S [(x.lo + 1, x.hi)]) (-1)
theorem parOut_len {m o : List (List Int)} (h : TOK m o) {S : List Sp.S} {x : Seg} (hx : FlatS m o x) (hS : S.length ≤ 1000) : (parOut S x).length ≤ 1005 := by
  unfold parOut
  have h1 := flat_par4 h hx
  have h2 := Sp.nf_len (x.par.map fun i => (i, i))
  have h3 := Sp.bothS_len S [(x.lo + 1, x.hi)]
  rw [List.length_map] at h2
  rw [List.length_append, movedS_len]
  split <;> simp at * <;> omega
theorem parOut_ok {m o : List (List Int)} (h : TOK m o) {S : List Sp.S} {x : Seg} (hx : FlatS m o x) : Sp.Ok (parOut S x) := by
  refine Sp.Ok.app ?_ ?_
  · split
    · exact Sp.nf_ok (idsOk h fun p hp => by rw [hx.par] at hp; exact (h.par hp).2)
    · exact Sp.Ok.nil
  · intro s hs
    obtain ⟨y, hy, rfl⟩ := List.mem_map.1 hs
    have := both_bounds hy
    have := hx.top
    simp only; omega
theorem parOut_has {m o : List (List Int)} (h : TOK m o) {S : List Sp.S} {x : Seg} (hx : FlatS m o x) (n : Int) : Sp.has (parOut S x) n ↔ ∃ y, x.lo ≤ y ∧ y ≤ x.hi ∧ Sp.has S y ∧ n ∈ parI m o y := by
  unfold parOut
  rw [Sp.has_app, has_moved]
  constructor
  · rintro (h1 | ⟨p, hp, h0, h1, h2⟩)
    · split at h1
      · rename_i hq
        rw [Sp.nf_has, has_ones _ _ (fun p hp => by rw [hx.par] at hp; exact (inT_range h (h.par hp).2).1)] at h1
        exact ⟨x.lo, Int.le_refl _, hx.le, (Sp.hasB_iff _ _).1 hq, by rw [← hx.par]; exact h1⟩
      · exact absurd h1 (by simp [Sp.has])
    · have hb := both_bounds hp
      have hh : Sp.has (Sp.bothS S [(x.lo + 1, x.hi)]) (n + 1) := ⟨p, hp, by omega, by omega, by omega⟩
      refine ⟨n + 1, by omega, by omega, ((Sp.bothS_has _ _ _).1 hh).1, ?_⟩
      rw [hx.one (n + 1) (by omega) (by omega)]; simp
  · rintro ⟨y, h1, h2, h3, h4⟩
    by_cases e : y = x.lo
    · left
      rw [e] at h3 h4
      rw [if_pos ((Sp.hasB_iff _ _).2 h3), Sp.nf_has, has_ones _ _ (fun p hp => by rw [hx.par] at hp; exact (inT_range h (h.par hp).2).1), hx.par]
      exact h4
    · right
      rw [hx.one y (by omega) h2] at h4
      have en : n = y - 1 := by simpa using h4
      have hlo := hx.lo
      have hh : Sp.has (Sp.bothS S [(x.lo + 1, x.hi)]) y := (Sp.bothS_has _ _ _).2 ⟨h3, (x.lo + 1, x.hi), by simp, by omega, by simp only; omega, by simp only; omega⟩
      obtain ⟨p, hp, a0, a1, a2⟩ := hh
      exact ⟨p, hp, by omega, by omega, by omega⟩
theorem DagOK.parEq {m o : List (List Int)} {L : List (List Seg)} (h : DagOK m o L) (s : List Sp.S) : Sp.nf ((L.getD 0 []).flatMap (parOut (idsP m o (Sp.has s)))) = idsP m o (pP m o s) := by
  refine idsP_eq (Sp.nf_rt _) fun n => ?_
  rw [Sp.nf_has, has_flatMap]
  constructor
  · rintro ⟨x, hx, hn⟩
    obtain ⟨y, h1, h2, h3, h4⟩ := (parOut_has h.tok (h.flat x hx) n).1 hn
    have := (idsP_has _ _ _ _).1 h3
    exact ⟨(h.tok.par h4).2, y, this.1, this.2, h4⟩
  · rintro ⟨hn, y, hy, hs, hp⟩
    obtain ⟨k, hk, hin, _⟩ := h.seg (i := 0) (by have := h.len1; omega) hy
    exact ⟨_, seg_mem hk, (parOut_has h.tok (h.flat _ (seg_mem hk)) n).2 ⟨y, hin.1, hin.2, (idsP_has _ _ _ _).2 ⟨hy, hs⟩, hp⟩⟩
theorem aParents {m o : List (List Int)} {L : List (List Seg)} (h : DagOK m o L) (s : List Sp.S) (t : Tag) (hl : s.length ≤ 1000000) (hs : Sp.Ok s) : DPure 28 L (allN L) [.slice (spl s) t] (.slice (spl (idsP m o (pP m o s))) .none) := by
  intro st kk
  have hS := h.thereEq s
  have lS := idsP_len m o (Sp.has s)
  have oS := idsP_ok h.tok (Sp.has s)
  have hN := h.allLen
  have hT := h.tok.len
  have eP := h.parEq s
  have hfl := h.flat
  have hll := (h.size 0).1
  refine GCalls.dropTo ?_
  refine h28.calls mixS (by simp) ?_
  simp only [gstart, s28, List.cons_append, List.nil_append, List.length_cons, List.length_nil, Nat.reduceAdd, Nat.reduceSub, List.replicate_succ, List.replicate_zero]
  simp +contextual -implicitDefEqProofs (maxSteps := 2000000) (disch := omega) only [↓lenV, binV, optV, ↓loadV, ↓storeV, ↓fieldAddrV, ↓indexAddrV, ↓allocV, ↓sliceV, ↓appendV, ↓srcV, bound, cutTag, hiTag, GVal.cells, grp, GVal.ofConst, ↓resV, resG, List.map, List.headD, List.take, List.drop, ↓reduceIte, Nat.reduceEqDiff, Nat.reduceAdd, Nat.reduceSub, Nat.reduceLeDiff, reduceCtorEq, implies_true, ne_eq, ↓asrcV, Tag.cap, List.replicate, allSolid, GVal.solid, Nat.reduceBEq, Nat.reduceMul, Nat.reduceLT, List.length_map, List.length_range, splice, vcA, ↓vcB, vcC, fbFf, e28]
  refine (aThere L (allN L) s t (by omega) hs h.allOk).then ?_
  rw [hS]
  generalize idsP m o (Sp.has s) = S at *
  simp +contextual -implicitDefEqProofs (maxSteps := 2000000) (disch := omega) only [↓lenV, binV, optV, ↓loadV, ↓storeV, ↓fieldAddrV, ↓indexAddrV, ↓allocV, ↓sliceV, ↓appendV, ↓srcV, bound, cutTag, hiTag, GVal.cells, grp, GVal.ofConst, ↓resV, resG, List.map, List.headD, List.take, List.drop, ↓reduceIte, Nat.reduceEqDiff, Nat.reduceAdd, Nat.reduceSub, Nat.reduceLeDiff, reduceCtorEq, implies_true, ne_eq, ↓asrcV, Tag.cap, List.replicate, allSolid, GVal.solid, Nat.reduceBEq, Nat.reduceMul, Nat.reduceLT, List.length_map, List.length_range, splice, vcA, ↓vcB, vcC, fbFf, e28]
  refine (aFlat L (allN L) h.len1).then ?_
  generalize L.getD 0 [] = l at *
  simp +contextual -implicitDefEqProofs (maxSteps := 2000000) (disch := omega) only [↓lenV, binV, optV, ↓loadV, ↓storeV, ↓fieldAddrV, ↓indexAddrV, ↓allocV, ↓sliceV, ↓appendV, ↓srcV, bound, cutTag, hiTag, GVal.cells, grp, GVal.ofConst, ↓resV, resG, List.map, List.headD, List.take, List.drop, ↓reduceIte, Nat.reduceEqDiff, Nat.reduceAdd, Nat.reduceSub, Nat.reduceLeDiff, reduceCtorEq, implies_true, ne_eq, ↓asrcV, Tag.cap, List.replicate, allSolid, GVal.solid, Nat.reduceBEq, Nat.reduceMul, Nat.reduceLT, List.length_map, List.length_range, splice, vcA, ↓vcB, vcC, fbFf, e28, segsG_length]
  have olen : ∀ k, ((l.take k).flatMap (parOut S)).length ≤ k * 1005 := fun k => by
    have := flatMap_len (parOut S) 1005 (l.take k) fun x hx => parOut_len h.tok (hfl x (List.mem_of_mem_take hx)) (by omega)
    rw [List.length_take] at this
    have : min k l.length * 1005 ≤ k * 1005 := Nat.mul_le_mul_right _ (Nat.min_le_left _ _)
    omega
  refine vcSLoop_by (ι := { p : Nat × Nat // p.1 ≤ l.length }) (fun p => ⟨[.ptr 0 st 0 0, .slice (spl S) .none, .any, .any, .any, .slice (spl ((l.take p.1.1).flatMap (parOut S))) (.tok 1 p.1.2), .any, .any, .any, .any, .any, .any, .slice (segsG l) .none, .int .i64 l.length, .int .i64 (p.1.1 : Nat)] ++ List.replicate 25 .any, [.row st 3 [dagG L (allN L) kk], .tok p.1.2 2]⟩) (fun p => l.length - p.1.1) ?_ ?_
  · refine Into.tok 5 2 [] rfl rfl ?_
    simp +contextual -implicitDefEqProofs (maxSteps := 2000000) (disch := omega) only [↓lenV, binV, optV, ↓loadV, ↓storeV, ↓fieldAddrV, ↓indexAddrV, ↓allocV, ↓sliceV, ↓appendV, ↓srcV, bound, cutTag, hiTag, GVal.cells, grp, GVal.ofConst, ↓resV, resG, List.map, List.headD, List.take, List.drop, ↓reduceIte, Nat.reduceEqDiff, Nat.reduceAdd, Nat.reduceSub, Nat.reduceLeDiff, reduceCtorEq, implies_true, ne_eq, ↓asrcV, Tag.cap, List.replicate, allSolid, GVal.solid, Nat.reduceBEq, Nat.reduceMul, Nat.reduceLT, List.length_map, List.length_range, splice, vcA, ↓vcB, vcC, fbFf, e28]
    intro u
    exact Into.first ⟨(0, u), by omega⟩ ⟨[], by simp [spl]⟩ (by simp [WL, leG_self, leG_any, spl])
  · rintro ⟨⟨k, u⟩, hk⟩
    change k ≤ l.length at hk
    by_cases hkl : k < l.length
    · have d0 : ((k : Int) < (l.length : Int)) = True := eq_true (by omega)
      have eS := segsG_at l k hkl
      have eN := flatMap_take (parOut S) l default k hkl
      have lk := olen k
      have hF := hfl _ (seg_mem hkl)
      have hp4 := flat_par4 h.tok hF
      have hpr : ∀ p ∈ (l.getD k default).par, inT m o p := fun p hp => by rw [hF.par] at hp; exact (h.tok.par hp).2
      have hpb : ∀ i, -9223372036854775808 ≤ (l.getD k default).par.getD i 0 ∧ (l.getD k default).par.getD i 0 ≤ 9223372036854775807 := getD_bounds (fun p hp => by have := inT_range h.tok (hpr p hp); omega) (by omega) (by omega)
      have q1 := hF.lo
      have q2 := hF.le
      have q3 := hF.top
      have q4 := fun x hx => both_bounds (S := S) (lo := (l.getD k default).lo + 1) (hi := (l.getD k default).hi) (x := x) hx
      generalize l.getD k default = x at *
      generalize (l.take k).flatMap (parOut S) = A at *
      have eU : parOut S x = (if Sp.hasB S x.lo = true then Sp.nf (x.par.map fun i => (i, i)) else []) ++ movedS (Sp.bothS S [(x.lo + 1, x.hi)]) (-1) := rfl
      rw [eU] at eN
      clear eU
      have q5 := Sp.bothS_len S [(x.lo + 1, x.hi)]
      have q6 := Sp.nf_len (x.par.map fun i => (i, i))
      rw [List.length_map] at q6
      simp only [List.length_singleton] at q5
      simp +contextual -implicitDefEqProofs (maxSteps := 2000000) (disch := omega) only [↓lenV, binV, optV, ↓loadV, ↓storeV, ↓fieldAddrV, ↓indexAddrV, ↓allocV, ↓sliceV, ↓appendV, ↓srcV, bound, cutTag, hiTag, GVal.cells, grp, GVal.ofConst, ↓resV, resG, List.map, List.headD, List.take, List.drop, ↓reduceIte, Nat.reduceEqDiff, Nat.reduceAdd, Nat.reduceSub, Nat.reduceLeDiff, reduceCtorEq, implies_true, ne_eq, ↓asrcV, Tag.cap, List.replicate, allSolid, GVal.solid, Nat.reduceBEq, Nat.reduceMul, Nat.reduceLT, List.length_map, List.length_range, splice, vcA, ↓vcB, vcC, fbFf, e28, segsG_length, d0, eS, segG, spl_length, all_spl]
      refine ⟨by omega, fun st1 => ?_⟩
      refine (sHas S .none x.lo (by omega) oS).then ?_ (by rfl)
      cases hq : Sp.hasB S x.lo with
      | true =>
        rw [hq, if_pos rfl] at eN
        simp +contextual -implicitDefEqProofs (maxSteps := 2000000) (disch := omega) only [↓lenV, binV, optV, ↓loadV, ↓storeV, ↓fieldAddrV, ↓indexAddrV, ↓allocV, ↓sliceV, ↓appendV, ↓srcV, bound, cutTag, hiTag, GVal.cells, grp, GVal.ofConst, ↓resV, resG, List.map, List.headD, List.take, List.drop, ↓reduceIte, Nat.reduceEqDiff, Nat.reduceAdd, Nat.reduceSub, Nat.reduceLeDiff, reduceCtorEq, implies_true, ne_eq, ↓asrcV, Tag.cap, List.replicate, allSolid, GVal.solid, Nat.reduceBEq, Nat.reduceMul, Nat.reduceLT, List.length_map, List.length_range, splice, vcA, ↓vcB, vcC, fbFf, e28, segsG_length, d0, eS, segG, spl_length, all_spl]
        refine (sOf x.par .none (by omega) hpb).then ?_ (by rfl)
        generalize Sp.nf (x.par.map fun i => (i, i)) = B at *
        simp +contextual -implicitDefEqProofs (maxSteps := 2000000) (disch := omega) only [↓lenV, binV, optV, ↓loadV, ↓storeV, ↓fieldAddrV, ↓indexAddrV, ↓allocV, ↓sliceV, ↓appendV, ↓srcV, bound, cutTag, hiTag, GVal.cells, grp, GVal.ofConst, ↓resV, resG, List.map, List.headD, List.take, List.drop, ↓reduceIte, Nat.reduceEqDiff, Nat.reduceAdd, Nat.reduceSub, Nat.reduceLeDiff, reduceCtorEq, implies_true, ne_eq, ↓asrcV, Tag.cap, List.replicate, allSolid, GVal.solid, Nat.reduceBEq, Nat.reduceMul, Nat.reduceLT, List.length_map, List.length_range, splice, vcA, ↓vcB, vcC, fbFf, e28, segsG_length, d0, eS, segG, spl_length, all_spl]
        refine ⟨by omega, by omega, fun st2 => ?_⟩
        refine (aPart S .none (x.lo + 1) x.hi (by omega) oS (by omega) (by omega)).then ?_ (by rfl)
        have q7 := movedS_len (Sp.bothS S [(x.lo + 1, x.hi)]) (-1)
        have cM := aMoved (Sp.bothS S [(x.lo + 1, x.hi)]) (-1) (by omega) (by omega) (fun z hz => by have := q4 z hz; omega)
        generalize Sp.bothS S [(x.lo + 1, x.hi)] = C at *
        simp +contextual -implicitDefEqProofs (maxSteps := 2000000) (disch := omega) only [↓lenV, binV, optV, ↓loadV, ↓storeV, ↓fieldAddrV, ↓indexAddrV, ↓allocV, ↓sliceV, ↓appendV, ↓srcV, bound, cutTag, hiTag, GVal.cells, grp, GVal.ofConst, ↓resV, resG, List.map, List.headD, List.take, List.drop, ↓reduceIte, Nat.reduceEqDiff, Nat.reduceAdd, Nat.reduceSub, Nat.reduceLeDiff, reduceCtorEq, implies_true, ne_eq, ↓asrcV, Tag.cap, List.replicate, allSolid, GVal.solid, Nat.reduceBEq, Nat.reduceMul, Nat.reduceLT, List.length_map, List.length_range, splice, vcA, ↓vcB, vcC, fbFf, e28, segsG_length, d0, eS, segG, spl_length, all_spl]
        refine cM.then ?_ (by rfl)
        generalize movedS C (-1) = D at *
        simp +contextual -implicitDefEqProofs (maxSteps := 2000000) (disch := omega) only [↓lenV, binV, optV, ↓loadV, ↓storeV, ↓fieldAddrV, ↓indexAddrV, ↓allocV, ↓sliceV, ↓appendV, ↓srcV, bound, cutTag, hiTag, GVal.cells, grp, GVal.ofConst, ↓resV, resG, List.map, List.headD, List.take, List.drop, ↓reduceIte, Nat.reduceEqDiff, Nat.reduceAdd, Nat.reduceSub, Nat.reduceLeDiff, reduceCtorEq, implies_true, ne_eq, ↓asrcV, Tag.cap, List.replicate, allSolid, GVal.solid, Nat.reduceBEq, Nat.reduceMul, Nat.reduceLT, List.length_map, List.length_range, splice, vcA, ↓vcB, vcC, fbFf, e28, segsG_length, d0, eS, segG, spl_length, all_spl, List.length_append]
        refine ⟨by omega, by omega, fun v => ?_⟩
        exact Into.at ⟨(k + 1, v), by show k + 1 ≤ _; omega⟩ (by show _ < _; simp; omega) ⟨[.row st1 5 [segG x]], by simp [eN, spl_append, segG]⟩ (by simp [WL, leG_self, leG_any, leG_int, eN, spl_append])
      | false =>
        rw [hq, if_neg (by simp)] at eN
        simp +contextual -implicitDefEqProofs (maxSteps := 2000000) (disch := omega) only [↓lenV, binV, optV, ↓loadV, ↓storeV, ↓fieldAddrV, ↓indexAddrV, ↓allocV, ↓sliceV, ↓appendV, ↓srcV, bound, cutTag, hiTag, GVal.cells, grp, GVal.ofConst, ↓resV, resG, List.map, List.headD, List.take, List.drop, ↓reduceIte, Nat.reduceEqDiff, Nat.reduceAdd, Nat.reduceSub, Nat.reduceLeDiff, reduceCtorEq, implies_true, ne_eq, ↓asrcV, Tag.cap, List.replicate, allSolid, GVal.solid, Nat.reduceBEq, Nat.reduceMul, Nat.reduceLT, List.length_map, List.length_range, splice, vcA, ↓vcB, vcC, fbFf, e28, segsG_length, d0, eS, segG, spl_length, all_spl]
        refine (aPart S .none (x.lo + 1) x.hi (by omega) oS (by omega) (by omega)).then ?_ (by rfl)
        have q7 := movedS_len (Sp.bothS S [(x.lo + 1, x.hi)]) (-1)
        have cM := aMoved (Sp.bothS S [(x.lo + 1, x.hi)]) (-1) (by omega) (by omega) (fun z hz => by have := q4 z hz; omega)
        generalize Sp.bothS S [(x.lo + 1, x.hi)] = C at *
        simp +contextual -implicitDefEqProofs (maxSteps := 2000000) (disch := omega) only [↓lenV, binV, optV, ↓loadV, ↓storeV, ↓fieldAddrV, ↓indexAddrV, ↓allocV, ↓sliceV, ↓appendV, ↓srcV, bound, cutTag, hiTag, GVal.cells, grp, GVal.ofConst, ↓resV, resG, List.map, List.headD, List.take, List.drop, ↓reduceIte, Nat.reduceEqDiff, Nat.reduceAdd, Nat.reduceSub, Nat.reduceLeDiff, reduceCtorEq, implies_true, ne_eq, ↓asrcV, Tag.cap, List.replicate, allSolid, GVal.solid, Nat.reduceBEq, Nat.reduceMul, Nat.reduceLT, List.length_map, List.length_range, splice, vcA, ↓vcB, vcC, fbFf, e28, segsG_length, d0, eS, segG, spl_length, all_spl]
        refine cM.then ?_ (by rfl)
        generalize movedS C (-1) = D at *
        simp +contextual -implicitDefEqProofs (maxSteps := 2000000) (disch := omega) only [↓lenV, binV, optV, ↓loadV, ↓storeV, ↓fieldAddrV, ↓indexAddrV, ↓allocV, ↓sliceV, ↓appendV, ↓srcV, bound, cutTag, hiTag, GVal.cells, grp, GVal.ofConst, ↓resV, resG, List.map, List.headD, List.take, List.drop, ↓reduceIte, Nat.reduceEqDiff, Nat.reduceAdd, Nat.reduceSub, Nat.reduceLeDiff, reduceCtorEq, implies_true, ne_eq, ↓asrcV, Tag.cap, List.replicate, allSolid, GVal.solid, Nat.reduceBEq, Nat.reduceMul, Nat.reduceLT, List.length_map, List.length_range, splice, vcA, ↓vcB, vcC, fbFf, e28, segsG_length, d0, eS, segG, spl_length, all_spl]
        refine ⟨by omega, by omega, fun v => ?_⟩
        exact Into.at ⟨(k + 1, v), by show k + 1 ≤ _; omega⟩ (by show _ < _; simp; omega) ⟨[.row st1 5 [segG x]], by simp [eN, spl_append, segG]⟩ (by simp [WL, leG_self, leG_any, leG_int, eN, spl_append])
    · have d0 : ((k : Int) < (l.length : Int)) = False := eq_false (by omega)
      have e : k = l.length := by omega
      have ll := olen k
      subst e
      rw [List.take_length] at ll
      have hok : Sp.Ok (l.flatMap (parOut S)) := fun q hq => by
        obtain ⟨x, hx, hq⟩ := List.mem_flatMap.1 hq
        exact parOut_ok h.tok (hfl x hx) q hq
      simp +contextual -implicitDefEqProofs (maxSteps := 2000000) (disch := omega) only [↓lenV, binV, optV, ↓loadV, ↓storeV, ↓fieldAddrV, ↓indexAddrV, ↓allocV, ↓sliceV, ↓appendV, ↓srcV, bound, cutTag, hiTag, GVal.cells, grp, GVal.ofConst, ↓resV, resG, List.map, List.headD, List.take, List.drop, ↓reduceIte, Nat.reduceEqDiff, Nat.reduceAdd, Nat.reduceSub, Nat.reduceLeDiff, reduceCtorEq, implies_true, ne_eq, ↓asrcV, Tag.cap, List.replicate, allSolid, GVal.solid, Nat.reduceBEq, Nat.reduceMul, Nat.reduceLT, List.length_map, List.length_range, splice, vcA, ↓vcB, vcC, fbFf, e28, segsG_length, d0, List.take_length]
      refine (sMake (l.flatMap (parOut S)) _ (by omega) hok).then ?_ (by rfl)
      rw [eP]
      simp +contextual -implicitDefEqProofs (maxSteps := 2000000) (disch := omega) only [↓lenV, binV, optV, ↓loadV, ↓storeV, ↓fieldAddrV, ↓indexAddrV, ↓allocV, ↓sliceV, ↓appendV, ↓srcV, bound, cutTag, hiTag, GVal.cells, grp, GVal.ofConst, ↓resV, resG, List.map, List.headD, List.take, List.drop, ↓reduceIte, Nat.reduceEqDiff, Nat.reduceAdd, Nat.reduceSub, Nat.reduceLeDiff, reduceCtorEq, implies_true, ne_eq, ↓asrcV, Tag.cap, List.replicate, allSolid, GVal.solid, Nat.reduceBEq, Nat.reduceMul, Nat.reduceLT, List.length_map, List.length_range, splice, vcA, ↓vcB, vcC, fbFf, e28]
      exact ⟨.slice (spl (idsP m o (pP m o s))) .none, [.row st 3 [dagG L (allN L) kk]], [.tok u 2], rfl, by rw [leA_slice], _, rfl, rfl, rfl⟩
/-- what a segment gives: its IDs that are children -/
def chiOut (S : List Sp.S) (x : Seg) : List Sp.S := (if (x.par.any fun a => Sp.hasB S a) = true then [(x.lo, x.lo)] else []) ++ movedS (Sp.bothS S [(x.lo, x.hi - 1)]) 1
theorem chiOut_len {S : List Sp.S} {x : Seg} (hS : S.length ≤ 1000) : (chiOut S x).length ≤ 1005 := by
  unfold chiOut
  have h3 := Sp.bothS_len S [(x.lo, x.hi - 1)]
  rw [List.length_append, movedS_len]
  split <;> simp at * <;> omega
theorem chiOut_ok {m o : List (List Int)} {S : List Sp.S} {x : Seg} (hx : FlatS m o x) : Sp.Ok (chiOut S x) := by
  have h1 := hx.lo
  have h2 := hx.le
  have h3 := hx.top
  refine Sp.Ok.app ?_ ?_
  · split
    · intro s hs; simp at hs; subst hs; simp only; omega
    · exact Sp.Ok.nil
  · intro s hs
    obtain ⟨y, hy, rfl⟩ := List.mem_map.1 hs
    have := both_bounds hy
    simp only; omega
theorem chiOut_has {m o : List (List Int)} {S : List Sp.S} {x : Seg} (hx : FlatS m o x) (n : Int) : Sp.has (chiOut S x) n ↔ (x.lo ≤ n ∧ n ≤ x.hi) ∧ ∃ p ∈ parI m o n, Sp.has S p := by
  have hlo := hx.lo
  have hle := hx.le
  unfold chiOut
  rw [Sp.has_app, has_moved]
  constructor
  · rintro (h1 | ⟨p, hp, h0, h1, h2⟩)
    · split at h1
      · rename_i hq
        obtain ⟨q, hq2, b0, b1, b2⟩ := h1
        simp at hq2; subst hq2
        simp only at b1 b2
        have e : n = x.lo := by omega
        subst e
        obtain ⟨a, ha, hb⟩ := List.any_eq_true.1 hq
        exact ⟨⟨by omega, by omega⟩, a, by rw [← hx.par]; exact ha, (Sp.hasB_iff _ _).1 hb⟩
      · exact absurd h1 (by simp [Sp.has])
    · have hb := both_bounds hp
      have hh : Sp.has (Sp.bothS S [(x.lo, x.hi - 1)]) (n - 1) := ⟨p, hp, by omega, by omega, by omega⟩
      refine ⟨⟨by omega, by omega⟩, n - 1, ?_, ((Sp.bothS_has _ _ _).1 hh).1⟩
      rw [hx.one n (by omega) (by omega)]; simp
  · rintro ⟨⟨h1, h2⟩, p, hp, h3⟩
    by_cases e : n = x.lo
    · left
      subst e
      rw [if_pos (List.any_eq_true.2 ⟨p, by rw [hx.par]; exact hp, (Sp.hasB_iff _ _).2 h3⟩)]
      exact ⟨_, List.mem_singleton.2 rfl, by omega, by simp only; omega, by simp only; omega⟩
    · right
      rw [hx.one n (by omega) h2] at hp
      have en : p = n - 1 := by simpa using hp
      subst en
      have hh : Sp.has (Sp.bothS S [(x.lo, x.hi - 1)]) (n - 1) := (Sp.bothS_has _ _ _).2 ⟨h3, (x.lo, x.hi - 1), by simp, by omega, by simp only; omega, by simp only; omega⟩
      obtain ⟨q, hq, a0, a1, a2⟩ := hh
      exact ⟨q, hq, by omega, by omega, by omega⟩
theorem DagOK.chiEq {m o : List (List Int)} {L : List (List Seg)} (h : DagOK m o L) (s : List Sp.S) : Sp.nf ((L.getD 0 []).flatMap (chiOut (idsP m o (Sp.has s)))) = idsP m o (cP m o s) := by
  refine idsP_eq (Sp.nf_rt _) fun n => ?_
  rw [Sp.nf_has, has_flatMap]
  constructor
  · rintro ⟨x, hx, hn⟩
    obtain ⟨⟨h1, h2⟩, p, h3, h4⟩ := (chiOut_has (h.flat x hx) n).1 hn
    exact ⟨(h.flat x hx).inn n h1 h2, p, h3, ((idsP_has _ _ _ _).1 h4).2⟩
  · rintro ⟨hn, p, hp, hs⟩
    obtain ⟨k, hk, hin, _⟩ := h.seg (i := 0) (by have := h.len1; omega) hn
    exact ⟨_, seg_mem hk, (chiOut_has (h.flat _ (seg_mem hk)) n).2 ⟨⟨hin.1, hin.2⟩, p, hp, (idsP_has _ _ _ _).2 ⟨(h.tok.par hp).2, hs⟩⟩⟩
theorem aChildren {m o : List (List Int)} {L : List (List Seg)} (h : DagOK m o L) (s : List Sp.S) (t : Tag) (hl : s.length ≤ 1000000) (hs : Sp.Ok s) : DPure 29 L (allN L) [.slice (spl s) t] (.slice (spl (idsP m o (cP m o s))) .none) := by
  intro st kk
  have hS := h.thereEq s
  have lS := idsP_len m o (Sp.has s)
  have oS := idsP_ok h.tok (Sp.has s)
  have hN := h.allLen
  have hT := h.tok.len
  have eP := h.chiEq s
  have hfl := h.flat
  have hll := (h.size 0).1
  refine GCalls.dropTo ?_
  refine h29.calls mixS (by simp) ?_
  simp only [gstart, s29, List.cons_append, List.nil_append, List.length_cons, List.length_nil, Nat.reduceAdd, Nat.reduceSub, List.replicate_succ, List.replicate_zero]
  simp +contextual -implicitDefEqProofs (maxSteps := 2000000) (disch := omega) only [↓lenV, binV, optV, ↓loadV, ↓storeV, ↓fieldAddrV, ↓indexAddrV, ↓allocV, ↓buildV, ↓buildSliceV, ↓sliceV, ↓appendV, ↓srcV, bound, cutTag, hiTag, fillG, fillE, place, GVal.cells, grp, GVal.ofConst, ↓resV, resG, List.map, List.headD, List.take, List.drop, ↓reduceIte, Nat.reduceEqDiff, Nat.reduceAdd, Nat.reduceSub, Nat.reduceLeDiff, reduceCtorEq, implies_true, ne_eq, ↓asrcV, Tag.cap, List.replicate, allSolid, GVal.solid, Nat.reduceBEq, Nat.reduceMul, Nat.reduceLT, List.length_map, List.length_range, splice, vcA, ↓vcB, vcC, fbFf, e29]
  refine (aThere L (allN L) s t (by omega) hs h.allOk).then ?_
  rw [hS]
  generalize idsP m o (Sp.has s) = S at *
  simp +contextual -implicitDefEqProofs (maxSteps := 2000000) (disch := omega) only [↓lenV, binV, optV, ↓loadV, ↓storeV, ↓fieldAddrV, ↓indexAddrV, ↓allocV, ↓buildV, ↓buildSliceV, ↓sliceV, ↓appendV, ↓srcV, bound, cutTag, hiTag, fillG, fillE, place, GVal.cells, grp, GVal.ofConst, ↓resV, resG, List.map, List.headD, List.take, List.drop, ↓reduceIte, Nat.reduceEqDiff, Nat.reduceAdd, Nat.reduceSub, Nat.reduceLeDiff, reduceCtorEq, implies_true, ne_eq, ↓asrcV, Tag.cap, List.replicate, allSolid, GVal.solid, Nat.reduceBEq, Nat.reduceMul, Nat.reduceLT, List.length_map, List.length_range, splice, vcA, ↓vcB, vcC, fbFf, e29]
  refine (aFlat L (allN L) h.len1).then ?_
  generalize L.getD 0 [] = l at *
  simp +contextual -implicitDefEqProofs (maxSteps := 2000000) (disch := omega) only [↓lenV, binV, optV, ↓loadV, ↓storeV, ↓fieldAddrV, ↓indexAddrV, ↓allocV, ↓buildV, ↓buildSliceV, ↓sliceV, ↓appendV, ↓srcV, bound, cutTag, hiTag, fillG, fillE, place, GVal.cells, grp, GVal.ofConst, ↓resV, resG, List.map, List.headD, List.take, List.drop, ↓reduceIte, Nat.reduceEqDiff, Nat.reduceAdd, Nat.reduceSub, Nat.reduceLeDiff, reduceCtorEq, implies_true, ne_eq, ↓asrcV, Tag.cap, List.replicate, allSolid, GVal.solid, Nat.reduceBEq, Nat.reduceMul, Nat.reduceLT, List.length_map, List.length_range, splice, vcA, ↓vcB, vcC, fbFf, e29, segsG_length]
  have olen : ∀ k, ((l.take k).flatMap (chiOut S)).length ≤ k * 1005 := fun k => by
    have := flatMap_len (chiOut S) 1005 (l.take k) fun x hx => chiOut_len (by omega)
    rw [List.length_take] at this
    have : min k l.length * 1005 ≤ k * 1005 := Nat.mul_le_mul_right _ (Nat.min_le_left _ _)
    omega
  refine vcSLoop_by (ι := { p : Nat × Nat // p.1 ≤ l.length }) (fun p => ⟨[.ptr 0 st 0 0, .slice (spl S) .none, .any, .any, .any, .slice (spl ((l.take p.1.1).flatMap (chiOut S))) (.tok 1 p.1.2), .any, .any, .any, .any, .any, .any, .slice (segsG l) .none, .int .i64 l.length, .int .i64 (p.1.1 : Nat)] ++ List.replicate 28 .any, [.row st 3 [dagG L (allN L) kk], .tok p.1.2 2]⟩) (fun p => l.length - p.1.1) ?_ ?_
  · refine Into.tok 5 2 [] rfl rfl ?_
    simp +contextual -implicitDefEqProofs (maxSteps := 2000000) (disch := omega) only [↓lenV, binV, optV, ↓loadV, ↓storeV, ↓fieldAddrV, ↓indexAddrV, ↓allocV, ↓buildV, ↓buildSliceV, ↓sliceV, ↓appendV, ↓srcV, bound, cutTag, hiTag, fillG, fillE, place, GVal.cells, grp, GVal.ofConst, ↓resV, resG, List.map, List.headD, List.take, List.drop, ↓reduceIte, Nat.reduceEqDiff, Nat.reduceAdd, Nat.reduceSub, Nat.reduceLeDiff, reduceCtorEq, implies_true, ne_eq, ↓asrcV, Tag.cap, List.replicate, allSolid, GVal.solid, Nat.reduceBEq, Nat.reduceMul, Nat.reduceLT, List.length_map, List.length_range, splice, vcA, ↓vcB, vcC, fbFf, e29]
    intro u
    exact Into.first ⟨(0, u), by omega⟩ ⟨[], by simp [spl]⟩ (by simp [WL, leG_self, leG_any, spl])
  · rintro ⟨⟨k, u⟩, hk⟩
    change k ≤ l.length at hk
    by_cases hkl : k < l.length
    · have d0 : ((k : Int) < (l.length : Int)) = True := eq_true (by omega)
      have eS := segsG_at l k hkl
      have eN := flatMap_take (chiOut S) l default k hkl
      have lk := olen k
      have hF := hfl _ (seg_mem hkl)
      have hp4 := flat_par4 h.tok hF
      have hpr : ∀ p ∈ (l.getD k default).par, inT m o p := fun p hp => by rw [hF.par] at hp; exact (h.tok.par hp).2
      have hpb : ∀ i, -9223372036854775808 ≤ (l.getD k default).par.getD i 0 ∧ (l.getD k default).par.getD i 0 ≤ 9223372036854775807 := getD_bounds (fun p hp => by have := inT_range h.tok (hpr p hp); omega) (by omega) (by omega)
      have q1 := hF.lo
      have q2 := hF.le
      have q3 := hF.top
      have q4 := fun x hx => both_bounds (S := S) (lo := (l.getD k default).lo) (hi := (l.getD k default).hi - 1) (x := x) hx
      generalize l.getD k default = x at *
      generalize (l.take k).flatMap (chiOut S) = A at *
      have eU : chiOut S x = (if (x.par.any fun a => Sp.hasB S a) = true then [(x.lo, x.lo)] else []) ++ movedS (Sp.bothS S [(x.lo, x.hi - 1)]) 1 := rfl
      rw [eU] at eN
      clear eU
      have q5 := Sp.bothS_len S [(x.lo, x.hi - 1)]
      simp only [List.length_singleton] at q5
      simp +contextual -implicitDefEqProofs (maxSteps := 2000000) (disch := omega) only [↓lenV, binV, optV, ↓loadV, ↓storeV, ↓fieldAddrV, ↓indexAddrV, ↓allocV, ↓buildV, ↓buildSliceV, ↓sliceV, ↓appendV, ↓srcV, bound, cutTag, hiTag, fillG, fillE, place, GVal.cells, grp, GVal.ofConst, ↓resV, resG, List.map, List.headD, List.take, List.drop, ↓reduceIte, Nat.reduceEqDiff, Nat.reduceAdd, Nat.reduceSub, Nat.reduceLeDiff, reduceCtorEq, implies_true, ne_eq, ↓asrcV, Tag.cap, List.replicate, allSolid, GVal.solid, Nat.reduceBEq, Nat.reduceMul, Nat.reduceLT, List.length_map, List.length_range, splice, vcA, ↓vcB, vcC, fbFf, e29, segsG_length, d0, eS, segG, spl_length, all_spl]
      refine ⟨by omega, fun st1 => ?_⟩
      refine (aTouches x.par .none S (by omega) (by omega) oS).then ?_ (by rfl)
      cases hq : x.par.any fun a => Sp.hasB S a with
      | true =>
        rw [hq, if_pos rfl] at eN
        simp +contextual -implicitDefEqProofs (maxSteps := 2000000) (disch := omega) only [↓lenV, binV, optV, ↓loadV, ↓storeV, ↓fieldAddrV, ↓indexAddrV, ↓allocV, ↓buildV, ↓buildSliceV, ↓sliceV, ↓appendV, ↓srcV, bound, cutTag, hiTag, fillG, fillE, place, GVal.cells, grp, GVal.ofConst, ↓resV, resG, List.map, List.headD, List.take, List.drop, ↓reduceIte, Nat.reduceEqDiff, Nat.reduceAdd, Nat.reduceSub, Nat.reduceLeDiff, reduceCtorEq, implies_true, ne_eq, ↓asrcV, Tag.cap, List.replicate, allSolid, GVal.solid, Nat.reduceBEq, Nat.reduceMul, Nat.reduceLT, List.length_map, List.length_range, splice, vcA, ↓vcB, vcC, fbFf, e29, segsG_length, d0, eS, segG, spl_length, all_spl]
        refine ⟨by omega, by omega, fun st2 => ?_⟩
        refine (aPart S .none x.lo (x.hi - 1) (by omega) oS (by omega) (by omega)).then ?_ (by rfl)
        have q7 := movedS_len (Sp.bothS S [(x.lo, x.hi - 1)]) 1
        have cM := aMoved (Sp.bothS S [(x.lo, x.hi - 1)]) 1 (by omega) (by omega) (fun z hz => by have := q4 z hz; omega)
        generalize Sp.bothS S [(x.lo, x.hi - 1)] = C at *
        simp +contextual -implicitDefEqProofs (maxSteps := 2000000) (disch := omega) only [↓lenV, binV, optV, ↓loadV, ↓storeV, ↓fieldAddrV, ↓indexAddrV, ↓allocV, ↓buildV, ↓buildSliceV, ↓sliceV, ↓appendV, ↓srcV, bound, cutTag, hiTag, fillG, fillE, place, GVal.cells, grp, GVal.ofConst, ↓resV, resG, List.map, List.headD, List.take, List.drop, ↓reduceIte, Nat.reduceEqDiff, Nat.reduceAdd, Nat.reduceSub, Nat.reduceLeDiff, reduceCtorEq, implies_true, ne_eq, ↓asrcV, Tag.cap, List.replicate, allSolid, GVal.solid, Nat.reduceBEq, Nat.reduceMul, Nat.reduceLT, List.length_map, List.length_range, splice, vcA, ↓vcB, vcC, fbFf, e29, segsG_length, d0, eS, segG, spl_length, all_spl]
        refine cM.then ?_ (by rfl)
        generalize movedS C 1 = D at *
        simp +contextual -implicitDefEqProofs (maxSteps := 2000000) (disch := omega) only [↓lenV, binV, optV, ↓loadV, ↓storeV, ↓fieldAddrV, ↓indexAddrV, ↓allocV, ↓buildV, ↓buildSliceV, ↓sliceV, ↓appendV, ↓srcV, bound, cutTag, hiTag, fillG, fillE, place, GVal.cells, grp, GVal.ofConst, ↓resV, resG, List.map, List.headD, List.take, List.drop, ↓reduceIte, Nat.reduceEqDiff, Nat.reduceAdd, Nat.reduceSub, Nat.reduceLeDiff, reduceCtorEq, implies_true, ne_eq, ↓asrcV, Tag.cap, List.replicate, allSolid, GVal.solid, Nat.reduceBEq, Nat.reduceMul, Nat.reduceLT, List.length_map, List.length_range, splice, vcA, ↓vcB, vcC, fbFf, e29, segsG_length, d0, eS, segG, spl_length, all_spl, List.length_append]
        refine ⟨by omega, by omega, fun v => ?_⟩
        exact Into.at ⟨(k + 1, v), by show k + 1 ≤ _; omega⟩ (by show _ < _; simp; omega) ⟨[.row st1 5 [segG x]], by simp [eN, spl_append, segG]⟩ (by simp [WL, leG_self, leG_any, leG_int, eN, spl_append, spl_cons, spG])
      | false =>
        rw [hq, if_neg (by simp)] at eN
        simp +contextual -implicitDefEqProofs (maxSteps := 2000000) (disch := omega) only [↓lenV, binV, optV, ↓loadV, ↓storeV, ↓fieldAddrV, ↓indexAddrV, ↓allocV, ↓buildV, ↓buildSliceV, ↓sliceV, ↓appendV, ↓srcV, bound, cutTag, hiTag, fillG, fillE, place, GVal.cells, grp, GVal.ofConst, ↓resV, resG, List.map, List.headD, List.take, List.drop, ↓reduceIte, Nat.reduceEqDiff, Nat.reduceAdd, Nat.reduceSub, Nat.reduceLeDiff, reduceCtorEq, implies_true, ne_eq, ↓asrcV, Tag.cap, List.replicate, allSolid, GVal.solid, Nat.reduceBEq, Nat.reduceMul, Nat.reduceLT, List.length_map, List.length_range, splice, vcA, ↓vcB, vcC, fbFf, e29, segsG_length, d0, eS, segG, spl_length, all_spl]
        refine (aPart S .none x.lo (x.hi - 1) (by omega) oS (by omega) (by omega)).then ?_ (by rfl)
        have q7 := movedS_len (Sp.bothS S [(x.lo, x.hi - 1)]) 1
        have cM := aMoved (Sp.bothS S [(x.lo, x.hi - 1)]) 1 (by omega) (by omega) (fun z hz => by have := q4 z hz; omega)
        generalize Sp.bothS S [(x.lo, x.hi - 1)] = C at *
        simp +contextual -implicitDefEqProofs (maxSteps := 2000000) (disch := omega) only [↓lenV, binV, optV, ↓loadV, ↓storeV, ↓fieldAddrV, ↓indexAddrV, ↓allocV, ↓buildV, ↓buildSliceV, ↓sliceV, ↓appendV, ↓srcV, bound, cutTag, hiTag, fillG, fillE, place, GVal.cells, grp, GVal.ofConst, ↓resV, resG, List.map, List.headD, List.take, List.drop, ↓reduceIte, Nat.reduceEqDiff, Nat.reduceAdd, Nat.reduceSub, Nat.reduceLeDiff, reduceCtorEq, implies_true, ne_eq, ↓asrcV, Tag.cap, List.replicate, allSolid, GVal.solid, Nat.reduceBEq, Nat.reduceMul, Nat.reduceLT, List.length_map, List.length_range, splice, vcA, ↓vcB, vcC, fbFf, e29, segsG_length, d0, eS, segG, spl_length, all_spl]
        refine cM.then ?_ (by rfl)
        generalize movedS C 1 = D at *
        simp +contextual -implicitDefEqProofs (maxSteps := 2000000) (disch := omega) only [↓lenV, binV, optV, ↓loadV, ↓storeV, ↓fieldAddrV, ↓indexAddrV, ↓allocV, ↓buildV, ↓buildSliceV, ↓sliceV, ↓appendV, ↓srcV, bound, cutTag, hiTag, fillG, fillE, place, GVal.cells, grp, GVal.ofConst, ↓resV, resG, List.map, List.headD, List.take, List.drop, ↓reduceIte, Nat.reduceEqDiff, Nat.reduceAdd, Nat.reduceSub, Nat.reduceLeDiff, reduceCtorEq, implies_true, ne_eq, ↓asrcV, Tag.cap, List.replicate, allSolid, GVal.solid, Nat.reduceBEq, Nat.reduceMul, Nat.reduceLT, List.length_map, List.length_range, splice, vcA, ↓vcB, vcC, fbFf, e29, segsG_length, d0, eS, segG, spl_length, all_spl]
        refine ⟨by omega, by omega, fun v => ?_⟩
        exact Into.at ⟨(k + 1, v), by show k + 1 ≤ _; omega⟩ (by show _ < _; simp; omega) ⟨[.row st1 5 [segG x]], by simp [eN, spl_append, segG]⟩ (by simp [WL, leG_self, leG_any, leG_int, eN, spl_append, spl_cons, spG])
    · have d0 : ((k : Int) < (l.length : Int)) = False := eq_false (by omega)
      have e : k = l.length := by omega
      have ll := olen k
      subst e
      rw [List.take_length] at ll
      have hok : Sp.Ok (l.flatMap (chiOut S)) := fun q hq => by
        obtain ⟨x, hx, hq⟩ := List.mem_flatMap.1 hq
        exact chiOut_ok (hfl x hx) q hq
      simp +contextual -implicitDefEqProofs (maxSteps := 2000000) (disch := omega) only [↓lenV, binV, optV, ↓loadV, ↓storeV, ↓fieldAddrV, ↓indexAddrV, ↓allocV, ↓buildV, ↓buildSliceV, ↓sliceV, ↓appendV, ↓srcV, bound, cutTag, hiTag, fillG, fillE, place, GVal.cells, grp, GVal.ofConst, ↓resV, resG, List.map, List.headD, List.take, List.drop, ↓reduceIte, Nat.reduceEqDiff, Nat.reduceAdd, Nat.reduceSub, Nat.reduceLeDiff, reduceCtorEq, implies_true, ne_eq, ↓asrcV, Tag.cap, List.replicate, allSolid, GVal.solid, Nat.reduceBEq, Nat.reduceMul, Nat.reduceLT, List.length_map, List.length_range, splice, vcA, ↓vcB, vcC, fbFf, e29, segsG_length, d0, List.take_length]
      refine (sMake (l.flatMap (chiOut S)) _ (by omega) hok).then ?_ (by rfl)
      rw [eP]
      simp +contextual -implicitDefEqProofs (maxSteps := 2000000) (disch := omega) only [↓lenV, binV, optV, ↓loadV, ↓storeV, ↓fieldAddrV, ↓indexAddrV, ↓allocV, ↓buildV, ↓buildSliceV, ↓sliceV, ↓appendV, ↓srcV, bound, cutTag, hiTag, fillG, fillE, place, GVal.cells, grp, GVal.ofConst, ↓resV, resG, List.map, List.headD, List.take, List.drop, ↓reduceIte, Nat.reduceEqDiff, Nat.reduceAdd, Nat.reduceSub, Nat.reduceLeDiff, reduceCtorEq, implies_true, ne_eq, ↓asrcV, Tag.cap, List.replicate, allSolid, GVal.solid, Nat.reduceBEq, Nat.reduceMul, Nat.reduceLT, List.length_map, List.length_range, splice, vcA, ↓vcB, vcC, fbFf, e29]
      exact ⟨.slice (spl (idsP m o (cP m o s))) .none, [.row st 3 [dagG L (allN L) kk]], [.tok u 2], rfl, by rw [leA_slice], _, rfl, rfl, rfl⟩
end Gv.Try
/- Guards and tests without a match: the kernel need not look into what is left out. -/
set_option linter.unusedVariables false
namespace Gv
open Go
def guardV (v : GVal) (A B C : Prop) : Prop := match v with
  | .bool b => gif b A B
  | .lit (.tuple _) => C
  | _ => False
@[congr] theorem cg_guardV {v v' : GVal} {A B C : Prop} (h : v = v') : guardV v A B C = guardV v' A B C := by subst h; rfl
def condV (v : GVal) (A B : Prop) : Prop := match v with
  | .bool b => gif b A B
  | .ubool => A ∧ B
  | _ => False
@[congr] theorem cg_condV {v v' : GVal} {A B : Prop} (h : v = v') : condV v A B = condV v' A B := by subst h; rfl
theorem nil_ptr (a b c d : Nat) (K : GVal → Prop) : nilV (.ptr a b c d) K = K (.ptr a b c d) := rfl
theorem nil_ref (cs : List GVal) (K : GVal → Prop) : nilV (.ref cs) K = K (.ref cs) := rfl
section
variable (P : Program) (R : List Nat) (Q : Ex → GSt → Prop) (st : GSt)
end
end Gv
