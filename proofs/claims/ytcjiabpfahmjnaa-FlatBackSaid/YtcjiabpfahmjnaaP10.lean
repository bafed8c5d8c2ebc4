/- Contracts: the same tables, the document's Find. -/
import Derived.Test.YtcjiabpfahmjnaaP9
import Derived.Test.YtcjiabpfahmjnaaP6
set_option linter.unusedVariables false
set_option linter.unusedSimpArgs false
set_option maxRecDepth 20000
set_option maxHeartbeats 4000000
namespace Gv.Try
open Go Gv Go.Proofs

theorem rows_ext {a b : List (List Int)} (h : a.length = b.length) (hj : ∀ j, j < a.length → a.getD j [] = b.getD j []) : a = b := by
  apply List.ext_getElem h
  intro i h3 h4
  have := hj i h3
  simpa [List.getD, h3, h4] using this
theorem ints_ext {a b : List Int} (h : a.length = b.length) (hj : ∀ j, j < a.length → a.getD j 0 = b.getD j 0) : a = b := by
  apply List.ext_getElem h
  intro i h3 h4
  have := hj i h3
  simpa [List.getD, h3, h4] using this

theorem spec52 (a b : List (List Int)) (ta tb : Tag) (ha : a.length ≤ 17592186044416) (hp : ∀ i, (a.getD i []).length ≤ 17592186044416) : GPure Try.prog 52 [.slice (tabG a) ta, .slice (tabG b) tb] (.bool (decide (a = b))) := by
  refine h52.pure mixS (by simp) ?_
  simp only [gstart, s52, List.cons_append, List.nil_append, List.length_cons, List.length_nil, Nat.reduceAdd, Nat.reduceSub, List.replicate_succ, List.replicate_zero]
  simp +contextual -implicitDefEqProofs (maxSteps := 2000000) (disch := omega) only [drawC, ↓lenV, binV, ↓loadV, ↓indexAddrV, GVal.cells, grp, GVal.ofConst, ↓resV, resG, List.map, List.headD, List.take, List.drop, ↓reduceIte, Nat.reduceEqDiff, Nat.reduceAdd, Nat.reduceSub, Nat.reduceLeDiff, reduceCtorEq, implies_true, ne_eq, aggV, Tag.cap, List.replicate, allSolid, GVal.solid, Nat.reduceBEq, Nat.reduceMul, Nat.reduceLT, List.length_map, List.length_range, splice, vcA, ↓vcB, vcC, fbA, fbE, fbG, e52]
  refine ⟨fun h => ?_, fun h => ?_⟩
  · rw [eq_comm, decide_eq_false_iff_not]; intro e; subst e; exact h rfl
  · have hlen : a.length = b.length := by omega
    refine vcSLoop_by (ι := { k : Nat // k ≤ a.length ∧ ∀ j, j < k → a.getD j [] = b.getD j [] }) (fun k => ⟨[.slice (tabG a) ta, .slice (tabG b) tb, .any, .any, .any, .int .i64 (k.1 : Nat)] ++ List.replicate 47 .any, []⟩) (fun k => a.length - k.1) ?_ ?_
    · exact Into.first ⟨0, by omega, by omega⟩ ⟨[], by simp⟩ (by simp [WL, leG_self, leG_any])
    rintro ⟨k, hk, hj⟩
    have hq := hp k
    simp +contextual -implicitDefEqProofs (maxSteps := 2000000) (disch := omega) only [drawC, ↓lenV, binV, ↓loadV, ↓indexAddrV, GVal.cells, grp, GVal.ofConst, ↓resV, resG, List.map, List.headD, List.take, List.drop, ↓reduceIte, Nat.reduceEqDiff, Nat.reduceAdd, Nat.reduceSub, Nat.reduceLeDiff, reduceCtorEq, implies_true, ne_eq, aggV, Tag.cap, List.replicate, allSolid, GVal.solid, Nat.reduceBEq, Nat.reduceMul, Nat.reduceLT, List.length_map, List.length_range, splice, vcA, ↓vcB, vcC, fbA, fbE, fbG, e52]
    refine ⟨fun h1 => ⟨by omega, by omega, by omega, fun h2 => ?_, fun h2 => ?_⟩, fun h1 => ?_⟩
    · rw [eq_comm, decide_eq_false_iff_not]; intro e; subst e; exact h2 rfl
    · have hl2 : (a.getD k []).length = (b.getD k []).length := by omega
      have eA : (tabG a).getD k [] = [.slice (ints (a.getD k [])) .none] := tabG_at _ _ (by omega)
      have eB : (tabG b).getD k [] = [.slice (ints (b.getD k [])) .none] := tabG_at _ _ (by omega)
      refine vcSLoop_by (ι := { i : Nat // i ≤ (a.getD k []).length ∧ ∀ j, j < i → (a.getD k []).getD j 0 = (b.getD k []).getD j 0 }) (fun i => ⟨[.slice (tabG a) ta, .slice (tabG b) tb, .any, .any, .any, .int .i64 (k : Nat), .int .i64 (i.1 : Nat)] ++ List.replicate 46 .any, []⟩) (fun i => (a.getD k []).length - i.1) ?_ ?_
      · exact Into.first ⟨0, by omega, by omega⟩ ⟨[], by simp⟩ (by simp [WL, leG_self, leG_any])
      rintro ⟨i, hi, hji⟩
      have hka : k < a.length := by omega
      generalize hpa : a.getD k [] = p at *
      generalize hqb : b.getD k [] = q at *
      simp +contextual -implicitDefEqProofs (maxSteps := 2000000) (disch := omega) only [vcS_skip, vcS_reg, vcS_drw, vcS_seq, vcS_cond, vcS_block, vcS_exit, vcS_ret, vcS_loopI, drawC, opsS_nil, opsS_one, opsS_if, ordS_nil, ordS_one, ordS_if, hold_mk, ev_tmp, ev_const, ev_func, put_some, put_none, setS_mk, ↓lenV, binV, ↓loadV, ↓indexAddrV, GVal.cells, grp, GVal.ofConst, ↓resV, resG, sget_0, sget_1, sget_2, sget_3, sget_4, set_0, set_1, set_2, set_3, set_4, setO_0, setO_1, setO_2, setL_0, setL_1, setL_2, List.map, List.headD, List.take, List.drop, ↓reduceIte, Nat.reduceEqDiff, Nat.reduceAdd, Nat.reduceSub, Nat.reduceLeDiff, reduceCtorEq, implies_true, ne_eq, norm_i64, ints_length, ints_at, leG_bool, leG_int, aggV, Tag.cap, List.replicate, okCells_eq, allSolid_eq, allSolid, GVal.solid, all_nil, all_cons, all_append, all_ints, all_tabG, stamp_nil, stamp_tok, stamp_row, stamp_map, tick_nil, tick_tok, tick_row, tick_map, Nat.reduceBEq, tabG_length, Nat.reduceMul, Nat.reduceLT, List.length_map, List.length_range, leA_int, leA_bool, leA_slice, leA_agg, leA_tuple, WL_nil, WL_cons, leG_self, splice, ↓vcB, vcC, fbA, fbE, fbG, e52, eA, eB]
      refine ⟨by omega, by omega, fun h3 => ?_, fun h3 => ?_⟩
      · repeat (refine ⟨by omega, ?_⟩)
        refine ⟨fun h4 => ?_, fun h4 => ?_⟩
        · rw [eq_comm, decide_eq_false_iff_not]; intro e; subst e; rw [hpa] at hqb; exact h4 (by rw [hqb])
        · refine Into.at ⟨i + 1, by omega, fun j hj' => ?_⟩ (by show _ < _; simp; omega) ⟨[], by simp⟩ (by simp [WL, leG_self, leG_any, leG_int])
          by_cases e : j = i
          · rw [e, h4]
          · exact hji j (by omega)
      · have epq : p = q := ints_ext hl2 fun j h => hji j (by omega)
        refine Into.at ⟨k + 1, by omega, fun j hj' => ?_⟩ (by show _ < _; simp; omega) ⟨[], by simp⟩ (by simp [WL, leG_self, leG_any, leG_int])
        by_cases e : j = k
        · rw [e, hpa, hqb, epq]
        · exact hj j (by omega)
    · rw [eq_comm, decide_eq_true_iff]
      exact rows_ext hlen fun j h => hj j (by omega)

theorem spec29 (m o m' o' : List (List Int)) (t1 t2 t3 t4 : Tag) (hm : m.length ≤ 17592186044416) (ho : o.length ≤ 17592186044416) (hpm : ∀ i, (m.getD i []).length ≤ 17592186044416) (hpo : ∀ i, (o.getD i []).length ≤ 17592186044416) :
    GPure Try.prog 29 [.agg [.slice (tabG m) t1, .slice (tabG o) t2], .agg [.slice (tabG m') t3, .slice (tabG o') t4]] (.bool (decide (m = m' ∧ o = o'))) := by
  refine h29.pure mixS (by simp) ?_
  simp only [gstart, s29, List.cons_append, List.nil_append, List.length_cons, List.length_nil, Nat.reduceAdd, Nat.reduceSub, List.replicate_succ, List.replicate_zero]
  simp +contextual -implicitDefEqProofs (maxSteps := 2000000) (disch := omega) only [↓loadV, ↓fieldAddrV, ↓boxV, GVal.cells, grp, GVal.ofConst, ↓resV, resG, List.map, List.headD, List.take, List.drop, ↓reduceIte, Nat.reduceEqDiff, Nat.reduceAdd, Nat.reduceSub, Nat.reduceLeDiff, reduceCtorEq, implies_true, ne_eq, Tag.cap, List.replicate, allSolid, GVal.solid, Nat.reduceBEq, Nat.reduceMul, Nat.reduceLT, List.length_map, List.length_range, splice, vcA, ↓vcB, vcC, fbA, fbE, fbG, e29]
  refine (spec52 m m' t1 t3 hm hpm).then ?_
  by_cases h1 : m = m'
  · rw [decide_eq_true h1]
    simp +contextual -implicitDefEqProofs (maxSteps := 2000000) (disch := omega) only [↓loadV, ↓fieldAddrV, ↓boxV, GVal.cells, grp, GVal.ofConst, ↓resV, resG, List.map, List.headD, List.take, List.drop, ↓reduceIte, Nat.reduceEqDiff, Nat.reduceAdd, Nat.reduceSub, Nat.reduceLeDiff, reduceCtorEq, implies_true, ne_eq, Tag.cap, List.replicate, allSolid, GVal.solid, Nat.reduceBEq, Nat.reduceMul, Nat.reduceLT, List.length_map, List.length_range, splice, vcA, ↓vcB, vcC, fbA, fbE, fbG, e29]
    refine (spec52 o o' t2 t4 ho hpo).then ?_
    simp +contextual -implicitDefEqProofs (maxSteps := 2000000) (disch := omega) only [↓loadV, ↓fieldAddrV, ↓boxV, GVal.cells, grp, GVal.ofConst, ↓resV, resG, List.map, List.headD, List.take, List.drop, ↓reduceIte, Nat.reduceEqDiff, Nat.reduceAdd, Nat.reduceSub, Nat.reduceLeDiff, reduceCtorEq, implies_true, ne_eq, Tag.cap, List.replicate, allSolid, GVal.solid, Nat.reduceBEq, Nat.reduceMul, Nat.reduceLT, List.length_map, List.length_range, splice, vcA, ↓vcB, vcC, fbA, fbE, fbG, e29]
    simp [h1]
  · rw [decide_eq_false h1]
    simp +contextual -implicitDefEqProofs (maxSteps := 2000000) (disch := omega) only [↓loadV, ↓fieldAddrV, ↓boxV, GVal.cells, grp, GVal.ofConst, ↓resV, resG, List.map, List.headD, List.take, List.drop, ↓reduceIte, Nat.reduceEqDiff, Nat.reduceAdd, Nat.reduceSub, Nat.reduceLeDiff, reduceCtorEq, implies_true, ne_eq, Tag.cap, List.replicate, allSolid, GVal.solid, Nat.reduceBEq, Nat.reduceMul, Nat.reduceLT, List.length_map, List.length_range, splice, vcA, ↓vcB, vcC, fbA, fbE, fbG, e29]
    simp [h1]

/-- the place of the segment that has an ID -/
def fnd (id : Int) : List Seg → Nat → Int × Bool
  | [], _ => (0, false)
  | s :: r, k => if s.lo ≤ id ∧ id ≤ s.hi then ((k : Int), true) else fnd id r (k + 1)
theorem fnd_drop (id : Int) (l : List Seg) (k : Nat) (hk : k < l.length) : fnd id (l.drop k) k = if (l.getD k default).lo ≤ id ∧ id ≤ (l.getD k default).hi then ((k : Int), true) else fnd id (l.drop (k + 1)) (k + 1) := by
  rw [List.drop_eq_getElem_cons hk, fnd]; simp [List.getD, hk]

theorem spec38 (l : List Seg) (t : Tag) (id : Int) (hl : l.length ≤ 17592186044416) : GPure Try.prog 38 [.slice (segsG l) t, .int .i64 id] (.tuple [.int .i64 (fnd id l 0).1, .bool (fnd id l 0).2]) := by
  refine h38.pure mixS (by simp) ?_
  simp only [gstart, s38, List.cons_append, List.nil_append, List.length_cons, List.length_nil, Nat.reduceAdd, Nat.reduceSub, List.replicate_succ, List.replicate_zero]
  simp +contextual -implicitDefEqProofs (maxSteps := 2000000) (disch := omega) only [↓lenV, binV, ↓loadV, ↓fieldAddrV, ↓indexAddrV, GVal.cells, grp, GVal.ofConst, ↓resV, resG, List.map, List.headD, List.take, List.drop, ↓reduceIte, Nat.reduceEqDiff, Nat.reduceAdd, Nat.reduceSub, Nat.reduceLeDiff, reduceCtorEq, implies_true, ne_eq, Tag.cap, List.replicate, allSolid, GVal.solid, Nat.reduceBEq, Nat.reduceMul, Nat.reduceLT, List.length_map, List.length_range, splice, vcA, ↓vcB, vcC, fbA, fbE, fbG, e38, segsG_length]
  refine vcSLoop_by (ι := { k : Nat // k ≤ l.length ∧ fnd id l 0 = fnd id (l.drop k) k }) (fun k => ⟨[.slice (segsG l) t, .int .i64 id, .any, .any, .any, .any, .int .i64 (k.1 : Nat)] ++ List.replicate 23 .any, []⟩) (fun k => l.length - k.1) ?_ ?_
  · exact Into.first ⟨0, by omega, by simp⟩ ⟨[], by simp⟩ (by simp [WL, leG_self, leG_any])
  · rintro ⟨k, hk, hx⟩
    simp +contextual -implicitDefEqProofs (maxSteps := 2000000) (disch := omega) only [↓lenV, binV, ↓loadV, ↓fieldAddrV, ↓indexAddrV, GVal.cells, grp, GVal.ofConst, ↓resV, resG, List.map, List.headD, List.take, List.drop, ↓reduceIte, Nat.reduceEqDiff, Nat.reduceAdd, Nat.reduceSub, Nat.reduceLeDiff, reduceCtorEq, implies_true, ne_eq, Tag.cap, List.replicate, allSolid, GVal.solid, Nat.reduceBEq, Nat.reduceMul, Nat.reduceLT, List.length_map, List.length_range, splice, vcA, ↓vcB, vcC, fbA, fbE, fbG, e38, segsG_length, segsG_at, segG]
    refine ⟨fun h => ?_, fun h => ?_⟩
    · rw [fnd_drop _ _ _ (by omega)] at hx
      refine ⟨by omega, fun h1 => ⟨by omega, fun h2 => ?_, fun h2 => ?_⟩, fun h1 => ?_⟩
      · rw [if_pos ⟨h1, h2⟩] at hx
        simp [hx]
      · rw [if_neg (by omega)] at hx
        exact Into.at ⟨k + 1, by omega, hx⟩ (by show _ < _; simp; omega) ⟨[], by simp⟩ (by simp [WL, leG_self, leG_any, leG_int])
      · rw [if_neg (by omega)] at hx
        exact Into.at ⟨k + 1, by omega, hx⟩ (by show _ < _; simp; omega) ⟨[], by simp⟩ (by simp [WL, leG_self, leG_any, leG_int])
    · rw [List.drop_eq_nil_of_le (by omega)] at hx
      simp [hx, fnd]

end Gv.Try
/- Contracts: a segment's rows put behind a table's. -/
set_option linter.unusedVariables false
set_option linter.unusedSimpArgs false
set_option maxRecDepth 20000
set_option maxHeartbeats 8000000
namespace Gv.Try
open Go Gv Go.Proofs

def ones (l : List Int) : List (List Int) := l.map fun n => [n]
theorem ones_append (a b : List Int) : ones (a ++ b) = ones a ++ ones b := by simp [ones]
/-- the rows of a segment -/
def rowsS (s : Seg) : List (List Int) := s.par :: ones (ups s.lo (s.hi - s.lo).toNat)
theorem rowsS_len (s : Seg) : (rowsS s).length = (s.hi - s.lo).toNat + 1 := by simp [rowsS, ones, ups]
def putOK (s : Seg) (next room : Int) : Bool := decide (s.lo = next ∧ s.lo ≤ s.hi ∧ s.hi - s.lo < room)
def putG (s : Seg) (next room : Int) (l : List (List Int)) (i v : Nat) : GVal := if putOK s next room = true then .tuple [.slice (tabG (l ++ rowsS s)) (.tok i v), .bool true] else .tuple [.slice [] .nil, .bool false]
theorem tabG_one' (p : List Int) (t : Tag) : leG (.slice [[.slice (ints p) .none]] t) (.slice (tabG [p]) .none) := by rw [leG_none]; rfl
theorem tabG_snoc (l : List (List Int)) (p : List Int) : tabG l ++ [[.slice (ints p) .none]] = tabG (l ++ [p]) := by rw [tabG_append]; rfl

theorem c49M (l : List (List Int)) (s : Seg) (next room : Int) (a b v w e : Nat) (c1 c2 c3 : List GVal) (h0 : 0 ≤ next) (h1 : next ≤ 1099511628776) (hl : l.length ≤ 1000) (hr : room ≤ 1000) (hp : s.par.length ≤ 17592186044416) (hh : s.hi ≤ 9223372036854775807) :
    GCalls Try.prog 49 [.slice (tabG l) (.tok 2 v), .agg (segG s), .int .i64 next, .int .i64 room] [.row a 2 [c1], .row b 2 [c2], .tok v 1, .tok w 1, .row e 5 [c3]]
      (fun g O' => ∃ u, g = putG s next room l 2 u ∧ O' = [.row a 2 [c1], .row b 2 [c2], .tok u 1, .tok w 1, .row e 5 [c3]]) := by
  obtain ⟨lo, hi, par, root, head⟩ := s
  simp only [segG]
  change hi ≤ 9223372036854775807 at hh
  refine h49.calls mixS (by simp) ?_
  simp only [gstart, s49, List.cons_append, List.nil_append, List.length_cons, List.length_nil, Nat.reduceAdd, Nat.reduceSub, List.replicate_succ, List.replicate_zero]
  simp +contextual -implicitDefEqProofs (maxSteps := 2000000) (disch := omega) only [binV, optV, ↓loadV, ↓fieldAddrV, ↓boxV, ↓buildSliceV, ↓sliceV, ↓appendV, ↓srcV, bound, cutTag, hiTag, fillE, GVal.cells, grp, GVal.ofConst, ↓resV, resG, List.map, List.headD, List.take, List.drop, ↓reduceIte, Nat.reduceEqDiff, Nat.reduceAdd, Nat.reduceSub, Nat.reduceLeDiff, reduceCtorEq, implies_true, ne_eq, ↓asrcV, aggV, Tag.cap, List.replicate, allSolid, GVal.solid, Nat.reduceBEq, Nat.reduceMul, Nat.reduceLT, List.length_map, List.length_range, splice, vcA, ↓vcB, vcC, fbA, fbE, fbG, e49]
  have bad : ¬ (lo = next ∧ lo ≤ hi ∧ hi - lo < room) → putOK ⟨lo, hi, par, root, head⟩ next room = false := fun h => decide_eq_false h
  have putF : putOK ⟨lo, hi, par, root, head⟩ next room = false → ∃ u, GVal.tuple [GVal.slice [] Tag.nil, GVal.bool false] = putG ⟨lo, hi, par, root, head⟩ next room l 2 u ∧ [GObj.row a 2 [c1], GObj.row b 2 [c2], GObj.tok v 1, GObj.tok w 1, GObj.row e 5 [c3]] = [GObj.row a 2 [c1], GObj.row b 2 [c2], .tok u 1, .tok w 1, GObj.row e 5 [c3]] := fun h => ⟨v, by rw [putG, if_neg (by rw [h]; simp)], rfl⟩
  refine ⟨fun h2 => putF (bad fun h => h2 h.1), fun h2 => ?_⟩
  · subst h2
    refine ⟨fun h3 => putF (bad (by omega)), fun h3 => ?_⟩
    refine ⟨fun h4 => putF (bad (by omega)), fun h4 => ?_⟩
    have hok : putOK ⟨lo, hi, par, root, head⟩ lo room = true := decide_eq_true ⟨rfl, h3, h4⟩
    refine (spec58 par .none hp (by simp)).then ?_
    simp +contextual -implicitDefEqProofs (maxSteps := 2000000) (disch := omega) only [binV, optV, ↓loadV, ↓fieldAddrV, ↓boxV, ↓buildSliceV, ↓sliceV, ↓appendV, ↓srcV, bound, cutTag, hiTag, fillE, GVal.cells, grp, GVal.ofConst, ↓resV, resG, List.map, List.headD, List.take, List.drop, ↓reduceIte, Nat.reduceEqDiff, Nat.reduceAdd, Nat.reduceSub, Nat.reduceLeDiff, reduceCtorEq, implies_true, ne_eq, ↓asrcV, aggV, Tag.cap, List.replicate, allSolid, GVal.solid, Nat.reduceBEq, Nat.reduceMul, Nat.reduceLT, List.length_map, List.length_range, splice, vcA, ↓vcB, vcC, fbA, fbE, fbG, e49]
    repeat (refine ⟨by omega, ?_⟩)
    intro u0
    refine vcSLoop_by (ι := { p : Nat × Nat // (p.1 : Int) ≤ hi - lo }) (fun p => ⟨[.slice (tabG (l ++ par :: ones (ups lo p.1.1))) (.tok 2 p.1.2), .agg (segG ⟨lo, hi, par, root, head⟩), .int .i64 lo, .int .i64 room, .any, .ref (segG ⟨lo, hi, par, root, head⟩), .any, .any, .any, .any, .int .i64 (lo + p.1.1 + 1)] ++ List.replicate 42 .any, [.row a 2 [c1], .row b 2 [c2], .tok p.1.2 1, .tok w 1, .row e 5 [c3]]⟩) (fun p => (hi - lo).toNat - p.1.1) ?_ ?_
    · exact Into.first ⟨(0, u0), by show ((0 : Nat) : Int) ≤ hi - lo; omega⟩ ⟨[], by simp⟩ (by simp [WL, leG_self, leG_any, segG, ups_zero, ones, tabG])
    · rintro ⟨⟨k, u⟩, hk⟩
      change (k : Int) ≤ hi - lo at hk
      simp +contextual -implicitDefEqProofs (maxSteps := 2000000) (disch := omega) only [binV, optV, ↓loadV, ↓fieldAddrV, ↓boxV, ↓buildSliceV, ↓sliceV, ↓appendV, ↓srcV, bound, cutTag, hiTag, fillE, GVal.cells, grp, GVal.ofConst, ↓resV, resG, List.map, List.headD, List.take, List.drop, ↓reduceIte, Nat.reduceEqDiff, Nat.reduceAdd, Nat.reduceSub, Nat.reduceLeDiff, reduceCtorEq, implies_true, ne_eq, ↓asrcV, aggV, Tag.cap, List.replicate, allSolid, GVal.solid, Nat.reduceBEq, Nat.reduceMul, Nat.reduceLT, List.length_map, List.length_range, splice, vcA, ↓vcB, vcC, fbA, fbE, fbG, e49, segG]
      refine ⟨fun h5 => ?_, fun h5 => ?_⟩
      · have eL : (l ++ par :: ones (ups lo k)).length = l.length + (k + 1) := by simp [ones, ups]
        refine ⟨by omega, by omega, fun st => ?_⟩
        rw [show lo + (k : Int) + 1 - 1 = lo + k from by omega]
        refine Into.snoc 0 _ _ [.slice (ints [lo + k]) .none] _ rfl (by simp [WL, leG_none, ints]) ?_
        refine Into.at ⟨(k + 1, st), by show ((k + 1 : Nat) : Int) ≤ _; omega⟩ (by show _ < _; simp; omega) ⟨[], by simp⟩ ?_
        have e1 : tabG (l ++ par :: ones (ups lo k)) ++ [[.slice (ints [lo + k]) .none]] = tabG (l ++ par :: ones (ups lo (k + 1))) := by
          rw [tabG_snoc, ups_succ, ones_append]; simp [ones]
        rw [e1]
        simp [WL, leG_self, leG_any, leG_int, segG]; omega
      · have hk2 : k = (hi - lo).toNat := by omega
        refine ⟨u, ?_, rfl⟩
        rw [putG, if_pos hok, hk2]; rfl

theorem c49O (l : List (List Int)) (s : Seg) (next room : Int) (a b v w e : Nat) (c1 c2 c3 : List GVal) (h0 : 0 ≤ next) (h1 : next ≤ 1099511628776) (hl : l.length ≤ 1000) (hr : room ≤ 1000) (hp : s.par.length ≤ 17592186044416) (hh : s.hi ≤ 9223372036854775807) :
    GCalls Try.prog 49 [.slice (tabG l) (.tok 3 w), .agg (segG s), .int .i64 next, .int .i64 room] [.row a 2 [c1], .row b 2 [c2], .tok v 1, .tok w 1, .row e 5 [c3]]
      (fun g O' => ∃ u, g = putG s next room l 3 u ∧ O' = [.row a 2 [c1], .row b 2 [c2], .tok v 1, .tok u 1, .row e 5 [c3]]) := by
  obtain ⟨lo, hi, par, root, head⟩ := s
  simp only [segG]
  change hi ≤ 9223372036854775807 at hh
  refine h49.calls mixS (by simp) ?_
  simp only [gstart, s49, List.cons_append, List.nil_append, List.length_cons, List.length_nil, Nat.reduceAdd, Nat.reduceSub, List.replicate_succ, List.replicate_zero]
  simp +contextual -implicitDefEqProofs (maxSteps := 2000000) (disch := omega) only [binV, optV, ↓loadV, ↓fieldAddrV, ↓boxV, ↓buildSliceV, ↓sliceV, ↓appendV, ↓srcV, bound, cutTag, hiTag, fillE, GVal.cells, grp, GVal.ofConst, ↓resV, resG, List.map, List.headD, List.take, List.drop, ↓reduceIte, Nat.reduceEqDiff, Nat.reduceAdd, Nat.reduceSub, Nat.reduceLeDiff, reduceCtorEq, implies_true, ne_eq, ↓asrcV, aggV, Tag.cap, List.replicate, allSolid, GVal.solid, Nat.reduceBEq, Nat.reduceMul, Nat.reduceLT, List.length_map, List.length_range, splice, vcA, ↓vcB, vcC, fbA, fbE, fbG, e49]
  have bad : ¬ (lo = next ∧ lo ≤ hi ∧ hi - lo < room) → putOK ⟨lo, hi, par, root, head⟩ next room = false := fun h => decide_eq_false h
  have putF : putOK ⟨lo, hi, par, root, head⟩ next room = false → ∃ u, GVal.tuple [GVal.slice [] Tag.nil, GVal.bool false] = putG ⟨lo, hi, par, root, head⟩ next room l 3 u ∧ [GObj.row a 2 [c1], GObj.row b 2 [c2], GObj.tok v 1, GObj.tok w 1, GObj.row e 5 [c3]] = [GObj.row a 2 [c1], GObj.row b 2 [c2], .tok v 1, .tok u 1, GObj.row e 5 [c3]] := fun h => ⟨w, by rw [putG, if_neg (by rw [h]; simp)], rfl⟩
  refine ⟨fun h2 => putF (bad fun h => h2 h.1), fun h2 => ?_⟩
  · subst h2
    refine ⟨fun h3 => putF (bad (by omega)), fun h3 => ?_⟩
    refine ⟨fun h4 => putF (bad (by omega)), fun h4 => ?_⟩
    have hok : putOK ⟨lo, hi, par, root, head⟩ lo room = true := decide_eq_true ⟨rfl, h3, h4⟩
    refine (spec58 par .none hp (by simp)).then ?_
    simp +contextual -implicitDefEqProofs (maxSteps := 2000000) (disch := omega) only [binV, optV, ↓loadV, ↓fieldAddrV, ↓boxV, ↓buildSliceV, ↓sliceV, ↓appendV, ↓srcV, bound, cutTag, hiTag, fillE, GVal.cells, grp, GVal.ofConst, ↓resV, resG, List.map, List.headD, List.take, List.drop, ↓reduceIte, Nat.reduceEqDiff, Nat.reduceAdd, Nat.reduceSub, Nat.reduceLeDiff, reduceCtorEq, implies_true, ne_eq, ↓asrcV, aggV, Tag.cap, List.replicate, allSolid, GVal.solid, Nat.reduceBEq, Nat.reduceMul, Nat.reduceLT, List.length_map, List.length_range, splice, vcA, ↓vcB, vcC, fbA, fbE, fbG, e49]
    repeat (refine ⟨by omega, ?_⟩)
    intro u0
    refine vcSLoop_by (ι := { p : Nat × Nat // (p.1 : Int) ≤ hi - lo }) (fun p => ⟨[.slice (tabG (l ++ par :: ones (ups lo p.1.1))) (.tok 3 p.1.2), .agg (segG ⟨lo, hi, par, root, head⟩), .int .i64 lo, .int .i64 room, .any, .ref (segG ⟨lo, hi, par, root, head⟩), .any, .any, .any, .any, .int .i64 (lo + p.1.1 + 1)] ++ List.replicate 42 .any, [.row a 2 [c1], .row b 2 [c2], .tok v 1, .tok p.1.2 1, .row e 5 [c3]]⟩) (fun p => (hi - lo).toNat - p.1.1) ?_ ?_
    · exact Into.first ⟨(0, u0), by show ((0 : Nat) : Int) ≤ hi - lo; omega⟩ ⟨[], by simp⟩ (by simp [WL, leG_self, leG_any, segG, ups_zero, ones, tabG])
    · rintro ⟨⟨k, u⟩, hk⟩
      change (k : Int) ≤ hi - lo at hk
      simp +contextual -implicitDefEqProofs (maxSteps := 2000000) (disch := omega) only [binV, optV, ↓loadV, ↓fieldAddrV, ↓boxV, ↓buildSliceV, ↓sliceV, ↓appendV, ↓srcV, bound, cutTag, hiTag, fillE, GVal.cells, grp, GVal.ofConst, ↓resV, resG, List.map, List.headD, List.take, List.drop, ↓reduceIte, Nat.reduceEqDiff, Nat.reduceAdd, Nat.reduceSub, Nat.reduceLeDiff, reduceCtorEq, implies_true, ne_eq, ↓asrcV, aggV, Tag.cap, List.replicate, allSolid, GVal.solid, Nat.reduceBEq, Nat.reduceMul, Nat.reduceLT, List.length_map, List.length_range, splice, vcA, ↓vcB, vcC, fbA, fbE, fbG, e49, segG]
      refine ⟨fun h5 => ?_, fun h5 => ?_⟩
      · have eL : (l ++ par :: ones (ups lo k)).length = l.length + (k + 1) := by simp [ones, ups]
        refine ⟨by omega, by omega, fun st => ?_⟩
        rw [show lo + (k : Int) + 1 - 1 = lo + k from by omega]
        refine Into.snoc 0 _ _ [.slice (ints [lo + k]) .none] _ rfl (by simp [WL, leG_none, ints]) ?_
        refine Into.at ⟨(k + 1, st), by show ((k + 1 : Nat) : Int) ≤ _; omega⟩ (by show _ < _; simp; omega) ⟨[], by simp⟩ ?_
        have e1 : tabG (l ++ par :: ones (ups lo k)) ++ [[.slice (ints [lo + k]) .none]] = tabG (l ++ par :: ones (ups lo (k + 1))) := by
          rw [tabG_snoc, ups_succ, ones_append]; simp [ones]
        rw [e1]
        simp [WL, leG_self, leG_any, leG_int, segG]; omega
      · have hk2 : k = (hi - lo).toNat := by omega
        refine ⟨u, ?_, rfl⟩
        rw [putG, if_pos hok, hk2]; rfl

end Gv.Try
/- Contract: the table of segments. -/
set_option linter.unusedVariables false
set_option linter.unusedSimpArgs false
set_option maxRecDepth 20000
set_option maxHeartbeats 8000000
namespace Gv.Try
open Go Gv Go.Proofs

abbrev Tab := List (List Int) × List (List Int)
def roomT (t : Tab) : Int := 1000 - (t.1.length : Int) - (t.2.length : Int)
def bstep (t : Tab) (s : Seg) : Option Tab :=
  if s.lo < 1099511627776 then (if putOK s (t.1.length : Int) (roomT t) = true then some (t.1 ++ rowsS s, t.2) else none)
  else (if putOK s (1099511627776 + (t.2.length : Int)) (roomT t) = true then some (t.1, t.2 ++ rowsS s) else none)
def bfold : Tab → List Seg → Option Tab
  | t, [] => some t
  | t, s :: r => match bstep t s with
    | none => none
    | some t' => bfold t' r
theorem bfold_drop (t : Tab) (l : List Seg) (k : Nat) (hk : k < l.length) : bfold t (l.drop k) = match bstep t (l.getD k default) with | none => none | some t' => bfold t' (l.drop (k + 1)) := by
  rw [List.drop_eq_getElem_cons hk, bfold]; simp [List.getD, hk]
def backI (l : List Seg) : Option Tab := match bfold ([], []) l with
  | none => none
  | some t => if rightI t.1 t.2 = true ∧ buildI t.1 t.2 = l then some t else none
def tabOf (o : Option Tab) : Tab := match o with | some t => t | none => ([], [])
def tgOf (o : Option Tab) : Tag := match o with | some _ => .none | none => .nil
def pairTG (o : Option Tab) : GVal := .tuple [.agg [.slice (tabG (tabOf o).1) (tgOf o), .slice (tabG (tabOf o).2) (tgOf o)], .bool o.isSome]
/-- a table within bounds -/
def okT (t : Tab) : Prop := t.1.length + t.2.length ≤ 1000 ∧ (∀ p ∈ t.1, p.length ≤ 17592186044416) ∧ ∀ p ∈ t.2, p.length ≤ 17592186044416
theorem rowsS_le (s : Seg) (h : s.par.length ≤ 17592186044416) : ∀ p ∈ rowsS s, p.length ≤ 17592186044416 := by
  intro p hp
  rw [rowsS, ones] at hp
  rcases List.mem_cons.1 hp with rfl | hp
  · exact h
  · obtain ⟨n, _, rfl⟩ := List.mem_map.1 hp; simp
theorem bstep_ok {t t' : Tab} {s : Seg} (h : okT t) (hs : s.par.length ≤ 17592186044416) (hb : bstep t s = some t') : okT t' := by
  obtain ⟨h1, h2, h3⟩ := h
  unfold bstep at hb
  have hr : roomT t = 1000 - (t.1.length : Int) - (t.2.length : Int) := rfl
  have hl := rowsS_len s
  have hq := rowsS_le s hs
  split at hb
  · split at hb
    · rename_i hp
      simp only [Option.some.injEq] at hb
      subst hb
      have hp := of_decide_eq_true hp
      refine ⟨?_, fun p hp => ?_, h3⟩
      · show (t.1 ++ rowsS s).length + t.2.length ≤ _
        rw [List.length_append]; omega
      · rcases List.mem_append.1 hp with hp | hp
        · exact h2 p hp
        · exact hq p hp
    · cases hb
  · split at hb
    · rename_i hp
      simp only [Option.some.injEq] at hb
      subst hb
      have hp := of_decide_eq_true hp
      refine ⟨?_, h2, fun p hp => ?_⟩
      · show t.1.length + (t.2 ++ rowsS s).length ≤ _
        rw [List.length_append]; omega
      · rcases List.mem_append.1 hp with hp | hp
        · exact h3 p hp
        · exact hq p hp
    · cases hb

theorem build_len (m o : List (List Int)) : (buildI m o).length ≤ m.length + o.length := by
  have q1 := (lrun_len 0 m m.length).1
  have q2 := (lrun_len split o o.length).1
  rw [buildI]
  split
  · rw [List.length_append, linesI, linesI]; omega
  · simp
theorem frz_pair (O : List GObj) (M N : List (List Int)) (t1 t2 : Tag) (b : Bool) : frzTo (.tuple [.agg [.slice (tabG M) t1.frz, .slice (tabG N) t2.frz], .bool b]) (.tuple [.agg [.slice (tabG M) t1, .slice (tabG N) t2], .bool b]) O := by
  have h1 : Gv.frz O 4 (.agg [.slice (tabG M) t1, .slice (tabG N) t2]) = some (.agg [.slice (tabG M) t1.frz, .slice (tabG N) t2.frz]) := frz_agg2 (frz_tabS _ 0 _ _) (frz_tabS _ 0 _ _)
  have h2 : Gv.frz O 4 (.bool b) = some (.bool b) := rfl
  refine ⟨5, .tuple [.agg [.slice (tabG M) t1.frz, .slice (tabG N) t2.frz], .bool b], ?_, ?_⟩
  · rw [Gv.frz]; simp only [frzL, h1, h2]
  · rw [leA_tuple]; simp [WL, leG_self]

theorem spec27 (l : List Seg) (t : Tag) (hl : l.length ≤ 17592186044416) (hp : ∀ i, (l.getD i default).par.length ≤ 17592186044416) (hh : ∀ i, (l.getD i default).hi ≤ 9223372036854775807) :
    GPure Try.prog 27 [.slice (segsG l) t] (pairTG (backI l)) := by
  refine h27.pureF mixS (by simp) ?_
  simp only [gstart, s27, List.cons_append, List.nil_append, List.length_cons, List.length_nil, Nat.reduceAdd, Nat.reduceSub, List.replicate_succ, List.replicate_zero]
  simp +contextual -implicitDefEqProofs (maxSteps := 2000000) (disch := omega) only [↓lenV, binV, ↓unV, ↓loadV, ↓storeV, ↓fieldAddrV, ↓indexAddrV, ↓allocV, ↓buildV, fillG, place, GVal.cells, grp, GVal.ofConst, ↓resV, resG, List.map, List.headD, List.take, List.drop, ↓reduceIte, Nat.reduceEqDiff, Nat.reduceAdd, Nat.reduceSub, Nat.reduceLeDiff, reduceCtorEq, implies_true, ne_eq, Tag.cap, List.replicate, allSolid, GVal.solid, Nat.reduceBEq, Nat.reduceMul, Nat.reduceLT, List.length_map, List.length_range, splice, vcA, ↓vcB, vcC, fbA, fbE, fbG, e27, segsG_length]
  intro st0 st1
  refine vcSLoop_by (ι := { p : Nat × Tab × Nat × Nat // p.1 ≤ l.length ∧ bfold ([], []) l = bfold p.2.1 (l.drop p.1) ∧ okT p.2.1 }) (fun p => ⟨[.slice (segsG l) t, .any, .ptr 0 st0 0 0, .any, .ptr 1 st1 0 0, .any, .any, .any, .any, .slice (segsG l) t, .int .i64 l.length, .int .i64 (p.1.1 : Nat)] ++ List.replicate 55 .any, [.row st0 2 [[.slice [] .nil, .slice [] .nil]], .row st1 2 [[.slice (tabG p.1.2.1.1) (.tok 2 p.1.2.2.1), .slice (tabG p.1.2.1.2) (.tok 3 p.1.2.2.2)]], .tok p.1.2.2.1 1, .tok p.1.2.2.2 1]⟩) (fun p => l.length - p.1.1) ?_ ?_
  · refine Into.cellTok 1 0 1 [] rfl rfl rfl rfl ?_
    simp +contextual -implicitDefEqProofs (maxSteps := 2000000) (disch := omega) only [↓lenV, binV, ↓unV, ↓loadV, ↓storeV, ↓fieldAddrV, ↓indexAddrV, ↓allocV, ↓buildV, fillG, place, GVal.cells, grp, GVal.ofConst, ↓resV, resG, List.map, List.headD, List.take, List.drop, ↓reduceIte, Nat.reduceEqDiff, Nat.reduceAdd, Nat.reduceSub, Nat.reduceLeDiff, reduceCtorEq, implies_true, ne_eq, Tag.cap, List.replicate, allSolid, GVal.solid, Nat.reduceBEq, Nat.reduceMul, Nat.reduceLT, List.length_map, List.length_range, splice, vcA, ↓vcB, vcC, fbA, fbE, fbG, e27]
    intro v
    refine Into.cellTok 1 1 1 [] rfl rfl rfl rfl ?_
    simp +contextual -implicitDefEqProofs (maxSteps := 2000000) (disch := omega) only [↓lenV, binV, ↓unV, ↓loadV, ↓storeV, ↓fieldAddrV, ↓indexAddrV, ↓allocV, ↓buildV, fillG, place, GVal.cells, grp, GVal.ofConst, ↓resV, resG, List.map, List.headD, List.take, List.drop, ↓reduceIte, Nat.reduceEqDiff, Nat.reduceAdd, Nat.reduceSub, Nat.reduceLeDiff, reduceCtorEq, implies_true, ne_eq, Tag.cap, List.replicate, allSolid, GVal.solid, Nat.reduceBEq, Nat.reduceMul, Nat.reduceLT, List.length_map, List.length_range, splice, vcA, ↓vcB, vcC, fbA, fbE, fbG, e27]
    intro w
    exact Into.first ⟨(0, ([], []), v, w), by omega, by simp, by simp [okT]⟩ ⟨[], by simp [tabG_nil]⟩ (by simp [WL, leG_self, leG_any])
  · rintro ⟨⟨k, ⟨M, O⟩, v, w⟩, hk, hx, hok⟩
    change bfold ([], []) l = bfold (M, O) (l.drop k) at hx
    change okT (M, O) at hok
    have hlen : M.length + O.length ≤ 1000 := hok.1
    by_cases h : k < l.length
    · rw [bfold_drop _ _ _ h] at hx
      have hpk := hp k
      have hhk := hh k
      have eS : (segsG l).getD k [] = segG (l.getD k default) := segsG_at l k h
      have d0 : decide ((k : Int) < (l.length : Int)) = true := decide_eq_true (by omega)
      generalize l.getD k default = s at *
      have hrt : roomT (M, O) = 1000 - (M.length : Int) - (O.length : Int) := rfl
      simp +contextual -implicitDefEqProofs (maxSteps := 2000000) (disch := omega) only [↓lenV, binV, ↓unV, ↓loadV, ↓storeV, ↓fieldAddrV, ↓indexAddrV, ↓allocV, ↓buildV, fillG, place, GVal.cells, grp, GVal.ofConst, ↓resV, resG, List.map, List.headD, List.take, List.drop, ↓reduceIte, Nat.reduceEqDiff, Nat.reduceAdd, Nat.reduceSub, Nat.reduceLeDiff, reduceCtorEq, implies_true, ne_eq, Tag.cap, List.replicate, allSolid, GVal.solid, Nat.reduceBEq, Nat.reduceMul, Nat.reduceLT, List.length_map, List.length_range, splice, vcA, ↓vcB, vcC, fbA, fbE, fbG, e27, segsG_length, eS, segG, d0, setO_3, setO_4]
      repeat (refine ⟨by omega, ?_⟩)
      intro st2
      have back0 : bstep (M, O) s = none → backI l = none := fun e => by rw [backI, hx, e]
      refine ⟨fun h1 => ?_, fun h1 => ?_⟩
      · refine (c49M M s M.length (1000 - (M.length : Int) - (O.length : Int)) st0 st1 v w st2 _ _ _ (by omega) (by omega) (by omega) (by omega) hpk hhk).mono ?_
        rintro g O' ⟨u, rfl, rfl⟩
        have hb : bstep (M, O) s = if putOK s M.length (1000 - (M.length : Int) - (O.length : Int)) = true then some (M ++ rowsS s, O) else none := by rw [bstep, if_pos h1]; rfl
        rw [putG]
        by_cases hq : putOK s M.length (1000 - (M.length : Int) - (O.length : Int)) = true
        · rw [if_pos hq] at hb ⊢
          rw [hb] at hx
          simp +contextual -implicitDefEqProofs (maxSteps := 2000000) (disch := omega) only [↓lenV, binV, ↓unV, ↓loadV, ↓storeV, ↓fieldAddrV, ↓indexAddrV, ↓allocV, ↓buildV, fillG, place, GVal.cells, grp, GVal.ofConst, ↓resV, resG, List.map, List.headD, List.take, List.drop, ↓reduceIte, Nat.reduceEqDiff, Nat.reduceAdd, Nat.reduceSub, Nat.reduceLeDiff, reduceCtorEq, implies_true, ne_eq, Tag.cap, List.replicate, allSolid, GVal.solid, Nat.reduceBEq, Nat.reduceMul, Nat.reduceLT, List.length_map, List.length_range, splice, vcA, ↓vcB, vcC, fbA, fbE, fbG, e27, setO_3, setO_4]
          exact Into.at ⟨(k + 1, (M ++ rowsS s, O), u, w), by show k + 1 ≤ _; omega, hx, bstep_ok hok hpk hb⟩ (by show _ < _; simp; omega) ⟨_, rfl⟩ (by simp [WL, leG_self, leG_any, leG_int])
        · rw [if_neg hq] at hb ⊢
          rw [back0 hb]
          simp +contextual -implicitDefEqProofs (maxSteps := 2000000) (disch := omega) only [↓lenV, binV, ↓unV, ↓loadV, ↓storeV, ↓fieldAddrV, ↓indexAddrV, ↓allocV, ↓buildV, fillG, place, GVal.cells, grp, GVal.ofConst, ↓resV, resG, List.map, List.headD, List.take, List.drop, ↓reduceIte, Nat.reduceEqDiff, Nat.reduceAdd, Nat.reduceSub, Nat.reduceLeDiff, reduceCtorEq, implies_true, ne_eq, Tag.cap, List.replicate, allSolid, GVal.solid, Nat.reduceBEq, Nat.reduceMul, Nat.reduceLT, List.length_map, List.length_range, splice, vcA, ↓vcB, vcC, fbA, fbE, fbG, e27, setO_3, setO_4]
          exact frz_pair _ [] [] .nil .nil false
      · refine (c49O O s (1099511627776 + (O.length : Int)) (1000 - (M.length : Int) - (O.length : Int)) st0 st1 v w st2 _ _ _ (by omega) (by omega) (by omega) (by omega) hpk hhk).mono ?_
        rintro g O' ⟨u, rfl, rfl⟩
        have hb : bstep (M, O) s = if putOK s (1099511627776 + (O.length : Int)) (1000 - (M.length : Int) - (O.length : Int)) = true then some (M, O ++ rowsS s) else none := by rw [bstep, if_neg (by omega)]; rfl
        rw [putG]
        by_cases hq : putOK s (1099511627776 + (O.length : Int)) (1000 - (M.length : Int) - (O.length : Int)) = true
        · rw [if_pos hq] at hb ⊢
          rw [hb] at hx
          simp +contextual -implicitDefEqProofs (maxSteps := 2000000) (disch := omega) only [↓lenV, binV, ↓unV, ↓loadV, ↓storeV, ↓fieldAddrV, ↓indexAddrV, ↓allocV, ↓buildV, fillG, place, GVal.cells, grp, GVal.ofConst, ↓resV, resG, List.map, List.headD, List.take, List.drop, ↓reduceIte, Nat.reduceEqDiff, Nat.reduceAdd, Nat.reduceSub, Nat.reduceLeDiff, reduceCtorEq, implies_true, ne_eq, Tag.cap, List.replicate, allSolid, GVal.solid, Nat.reduceBEq, Nat.reduceMul, Nat.reduceLT, List.length_map, List.length_range, splice, vcA, ↓vcB, vcC, fbA, fbE, fbG, e27, setO_3, setO_4]
          exact Into.at ⟨(k + 1, (M, O ++ rowsS s), v, u), by show k + 1 ≤ _; omega, hx, bstep_ok hok hpk hb⟩ (by show _ < _; simp; omega) ⟨_, rfl⟩ (by simp [WL, leG_self, leG_any, leG_int])
        · rw [if_neg hq] at hb ⊢
          rw [back0 hb]
          simp +contextual -implicitDefEqProofs (maxSteps := 2000000) (disch := omega) only [↓lenV, binV, ↓unV, ↓loadV, ↓storeV, ↓fieldAddrV, ↓indexAddrV, ↓allocV, ↓buildV, fillG, place, GVal.cells, grp, GVal.ofConst, ↓resV, resG, List.map, List.headD, List.take, List.drop, ↓reduceIte, Nat.reduceEqDiff, Nat.reduceAdd, Nat.reduceSub, Nat.reduceLeDiff, reduceCtorEq, implies_true, ne_eq, Tag.cap, List.replicate, allSolid, GVal.solid, Nat.reduceBEq, Nat.reduceMul, Nat.reduceLT, List.length_map, List.length_range, splice, vcA, ↓vcB, vcC, fbA, fbE, fbG, e27, setO_3, setO_4]
          exact frz_pair _ [] [] .nil .nil false
    · have hk2 : k = l.length := by change k ≤ l.length at hk; omega
      have d0 : decide ((k : Int) < (l.length : Int)) = false := decide_eq_false (by omega)
      rw [List.drop_eq_nil_of_le (by omega)] at hx
      have hbi : backI l = if rightI M O = true ∧ buildI M O = l then some (M, O) else none := by rw [backI, hx]; rfl
      simp +contextual -implicitDefEqProofs (maxSteps := 2000000) (disch := omega) only [↓lenV, binV, ↓unV, ↓loadV, ↓storeV, ↓fieldAddrV, ↓indexAddrV, ↓allocV, ↓buildV, fillG, place, GVal.cells, grp, GVal.ofConst, ↓resV, resG, List.map, List.headD, List.take, List.drop, ↓reduceIte, Nat.reduceEqDiff, Nat.reduceAdd, Nat.reduceSub, Nat.reduceLeDiff, reduceCtorEq, implies_true, ne_eq, Tag.cap, List.replicate, allSolid, GVal.solid, Nat.reduceBEq, Nat.reduceMul, Nat.reduceLT, List.length_map, List.length_range, splice, vcA, ↓vcB, vcC, fbA, fbE, fbG, e27, segsG_length, d0]
      refine (spec34 M O (.tok 2 v) (.tok 3 w) (by omega) (by omega) hok.2.1 hok.2.2).then ?_
      cases hr : rightI M O
      · rw [hbi, hr, if_neg (by simp)]
        simp +contextual -implicitDefEqProofs (maxSteps := 2000000) (disch := omega) only [↓lenV, binV, ↓unV, ↓loadV, ↓storeV, ↓fieldAddrV, ↓indexAddrV, ↓allocV, ↓buildV, fillG, place, GVal.cells, grp, GVal.ofConst, ↓resV, resG, List.map, List.headD, List.take, List.drop, ↓reduceIte, Nat.reduceEqDiff, Nat.reduceAdd, Nat.reduceSub, Nat.reduceLeDiff, reduceCtorEq, implies_true, ne_eq, Tag.cap, List.replicate, allSolid, GVal.solid, Nat.reduceBEq, Nat.reduceMul, Nat.reduceLT, List.length_map, List.length_range, splice, vcA, ↓vcB, vcC, fbA, fbE, fbG, e27]
        exact frz_pair _ [] [] .nil .nil false
      · simp +contextual -implicitDefEqProofs (maxSteps := 2000000) (disch := omega) only [↓lenV, binV, ↓unV, ↓loadV, ↓storeV, ↓fieldAddrV, ↓indexAddrV, ↓allocV, ↓buildV, fillG, place, GVal.cells, grp, GVal.ofConst, ↓resV, resG, List.map, List.headD, List.take, List.drop, ↓reduceIte, Nat.reduceEqDiff, Nat.reduceAdd, Nat.reduceSub, Nat.reduceLeDiff, reduceCtorEq, implies_true, ne_eq, Tag.cap, List.replicate, allSolid, GVal.solid, Nat.reduceBEq, Nat.reduceMul, Nat.reduceLT, List.length_map, List.length_range, splice, vcA, ↓vcB, vcC, fbA, fbE, fbG, e27]
        refine (spec12 M O (.tok 2 v) (.tok 3 w) (by omega) (by omega) hok.2.1 hok.2.2).then ?_
        have bs := build_segs M O (by omega) (by omega) hr
        have bl := build_len M O
        simp +contextual -implicitDefEqProofs (maxSteps := 2000000) (disch := omega) only [↓lenV, binV, ↓unV, ↓loadV, ↓storeV, ↓fieldAddrV, ↓indexAddrV, ↓allocV, ↓buildV, fillG, place, GVal.cells, grp, GVal.ofConst, ↓resV, resG, List.map, List.headD, List.take, List.drop, ↓reduceIte, Nat.reduceEqDiff, Nat.reduceAdd, Nat.reduceSub, Nat.reduceLeDiff, reduceCtorEq, implies_true, ne_eq, Tag.cap, List.replicate, allSolid, GVal.solid, Nat.reduceBEq, Nat.reduceMul, Nat.reduceLT, List.length_map, List.length_range, splice, vcA, ↓vcB, vcC, fbA, fbE, fbG, e27]
        refine (spec50 (buildI M O) l .none t (by omega) (fun i => by have := (bs i).2.2.2; omega)).then ?_
        by_cases he : buildI M O = l
        · rw [hbi, hr, if_pos ⟨rfl, he⟩, decide_eq_true he]
          simp +contextual -implicitDefEqProofs (maxSteps := 2000000) (disch := omega) only [↓lenV, binV, ↓unV, ↓loadV, ↓storeV, ↓fieldAddrV, ↓indexAddrV, ↓allocV, ↓buildV, fillG, place, GVal.cells, grp, GVal.ofConst, ↓resV, resG, List.map, List.headD, List.take, List.drop, ↓reduceIte, Nat.reduceEqDiff, Nat.reduceAdd, Nat.reduceSub, Nat.reduceLeDiff, reduceCtorEq, implies_true, ne_eq, Tag.cap, List.replicate, allSolid, GVal.solid, Nat.reduceBEq, Nat.reduceMul, Nat.reduceLT, List.length_map, List.length_range, splice, vcA, ↓vcB, vcC, fbA, fbE, fbG, e27]
          exact frz_pair _ M O _ _ true
        · rw [hbi, hr, if_neg (by simp [he]), decide_eq_false he]
          simp +contextual -implicitDefEqProofs (maxSteps := 2000000) (disch := omega) only [↓lenV, binV, ↓unV, ↓loadV, ↓storeV, ↓fieldAddrV, ↓indexAddrV, ↓allocV, ↓buildV, fillG, place, GVal.cells, grp, GVal.ofConst, ↓resV, resG, List.map, List.headD, List.take, List.drop, ↓reduceIte, Nat.reduceEqDiff, Nat.reduceAdd, Nat.reduceSub, Nat.reduceLeDiff, reduceCtorEq, implies_true, ne_eq, Tag.cap, List.replicate, allSolid, GVal.solid, Nat.reduceBEq, Nat.reduceMul, Nat.reduceLT, List.length_map, List.length_range, splice, vcA, ↓vcB, vcC, fbA, fbE, fbG, e27]
          exact frz_pair _ [] [] .nil .nil false

end Gv.Try
/- Contracts: where an ID is found; its parents. -/
set_option linter.unusedVariables false
set_option linter.unusedSimpArgs false
set_option maxRecDepth 20000
set_option maxHeartbeats 8000000
namespace Gv.Try
open Go Gv Go.Proofs

theorem c56 (l : List Seg) (t : Tag) (id : Int) (k : Nat) (s1 s2 : Nat) (hk : k < l.length) :
    GCalls Try.prog 56 [.int .i64 (k : Nat), .ptr 0 s1 0 0, .ptr 1 s2 0 0] [.row s1 1 [[.slice (segsG l) t]], .row s2 1 [[.int .i64 id]]] (fun g O' => g = .bool (decide (id ≤ (l.getD k default).hi)) ∧ O' = [.row s1 1 [[.slice (segsG l) t]], .row s2 1 [[.int .i64 id]]]) := by
  have eS : (segsG l).getD k [] = segG (l.getD k default) := segsG_at l k hk
  generalize l.getD k default = s at *
  refine h56.calls mixS (by simp) ?_
  simp only [gstart, s56, List.cons_append, List.nil_append, List.length_cons, List.length_nil, Nat.reduceAdd, Nat.reduceSub, List.replicate_succ, List.replicate_zero]
  simp +contextual -implicitDefEqProofs (maxSteps := 2000000) (disch := omega) only [drawC, binV, ↓loadV, ↓fieldAddrV, ↓indexAddrV, GVal.cells, grp, GVal.ofConst, ↓resV, resG, List.map, List.headD, List.take, List.drop, ↓reduceIte, Nat.reduceEqDiff, Nat.reduceAdd, Nat.reduceSub, Nat.reduceLeDiff, reduceCtorEq, implies_true, ne_eq, Tag.cap, List.replicate, allSolid, GVal.solid, Nat.reduceBEq, Nat.reduceMul, Nat.reduceLT, List.length_map, List.length_range, splice, vcA, ↓vcB, vcC, fbA, fbE, fbG, e56, segsG_length, eS, segG]
  omega

/-- where the search ends -/
def Ends (l : List Seg) (id : Int) (k : Nat) : Prop := k ≤ l.length ∧ (0 < k → (l.getD (k - 1) default).hi < id) ∧ (k < l.length → id ≤ (l.getD k default).hi)

theorem c55 (l : List Seg) (t : Tag) (id : Int) (s1 s2 : Nat) (hl : l.length ≤ 17592186044416) :
    GCalls Try.prog 55 [.int .i64 (l.length : Nat), .func (.func 56) [] [.ptr 0 s1 0 0, .ptr 1 s2 0 0]] [.row s1 1 [[.slice (segsG l) t]], .row s2 1 [[.int .i64 id]]] (fun g O' => (∃ k : Nat, g = .int .i64 k ∧ Ends l id k) ∧ O' = [.row s1 1 [[.slice (segsG l) t]], .row s2 1 [[.int .i64 id]]]) := by
  have q1 := fun (a : Int) K => conv_int Try.prog 3 94 .i64 .u64 a K und3 und94
  have q2 := fun (a : Int) K => conv_int Try.prog 94 3 .u64 .i64 a K und94 und3
  refine h55.calls mixS (by simp) ?_
  simp only [gstart, s55, List.cons_append, List.nil_append, List.length_cons, List.length_nil, Nat.reduceAdd, Nat.reduceSub, List.replicate_succ, List.replicate_zero]
  simp +contextual -implicitDefEqProofs (maxSteps := 2000000) (disch := omega) only [binV, ↓unV, ↓convV, GVal.cells, grp, GVal.ofConst, ↓resV, resG, List.map, List.headD, List.take, List.drop, ↓reduceIte, Nat.reduceEqDiff, Nat.reduceAdd, Nat.reduceSub, Nat.reduceLeDiff, reduceCtorEq, implies_true, ne_eq, Tag.cap, List.replicate, allSolid, GVal.solid, Nat.reduceBEq, Nat.reduceMul, Nat.reduceLT, List.length_map, List.length_range, splice, vcA, ↓vcB, vcC, fbA, fbE, fbG, e55]
  refine vcSLoop_by (ι := { p : Nat × Nat // p.1 ≤ p.2 ∧ p.2 ≤ l.length ∧ (0 < p.1 → (l.getD (p.1 - 1) default).hi < id) ∧ (p.2 < l.length → id ≤ (l.getD p.2 default).hi) }) (fun p => ⟨[.int .i64 (l.length : Nat), .func (.func 56) [] [.ptr 0 s1 0 0, .ptr 1 s2 0 0], .any, .any, .any, .int .i64 (p.1.1 : Nat), .int .i64 (p.1.2 : Nat)] ++ List.replicate 19 .any, [.row s1 1 [[.slice (segsG l) t]], .row s2 1 [[.int .i64 id]]]⟩) (fun p => p.1.2 - p.1.1) ?_ ?_
  · exact Into.first ⟨(0, l.length), by omega, by omega, by simp, by simp⟩ ⟨[], by simp⟩ (by simp [WL, leG_self, leG_any])
  · rintro ⟨⟨i, j⟩, h1, h2, h3, h4⟩
    change i ≤ j at h1
    change j ≤ l.length at h2
    change 0 < i → (l.getD (i - 1) default).hi < id at h3
    change j < l.length → id ≤ (l.getD j default).hi at h4
    by_cases hij : i < j
    · have d0 : decide ((i : Int) < (j : Int)) = true := decide_eq_true (by omega)
      have hm : ((i : Int) + j) / 2 = ((i + j) / 2 : Nat) := by omega
      have e1 : norm .u64 ((i : Int) + j) = (i : Int) + j := norm_u64 (by omega)
      have e2 : norm .i64 (((i + j) / 2 : Nat) : Int) = ((i + j) / 2 : Nat) := norm_i64 (by omega)
      simp +contextual -implicitDefEqProofs (maxSteps := 2000000) (disch := omega) only [binV, ↓unV, ↓convV, GVal.cells, grp, GVal.ofConst, ↓resV, resG, List.map, List.headD, List.take, List.drop, ↓reduceIte, Nat.reduceEqDiff, Nat.reduceAdd, Nat.reduceSub, Nat.reduceLeDiff, reduceCtorEq, implies_true, ne_eq, Tag.cap, List.replicate, allSolid, GVal.solid, Nat.reduceBEq, Nat.reduceMul, Nat.reduceLT, List.length_map, List.length_range, splice, vcA, ↓vcB, vcC, fbA, fbE, fbG, e55, d0, ↓q1, ↓q2, ↓ibin_shr1, e1, hm, e2]
      have hb : (i + j) / 2 < l.length := by omega
      have c := c56 l t id ((i + j) / 2) s1 s2 hb
      have hlo : i ≤ (i + j) / 2 := by omega
      have hhi : (i + j) / 2 < j := by omega
      have e3 : norm .i64 (((i : Int) + j) / 2 ^ Int.toNat 1) = ((i + j) / 2 : Nat) := by rw [show (2 : Int) ^ Int.toNat 1 = 2 from rfl, hm, e2]
      clear e1 e2 hm
      generalize (i + j) / 2 = h at *
      refine ⟨by omega, by decide, ?_⟩
      rw [e3]
      refine c.mono ?_
      rintro g O' ⟨rfl, rfl⟩
      by_cases hq : id ≤ (l.getD h default).hi
      · rw [decide_eq_true hq]
        simp +contextual -implicitDefEqProofs (maxSteps := 2000000) (disch := omega) only [binV, ↓unV, ↓convV, GVal.cells, grp, GVal.ofConst, ↓resV, resG, List.map, List.headD, List.take, List.drop, ↓reduceIte, Nat.reduceEqDiff, Nat.reduceAdd, Nat.reduceSub, Nat.reduceLeDiff, reduceCtorEq, implies_true, ne_eq, Tag.cap, List.replicate, allSolid, GVal.solid, Nat.reduceBEq, Nat.reduceMul, Nat.reduceLT, List.length_map, List.length_range, splice, vcA, ↓vcB, vcC, fbA, fbE, fbG, e55]
        exact Into.at ⟨(i, h), by show i ≤ h; omega, by show h ≤ _; omega, h3, fun _ => hq⟩ (by show h - i < j - i; omega) ⟨_, rfl⟩ (by simp [WL, leG_self, leG_any, leG_int])
      · rw [decide_eq_false hq]
        simp +contextual -implicitDefEqProofs (maxSteps := 2000000) (disch := omega) only [binV, ↓unV, ↓convV, GVal.cells, grp, GVal.ofConst, ↓resV, resG, List.map, List.headD, List.take, List.drop, ↓reduceIte, Nat.reduceEqDiff, Nat.reduceAdd, Nat.reduceSub, Nat.reduceLeDiff, reduceCtorEq, implies_true, ne_eq, Tag.cap, List.replicate, allSolid, GVal.solid, Nat.reduceBEq, Nat.reduceMul, Nat.reduceLT, List.length_map, List.length_range, splice, vcA, ↓vcB, vcC, fbA, fbE, fbG, e55]
        exact Into.at ⟨(h + 1, j), by show h + 1 ≤ j; omega, h2, fun _ => by show (l.getD (h + 1 - 1) default).hi < id; rw [Nat.add_sub_cancel]; omega, h4⟩ (by show j - (h + 1) < j - i; omega) ⟨_, rfl⟩ (by simp [WL, leG_self, leG_any, leG_int])
    · have d0 : decide ((i : Int) < (j : Int)) = false := decide_eq_false (by omega)
      simp +contextual -implicitDefEqProofs (maxSteps := 2000000) (disch := omega) only [binV, ↓unV, ↓convV, GVal.cells, grp, GVal.ofConst, ↓resV, resG, List.map, List.headD, List.take, List.drop, ↓reduceIte, Nat.reduceEqDiff, Nat.reduceAdd, Nat.reduceSub, Nat.reduceLeDiff, reduceCtorEq, implies_true, ne_eq, Tag.cap, List.replicate, allSolid, GVal.solid, Nat.reduceBEq, Nat.reduceMul, Nat.reduceLT, List.length_map, List.length_range, splice, vcA, ↓vcB, vcC, fbA, fbE, fbG, e55, d0]
      have e : i = j := by omega
      subst e
      exact ⟨i, rfl, h2, h3, h4⟩

def endAt (l : List Seg) (id : Int) (k : Nat) : Int × Bool := if k = l.length ∨ id < (l.getD k default).lo then (0, false) else ((k : Int), true)

theorem spec33 (l : List Seg) (t : Tag) (id : Int) (r : Int × Bool) (hl : l.length ≤ 17592186044416) (hr : ∀ k, Ends l id k → endAt l id k = r) :
    GPure Try.prog 33 [.slice (segsG l) t, .int .i64 id] (.tuple [.int .i64 r.1, .bool r.2]) := by
  refine h33.pure mixS (by simp) ?_
  simp only [gstart, s33, List.cons_append, List.nil_append, List.length_cons, List.length_nil, Nat.reduceAdd, Nat.reduceSub, List.replicate_succ, List.replicate_zero]
  simp +contextual -implicitDefEqProofs (maxSteps := 2000000) (disch := omega) only [drawC, ↓lenV, binV, ↓loadV, ↓fieldAddrV, ↓indexAddrV, ↓boxV, GVal.cells, grp, GVal.ofConst, ↓resV, resG, List.map, List.headD, List.take, List.drop, ↓reduceIte, Nat.reduceEqDiff, Nat.reduceAdd, Nat.reduceSub, Nat.reduceLeDiff, reduceCtorEq, implies_true, ne_eq, aggV, Tag.cap, List.replicate, allSolid, GVal.solid, Nat.reduceBEq, Nat.reduceMul, Nat.reduceLT, List.length_map, List.length_range, splice, vcA, ↓vcB, vcC, fbA, fbE, fbG, e33, segsG_length]
  intro s1 s2
  repeat (refine ⟨by omega, ?_⟩)
  refine (c55 l t id s1 s2 hl).mono ?_
  rintro g O' ⟨⟨k, rfl, hk⟩, rfl⟩
  have hh := hr k hk
  have hk2 := hk.1
  by_cases he : k = l.length
  · have d0 : ((k : Int) == (l.length : Int)) = true := by rw [beq_iff_eq]; omega
    rw [endAt, if_pos (.inl he)] at hh
    simp +contextual -implicitDefEqProofs (maxSteps := 2000000) (disch := omega) only [drawC, ↓lenV, binV, ↓loadV, ↓fieldAddrV, ↓indexAddrV, ↓boxV, GVal.cells, grp, GVal.ofConst, ↓resV, resG, List.map, List.headD, List.take, List.drop, ↓reduceIte, Nat.reduceEqDiff, Nat.reduceAdd, Nat.reduceSub, Nat.reduceLeDiff, reduceCtorEq, implies_true, ne_eq, aggV, Tag.cap, List.replicate, allSolid, GVal.solid, Nat.reduceBEq, Nat.reduceMul, Nat.reduceLT, List.length_map, List.length_range, splice, vcA, ↓vcB, vcC, fbA, fbE, fbG, e33, segsG_length, d0]
    subst hh
    exact ⟨rfl, rfl⟩
  · have d0 : ((k : Int) == (l.length : Int)) = false := by rw [beq_eq_false_iff_ne]; omega
    have eS : (segsG l).getD k [] = segG (l.getD k default) := segsG_at l k (by omega)
    unfold endAt at hh
    generalize l.getD k default = s at *
    simp +contextual -implicitDefEqProofs (maxSteps := 2000000) (disch := omega) only [drawC, ↓lenV, binV, ↓loadV, ↓fieldAddrV, ↓indexAddrV, ↓boxV, GVal.cells, grp, GVal.ofConst, ↓resV, resG, List.map, List.headD, List.take, List.drop, ↓reduceIte, Nat.reduceEqDiff, Nat.reduceAdd, Nat.reduceSub, Nat.reduceLeDiff, reduceCtorEq, implies_true, ne_eq, aggV, Tag.cap, List.replicate, allSolid, GVal.solid, Nat.reduceBEq, Nat.reduceMul, Nat.reduceLT, List.length_map, List.length_range, splice, vcA, ↓vcB, vcC, fbA, fbE, fbG, e33, segsG_length, eS, segG, d0]
    refine ⟨by omega, by omega, fun h1 => ?_, fun h1 => ?_⟩
    · rw [if_pos (.inr h1)] at hh
      subst hh; exact ⟨rfl, rfl⟩
    · rw [if_neg (by omega)] at hh
      subst hh; exact ⟨rfl, rfl⟩

/-- the parents that a list of segments tells -/
def parS (l : List Seg) (id : Int) (r : Int × Bool) : List Int := if r.2 = false then [] else if (l.getD r.1.toNat default).lo < id then [id - 1] else (l.getD r.1.toNat default).par

theorem spec35 (l : List Seg) (t : Tag) (id : Int) (r : Int × Bool) (hl : l.length ≤ 17592186044416) (hp : ∀ i, (l.getD i default).par.length ≤ 17592186044416) (hr : ∀ k, Ends l id k → endAt l id k = r) (hb : r.2 = true → 0 ≤ r.1 ∧ r.1 < l.length ∧ 0 ≤ (l.getD r.1.toNat default).lo) (hid : id ≤ 4611686018427387904) :
    GPure Try.prog 35 [.slice (segsG l) t, .int .i64 id] (.slice (ints (parS l id r)) .none) := by
  obtain ⟨k, b⟩ := r
  have c33 := spec33 l t id (k, b) hl hr
  unfold parS
  refine h35.pure mixS (by simp) ?_
  simp only [gstart, s35, List.cons_append, List.nil_append, List.length_cons, List.length_nil, Nat.reduceAdd, Nat.reduceSub, List.replicate_succ, List.replicate_zero]
  simp +contextual -implicitDefEqProofs (maxSteps := 2000000) (disch := omega) only [binV, ↓unV, optV, ↓loadV, ↓fieldAddrV, ↓indexAddrV, ↓buildSliceV, ↓sliceV, bound, cutTag, hiTag, fillE, GVal.cells, grp, GVal.ofConst, ↓resV, resG, List.map, List.headD, List.take, List.drop, ↓reduceIte, Nat.reduceEqDiff, Nat.reduceAdd, Nat.reduceSub, Nat.reduceLeDiff, reduceCtorEq, implies_true, ne_eq, Tag.cap, List.replicate, allSolid, GVal.solid, Nat.reduceBEq, Nat.reduceMul, Nat.reduceLT, List.length_map, List.length_range, splice, vcA, ↓vcB, vcC, fbA, fbE, fbG, e35]
  refine c33.then ?_
  cases b
  · simp +contextual -implicitDefEqProofs (maxSteps := 2000000) (disch := omega) only [binV, ↓unV, optV, ↓loadV, ↓fieldAddrV, ↓indexAddrV, ↓buildSliceV, ↓sliceV, bound, cutTag, hiTag, fillE, GVal.cells, grp, GVal.ofConst, ↓resV, resG, List.map, List.headD, List.take, List.drop, ↓reduceIte, Nat.reduceEqDiff, Nat.reduceAdd, Nat.reduceSub, Nat.reduceLeDiff, reduceCtorEq, implies_true, ne_eq, Tag.cap, List.replicate, allSolid, GVal.solid, Nat.reduceBEq, Nat.reduceMul, Nat.reduceLT, List.length_map, List.length_range, splice, vcA, ↓vcB, vcC, fbA, fbE, fbG, e35]
    simp [ints_nil, leG_none]
  · obtain ⟨b1, b2, b3⟩ := hb rfl
    have hpk := hp k.toNat
    have eS : (segsG l).getD k.toNat [] = segG (l.getD k.toNat default) := segsG_at l _ (by omega)
    simp only [Bool.true_eq_false, if_false]
    change 0 ≤ k at b1
    change k < _ at b2
    change 0 ≤ (l.getD k.toNat default).lo at b3
    generalize l.getD k.toNat default = s at *
    simp +contextual -implicitDefEqProofs (maxSteps := 2000000) (disch := omega) only [binV, ↓unV, optV, ↓loadV, ↓fieldAddrV, ↓indexAddrV, ↓buildSliceV, ↓sliceV, bound, cutTag, hiTag, fillE, GVal.cells, grp, GVal.ofConst, ↓resV, resG, List.map, List.headD, List.take, List.drop, ↓reduceIte, Nat.reduceEqDiff, Nat.reduceAdd, Nat.reduceSub, Nat.reduceLeDiff, reduceCtorEq, implies_true, ne_eq, Tag.cap, List.replicate, allSolid, GVal.solid, Nat.reduceBEq, Nat.reduceMul, Nat.reduceLT, List.length_map, List.length_range, splice, vcA, ↓vcB, vcC, fbA, fbE, fbG, e35, segsG_length, eS, segG]
    refine ⟨by omega, by omega, fun h => ?_, fun h => ?_⟩
    · rfl
    · repeat (refine ⟨by omega, ?_⟩)
      refine (spec58 s.par .none hpk (by simp)).then ?_
      simp +contextual -implicitDefEqProofs (maxSteps := 2000000) (disch := omega) only [binV, ↓unV, optV, ↓loadV, ↓fieldAddrV, ↓indexAddrV, ↓buildSliceV, ↓sliceV, bound, cutTag, hiTag, fillE, GVal.cells, grp, GVal.ofConst, ↓resV, resG, List.map, List.headD, List.take, List.drop, ↓reduceIte, Nat.reduceEqDiff, Nat.reduceAdd, Nat.reduceSub, Nat.reduceLeDiff, reduceCtorEq, implies_true, ne_eq, Tag.cap, List.replicate, allSolid, GVal.solid, Nat.reduceBEq, Nat.reduceMul, Nat.reduceLT, List.length_map, List.length_range, splice, vcA, ↓vcB, vcC, fbA, fbE, fbG, e35]
      rw [if_neg (by omega)]

end Gv.Try
/- The plain laws: an ID is found where it is; the table is there again. -/
set_option linter.unusedVariables false
set_option linter.unusedSimpArgs false
namespace Gv.Try
open Go Gv Go.Proofs

/-- is an ID in a segment? -/
def inS (id : Int) (s : Seg) : Prop := s.lo ≤ id ∧ id ≤ s.hi
def SortedS : List Seg → Prop
  | [] => True
  | s :: r => s.lo ≤ s.hi ∧ (∀ x ∈ r, s.hi < x.lo) ∧ SortedS r
theorem SortedS.at_ : ∀ {l : List Seg}, SortedS l → ∀ i j, i < j → j < l.length → (l.getD i default).hi < (l.getD j default).lo
  | [], _, i, j, _, hj => by simp at hj
  | s :: r, h, 0, j + 1, _, hj => by
    have hj' : j < r.length := by simpa using hj
    simp only [List.getD_cons_zero, List.getD_cons_succ]
    exact h.2.1 _ (by rw [List.getD_eq_getElem?_getD, List.getElem?_eq_getElem hj']; exact List.getElem_mem hj')
  | s :: r, h, i + 1, j + 1, hij, hj => by
    simp only [List.getD_cons_succ]
    exact SortedS.at_ h.2.2 i j (by omega) (by simpa using hj)
theorem SortedS.le : ∀ {l : List Seg}, SortedS l → ∀ i, i < l.length → (l.getD i default).lo ≤ (l.getD i default).hi
  | [], _, i, hi => by simp at hi
  | s :: r, h, 0, hi => by simpa using h.1
  | s :: r, h, i + 1, hi => by
    simp only [List.getD_cons_succ]
    exact SortedS.le h.2.2 i (by simpa using hi)
theorem fnd_yes (id : Int) : ∀ (l : List Seg) (k b : Nat), k < l.length → inS id (l.getD k default) → (∀ j, j < k → ¬ inS id (l.getD j default)) → fnd id l b = (((b + k : Nat) : Int), true)
  | [], k, b, h, _, _ => by simp at h
  | s :: r, 0, b, h, h1, _ => by
    rw [fnd, if_pos (by simpa [inS] using h1)]; rfl
  | s :: r, k + 1, b, h, h1, h2 => by
    have h0 := h2 0 (by omega)
    rw [fnd, if_neg (by simpa [inS] using h0), fnd_yes id r k (b + 1) (by simpa using h) (by simpa using h1) (fun j hj => by simpa using h2 (j + 1) (by omega))]
    rw [show b + 1 + k = b + (k + 1) from by omega]
theorem fnd_no (id : Int) : ∀ (l : List Seg) (b : Nat), (∀ j, j < l.length → ¬ inS id (l.getD j default)) → fnd id l b = (0, false)
  | [], b, _ => rfl
  | s :: r, b, h => by
    have h0 := h 0 (by simp)
    rw [fnd, if_neg (by simpa [inS] using h0), fnd_no id r (b + 1) (fun j hj => by simpa using h (j + 1) (by simpa using hj))]
theorem ends_fnd {l : List Seg} (hs : SortedS l) (id : Int) (k : Nat) (h : Ends l id k) : endAt l id k = fnd id l 0 := by
  obtain ⟨h1, h2, h3⟩ := h
  have hlow : ∀ j, j < k → ¬ inS id (l.getD j default) := fun j hj hi => by
    have hk := h2 (by omega)
    by_cases e : j = k - 1
    · subst e; exact absurd hi.2 (by omega)
    · have q1 := hs.at_ j (k - 1) (by omega) (by omega)
      have q2 := hs.le (k - 1) (by omega)
      exact absurd hi.2 (by omega)
  unfold endAt
  by_cases hk : k < l.length
  · have h3 := h3 hk
    by_cases hlo : id < (l.getD k default).lo
    · rw [if_pos (.inr hlo), fnd_no]
      intro j hj hi
      by_cases e : j < k
      · exact hlow j e hi
      · by_cases e2 : j = k
        · subst e2; exact absurd hi.1 (by omega)
        · have q1 := hs.at_ k j (by omega) hj
          have q2 := hs.le k hk
          exact absurd hi.1 (by omega)
    · rw [if_neg (by omega), fnd_yes id l k 0 hk ⟨by omega, h3⟩ hlow, Nat.zero_add]
  · rw [if_pos (.inl (by omega)), fnd_no]
    exact fun j hj => hlow j (by omega)

theorem allI_lt (m o : Nat) (hm : m ≤ 1000) (i j : Nat) (h : i < j) (hj : j < m + o) : (allI m o).getD i 0 < (allI m o).getD j 0 := by
  have hs : split = 1099511627776 := rfl
  by_cases h1 : j < m
  · rw [allI_getD1 _ _ _ (by omega), allI_getD1 _ _ _ h1]; omega
  · rw [allI_getD2 _ _ j (by omega) hj]
    by_cases h2 : i < m
    · rw [allI_getD1 _ _ _ h2]; omega
    · rw [allI_getD2 _ _ i (by omega) (by omega)]; omega
theorem okS_lo {m o : List (List Int)} (hm : m.length ≤ 1000) : ∀ (L : List Seg) (n : Nat), okS m o n L → (∀ x ∈ L, ∃ i, n ≤ i ∧ i < m.length + o.length ∧ (allI m.length o.length).getD i 0 = x.lo) ∧ SortedS L
  | [], n, h => ⟨by simp, trivial⟩
  | s :: r, n, h => by
    rw [okS] at h
    obtain ⟨⟨a1, a2, a3⟩, h2, _, _, _, h6⟩ := h
    obtain ⟨q1, q2⟩ := okS_lo hm r _ h6
    have b0 := h2 0 (by simpa using a2)
    have bl := h2 (s.hi - s.lo).toNat (by omega)
    refine ⟨fun x hx => ?_, a2, fun x hx => ?_, q2⟩
    · rcases List.mem_cons.1 hx with rfl | hx
      · exact ⟨n, by omega, by omega, by simpa using b0.2.1⟩
      · obtain ⟨i, i1, i2, i3⟩ := q1 x hx
        exact ⟨i, by omega, i2, i3⟩
    · obtain ⟨i, i1, i2, i3⟩ := q1 x hx
      rw [← i3]
      have := allI_lt m.length o.length hm (n + (s.hi - s.lo).toNat) i (by omega) i2
      rw [bl.2.1] at this
      omega
theorem okS_in {m o : List (List Int)} (hm : m.length ≤ 1000) : ∀ (L : List Seg) (n : Nat), okS m o n L → ∀ i, n ≤ i → i < m.length + o.length → ∃ k, k < L.length ∧ inS ((allI m.length o.length).getD i 0) (L.getD k default)
  | [], n, h, i, h1, h2 => by rw [okS] at h; omega
  | s :: r, n, h, i, h1, h2 => by
    rw [okS] at h
    obtain ⟨⟨a1, a2, a3⟩, g2, _, _, _, h6⟩ := h
    by_cases e : i < n + (s.hi - s.lo + 1).toNat
    · refine ⟨0, by simp, ?_⟩
      have b := g2 (i - n) (by omega)
      rw [show n + (i - n) = i from by omega] at b
      simp only [List.getD_cons_zero, inS, b.2.1]
      omega
    · obtain ⟨k, k1, k2⟩ := okS_in hm r _ h6 i (by omega) h2
      exact ⟨k + 1, by simpa using k1, by simpa using k2⟩
theorem okS_par {m o : List (List Int)} : ∀ (L : List Seg) (n : Nat), okS m o n L → ∀ k, k < L.length → ∀ id, inS id (L.getD k default) → parI m o id = if (L.getD k default).lo < id then [id - 1] else (L.getD k default).par
  | [], n, h, k, hk, _, _ => by simp at hk
  | s :: r, n, h, 0, hk, id, hi => by
    rw [okS] at h
    obtain ⟨⟨a1, a2, a3⟩, g2, g3, _, _, h6⟩ := h
    simp only [List.getD_cons_zero, inS] at hi ⊢
    split
    · rename_i hlt
      have := (g2 (id - s.lo).toNat (by omega)).2.2 (by omega)
      rw [show s.lo + ((id - s.lo).toNat : Int) = id from by omega] at this
      exact this
    · rw [show id = s.lo from by omega]; exact g3
  | s :: r, n, h, k + 1, hk, id, hi => by
    rw [okS] at h
    obtain ⟨_, _, _, _, _, h6⟩ := h
    simp only [List.getD_cons_succ] at hi ⊢
    exact okS_par r _ h6 k (by simpa using hk) id hi
theorem allI_has (m o : List (List Int)) (hm : m.length ≤ 1000) (id : Int) : hasI m.length o.length id = true → ∃ i, i < m.length + o.length ∧ (allI m.length o.length).getD i 0 = id := by
  intro h
  have hs : split = 1099511627776 := rfl
  have h := of_decide_eq_true h
  rcases h with h | h
  · exact ⟨id.toNat, by omega, by rw [allI_getD1 _ _ _ (by omega)]; omega⟩
  · exact ⟨m.length + (id - split).toNat, by omega, by rw [allI_getD2 _ _ _ (by omega) (by omega)]; omega⟩
theorem parI_none {m o : List (List Int)} {id : Int} (h : hasI m.length o.length id = false) : parI m o id = [] := by
  have h := of_decide_eq_false h
  rw [parI, if_neg (by omega), if_neg (by omega)]

/-- the parents that right segments tell are the table's -/
theorem build_par {m o : List (List Int)} (hm : m.length ≤ 1000) (ho : o.length ≤ 1000) (hr : rightI m o = true) (id : Int) :
    parS (buildI m o) id (fnd id (buildI m o) 0) = parI m o id ∧ ((fnd id (buildI m o) 0).2 = true → 0 ≤ (fnd id (buildI m o) 0).1 ∧ (fnd id (buildI m o) 0).1 < (buildI m o).length ∧ 0 ≤ ((buildI m o).getD (fnd id (buildI m o) 0).1.toNat default).lo) := by
  have hS := build_okS m o hm ho hr
  have hsegs := build_segs m o hm ho hr
  generalize buildI m o = L at *
  obtain ⟨q1, q2⟩ := okS_lo hm L 0 hS
  by_cases h : ∃ k, k < L.length ∧ inS id (L.getD k default)
  · obtain ⟨k, hk, hi⟩ := h
    have hy : fnd id L 0 = ((k : Int), true) := by
      rw [fnd_yes id L k 0 hk hi, Nat.zero_add]
      intro j hj hji
      have a1 := q2.at_ j k hj hk
      have := hi.1
      exact absurd hji.2 (by omega)
    rw [hy]
    refine ⟨?_, fun _ => ⟨by show (0 : Int) ≤ k; omega, by show (k : Int) < _; omega, ?_⟩⟩
    · rw [parS, if_neg (by simp)]
      simp only [Int.toNat_natCast]
      exact (okS_par L 0 hS k hk id hi).symm
    · simp only [Int.toNat_natCast]
      exact (hsegs k).1
  · have hn : fnd id L 0 = (0, false) := fnd_no id L 0 fun j hj hji => h ⟨j, hj, hji⟩
    rw [hn]
    refine ⟨?_, fun h => by simp at h⟩
    rw [parS, if_pos rfl]
    cases hh : hasI m.length o.length id
    · rw [parI_none hh]
    · obtain ⟨i, i1, i2⟩ := allI_has m o hm id hh
      obtain ⟨k, k1, k2⟩ := okS_in hm L 0 hS i (by omega) i1
      rw [i2] at k2
      exact absurd ⟨k, k1, k2⟩ h
theorem build_sorted {m o : List (List Int)} (hm : m.length ≤ 1000) (ho : o.length ≤ 1000) (hr : rightI m o = true) : SortedS (buildI m o) := (okS_lo hm _ 0 (build_okS m o hm ho hr)).2

/-! the table is there again -/
theorem getD_nil_take (l : List (List Int)) (a n : Nat) (h : a + n ≤ l.length) : l.take (a + n) = l.take a ++ (List.range n).map fun i => l.getD (a + i) [] := by
  induction n with
  | zero => simp
  | succ n ih =>
    rw [List.range_succ, List.map_append, ← List.append_assoc, ← ih (by omega), ← Nat.add_assoc, List.take_add_one, List.getElem?_eq_getElem (by omega)]
    simp [List.getD, List.getElem?_eq_getElem (show a + n < l.length by omega)]
theorem rows_take (frm : Int) (l : List (List Int)) (s : Seg) (h1 : frm ≤ s.lo) (h2 : s.lo ≤ s.hi) (h3 : s.hi - frm < l.length) (h4 : ∀ d : Int, s.lo < d → d ≤ s.hi → l.getD (d - frm).toNat [] = [d - 1]) (h5 : l.getD (s.lo - frm).toNat [] = s.par) :
    l.take (s.lo - frm).toNat ++ rowsS s = l.take (s.hi + 1 - frm).toNat := by
  have e : (s.hi + 1 - frm).toNat = (s.lo - frm).toNat + ((s.hi - s.lo).toNat + 1) := by omega
  rw [e, getD_nil_take _ _ _ (by omega)]
  congr 1
  rw [rowsS, ones, ups]
  rw [List.range_succ_eq_map, List.map_cons, Nat.add_zero, h5, List.map_map, List.map_map]
  congr 1
  apply List.map_congr_left
  intro i hi
  have hi := List.mem_range.1 hi
  have := h4 (s.lo + i + 1) (by omega) (by omega)
  rw [show (s.lo + i + 1 - frm).toNat = (s.lo - frm).toNat + (i + 1) from by omega] at this
  simp only [Function.comp, Nat.succ_eq_add_one]
  rw [this, show s.lo + (i : Int) + 1 - 1 = s.lo + i from by omega]
theorem bfold_append : ∀ (x y : List Seg) (t : Tab), bfold t (x ++ y) = match bfold t x with | none => none | some t' => bfold t' y
  | [], y, t => rfl
  | s :: x, y, t => by
    simp only [List.cons_append, bfold]
    cases bstep t s with
    | none => rfl
    | some t' => exact bfold_append x y t'
theorem bfold_m (m : List (List Int)) (hm : m.length ≤ 1000) : ∀ (x : List Seg) (a b : Int), 0 ≤ a → b ≤ m.length → chain 0 m a x b → bfold (m.take a.toNat, []) x = some (m.take b.toNat, [])
  | [], a, b, _, _, h => by simp only [chain] at h; subst h; rfl
  | s :: r, a, b, ha, hb, h => by
    simp only [chain] at h
    obtain ⟨h1, h2, h3, h4, h5, h6, h7⟩ := h
    have hle := chain_le _ _ _ _ _ h7
    have e := rows_take 0 m s (by omega) h2 (by omega) h3 h4
    have hl : (m.take a.toNat).length = a.toNat := by rw [List.length_take]; omega
    have hp : putOK s ((m.take a.toNat).length : Int) (roomT (m.take a.toNat, [])) = true := decide_eq_true ⟨by rw [hl]; omega, h2, by
      rw [roomT]; simp only [hl, List.length_nil]; omega⟩
    rw [bfold, bstep, if_pos (by omega), if_pos hp]
    simp only
    have e2 : m.take a.toNat ++ rowsS s = m.take (s.hi + 1).toNat := by
      rw [← h1, show s.lo.toNat = (s.lo - 0).toNat from by omega, e, Int.sub_zero]
    rw [e2]
    exact bfold_m m hm r (s.hi + 1) b (by omega) hb h7
theorem bfold_o (m o : List (List Int)) (hmo : m.length + o.length ≤ 1000) : ∀ (x : List Seg) (a b : Int), split ≤ a → b ≤ split + o.length → chain split o a x b → bfold (m, o.take (a - split).toNat) x = some (m, o.take (b - split).toNat)
  | [], a, b, _, _, h => by simp only [chain] at h; subst h; rfl
  | s :: r, a, b, ha, hb, h => by
    simp only [chain] at h
    obtain ⟨h1, h2, h3, h4, h5, h6, h7⟩ := h
    have hs : split = 1099511627776 := rfl
    have hle := chain_le _ _ _ _ _ h7
    have e := rows_take split o s (by omega) h2 (by omega) h3 h4
    have hl : (o.take (a - split).toNat).length = (a - split).toNat := by rw [List.length_take]; omega
    have hp : putOK s (1099511627776 + ((o.take (a - split).toNat).length : Int)) (roomT (m, o.take (a - split).toNat)) = true := decide_eq_true ⟨by rw [hl]; omega, h2, by
      rw [roomT]; simp only [hl]; omega⟩
    rw [bfold, bstep, if_neg (by omega), if_pos hp]
    simp only
    have e2 : o.take (a - split).toNat ++ rowsS s = o.take (s.hi + 1 - split).toNat := by rw [← h1, e]
    rw [e2]
    exact bfold_o m o hmo r (s.hi + 1) b (by omega) hb h7
theorem back_build {m o : List (List Int)} (hmo : m.length + o.length ≤ 1000) (hr : rightI m o = true) : backI (buildI m o) = some (m, o) := by
  have c1 := bfold_m m (by omega) (linesI 0 m) 0 m.length (by omega) (by omega) (by have := lrun_chain 0 m m.length; rw [Int.zero_add] at this; exact this)
  have c2 := bfold_o m o hmo (linesI split o) split (split + o.length) (by omega) (by omega) (lrun_chain split o o.length)
  have hb : bfold ([], []) (buildI m o) = some (m, o) := by
    rw [buildI, if_pos hr, bfold_append]
    have : bfold ([], []) (linesI 0 m) = some (m, []) := by
      have e1 : m.take (0 : Int).toNat = [] := rfl
      have e2 : m.take ((m.length : Nat) : Int).toNat = m := by rw [Int.toNat_natCast, List.take_length]
      rw [e1, e2] at c1; exact c1
    rw [this]
    simp only
    have e1 : o.take (split - split).toNat = [] := by rw [Int.sub_self]; rfl
    have e2 : o.take (split + (o.length : Int) - split).toNat = o := by
      rw [show split + (o.length : Int) - split = o.length from by omega, Int.toNat_natCast, List.take_length]
    rw [e1, e2] at c2; exact c2
  rw [backI, hb]
  simp only
  rw [if_pos ⟨hr, trivial⟩]
end Gv.Try
/- Contract: what the document says of a right table. -/
set_option linter.unusedVariables false
set_option linter.unusedSimpArgs false
set_option maxRecDepth 20000
set_option maxHeartbeats 8000000
namespace Gv.Try
open Go Gv Go.Proofs

def okK (m o : Nat) (id : Int) (p : List Int) (k : Nat) : Prop := ∀ i, i < k → hasI m o (p.getD i 0) = true ∧ p.getD i 0 < id ∧ ∀ j, j < i → p.getD j 0 ≠ p.getD i 0
def okId (m o : List (List Int)) (id : Int) : Prop := (parI m o id).length ≤ 4 ∧ okK m.length o.length id (parI m o id) (parI m o id).length
theorem okRow_iff {m o : Nat} {lim most : Int} (hl : ∀ p, hasI m o p = true → p < lim → p ≤ most) : ∀ {q seen : List Int}, okRow m o lim most seen q = true ↔ (∀ i, i < q.length → hasI m o (q.getD i 0) = true ∧ q.getD i 0 < lim ∧ q.getD i 0 ∉ seen ∧ ∀ j, j < i → q.getD j 0 ≠ q.getD i 0)
  | [], seen => by simp [okRow]
  | p :: r, seen => by
    rw [okRow, Bool.and_eq_true, okRow_iff hl]
    simp only [Bool.not_eq_true', Bool.or_eq_false_iff, decide_eq_false_iff_not, Bool.not_eq_false']
    constructor
    · rintro ⟨⟨⟨⟨h1, h2⟩, h3⟩, h4⟩, h5⟩ i hi
      cases i with
      | zero => exact ⟨by simpa using h3, by simpa using h1, by simpa using h4, fun j hj => by omega⟩
      | succ i =>
        obtain ⟨q1, q2, q3, q4⟩ := h5 i (by simpa using hi)
        simp only [List.getD_cons_succ]
        refine ⟨q1, q2, fun h => q3 (List.mem_append_left _ h), fun j hj => ?_⟩
        cases j with
        | zero => simp only [List.getD_cons_zero]; intro e; exact q3 (by rw [← e]; simp)
        | succ j => simp only [List.getD_cons_succ]; exact q4 j (by omega)
    · intro h
      have h0 := h 0 (by simp)
      simp only [List.getD_cons_zero] at h0
      refine ⟨⟨⟨⟨by omega, by have := hl p h0.1 h0.2.1; omega⟩, h0.1⟩, h0.2.2.1⟩, fun i hi => ?_⟩
      have hh := h (i + 1) (by simpa using hi)
      simp only [List.getD_cons_succ] at hh
      refine ⟨hh.1, hh.2.1, fun hm => ?_, fun j hj => ?_⟩
      · rcases List.mem_append.1 hm with hm | hm
        · exact hh.2.2.1 hm
        · simp at hm
          have := hh.2.2.2 0 (by omega)
          simp only [List.getD_cons_zero] at this
          exact this hm.symm
      · have := hh.2.2.2 (j + 1) (by omega)
        simpa only [List.getD_cons_succ] using this
theorem okG_iff {m o : Nat} {most : Int} : ∀ {l : List (List Int)} {frm : Int}, (∀ i : Nat, i < l.length → ∀ p, hasI m o p = true → p < frm + i → p ≤ most) → (okG m o most frm l = true ↔ ∀ i, i < l.length → (l.getD i []).length ≤ 4 ∧ okK m o (frm + i) (l.getD i []) (l.getD i []).length)
  | [], frm, _ => by simp [okG]
  | q :: r, frm, hl => by
    have hl0 := hl 0 (by simp)
    rw [okG, Bool.and_eq_true, Bool.and_eq_true, okG_iff (fun i hi p hp hlt => hl (i + 1) (by simpa using hi) p hp (by omega)), okRow_iff (fun p hp hlt => hl0 p hp (by simpa using hlt)), decide_eq_true_iff]
    constructor
    · rintro ⟨⟨h1, h2⟩, h3⟩ i hi
      cases i with
      | zero =>
        simp only [List.getD_cons_zero]
        exact ⟨h2, fun i hi => ⟨(h1 i hi).1, by have := (h1 i hi).2.1; omega, (h1 i hi).2.2.2⟩⟩
      | succ i =>
        simp only [List.getD_cons_succ]
        have := h3 i (by simpa using hi)
        rw [show frm + ((i + 1 : Nat) : Int) = frm + 1 + i from by omega]; exact this
    · intro h
      have h0 := h 0 (by simp)
      simp only [List.getD_cons_zero] at h0
      refine ⟨⟨fun i hi => ⟨(h0.2 i hi).1, by have := (h0.2 i hi).2.1; omega, by simp, (h0.2 i hi).2.2⟩, h0.1⟩, fun i hi => ?_⟩
      have := h (i + 1) (by simpa using hi)
      simp only [List.getD_cons_succ] at this
      rw [show frm + ((i + 1 : Nat) : Int) = frm + 1 + i from by omega] at this; exact this
theorem right_iff {m o : List (List Int)} (hm : m.length ≤ 1000) (ho : o.length ≤ 1000) : rightI m o = true ↔ ∀ i, i < m.length + o.length → okId m o ((allI m.length o.length).getD i 0) := by
  have hs : split = 1099511627776 := rfl
  rw [rightI, Bool.and_eq_true, okG_iff (fun i hi p hp hlt => by omega), okG_iff (fun i hi p hp hlt => by omega)]
  constructor
  · rintro ⟨h1, h2⟩ i hi
    unfold okId
    by_cases e : i < m.length
    · rw [allI_getD1 _ _ _ e, parI_m m o _ (by omega) (by omega), show ((i : Int) - 0).toNat = i from by omega]
      have := h1 i e
      rw [Int.zero_add] at this; exact this
    · rw [allI_getD2 _ _ _ (by omega) hi, parI_o m o _ hm (by omega) (by omega), show (split + ((i - m.length : Nat) : Int) - split).toNat = i - m.length from by omega]
      exact h2 _ (by omega)
  · intro h
    refine ⟨fun i hi => ?_, fun i hi => ?_⟩
    · have := h i (by omega)
      unfold okId at this
      rw [allI_getD1 _ _ _ hi, parI_m m o _ (by omega) (by omega), show ((i : Int) - 0).toNat = i from by omega] at this
      rw [Int.zero_add]; exact this
    · have := h (m.length + i) (by omega)
      unfold okId at this
      rw [allI_getD2 _ _ _ (by omega) (by omega), parI_o m o _ hm (by omega) (by omega), show (split + ((m.length + i - m.length : Nat) : Int) - split).toNat = i from by omega, show m.length + i - m.length = i from by omega] at this
      exact this

theorem spec37 (m o : List (List Int)) (tm to : Tag) (hm : m.length ≤ 1000) (ho : o.length ≤ 1000) :
    GPure Try.prog 37 [.agg [.slice (tabG m) tm, .slice (tabG o) to]] (.bool (rightI m o)) := by
  have hA := allI_len m.length o.length
  have no : ∀ i, i < m.length + o.length → ¬ okId m o ((allI m.length o.length).getD i 0) → rightI m o = false := fun i hi h => by
    cases hh : rightI m o with
    | false => rfl
    | true => exact absurd ((right_iff hm ho).1 hh i hi) h
  refine h37.pure mixS (by simp) ?_
  simp only [gstart, s37, List.cons_append, List.nil_append, List.length_cons, List.length_nil, Nat.reduceAdd, Nat.reduceSub, List.replicate_succ, List.replicate_zero]
  simp +contextual -implicitDefEqProofs (maxSteps := 2000000) (disch := omega) only [drawC, ↓lenV, binV, ↓unV, ↓loadV, ↓indexAddrV, ↓boxV, GVal.cells, grp, GVal.ofConst, ↓resV, resG, List.map, List.headD, List.take, List.drop, ↓reduceIte, Nat.reduceEqDiff, Nat.reduceAdd, Nat.reduceSub, Nat.reduceLeDiff, reduceCtorEq, implies_true, ne_eq, aggV, Tag.cap, List.replicate, allSolid, GVal.solid, Nat.reduceBEq, Nat.reduceMul, Nat.reduceLT, List.length_map, List.length_range, splice, vcA, ↓vcB, vcC, fbA, fbE, fbG, e37]
  refine (spec14 m o tm to hm ho).then ?_
  simp +contextual -implicitDefEqProofs (maxSteps := 2000000) (disch := omega) only [drawC, ↓lenV, binV, ↓unV, ↓loadV, ↓indexAddrV, ↓boxV, GVal.cells, grp, GVal.ofConst, ↓resV, resG, List.map, List.headD, List.take, List.drop, ↓reduceIte, Nat.reduceEqDiff, Nat.reduceAdd, Nat.reduceSub, Nat.reduceLeDiff, reduceCtorEq, implies_true, ne_eq, aggV, Tag.cap, List.replicate, allSolid, GVal.solid, Nat.reduceBEq, Nat.reduceMul, Nat.reduceLT, List.length_map, List.length_range, splice, vcA, ↓vcB, vcC, fbA, fbE, fbG, e37]
  refine vcSLoop_by (ι := { i : Nat // i ≤ m.length + o.length ∧ ∀ j, j < i → okId m o ((allI m.length o.length).getD j 0) }) (fun i => ⟨[.any, .ref [.slice (tabG m) tm, .slice (tabG o) to], .any, .slice (ints (allI m.length o.length)) .none, .int .i64 (i.1 : Nat)] ++ List.replicate 68 .any, []⟩) (fun i => m.length + o.length - i.1) ?_ ?_
  · exact Into.first ⟨0, by omega, by omega⟩ ⟨[], by simp⟩ (by simp [WL, leG_self, leG_any])
  · rintro ⟨i, hi, hj⟩
    by_cases him : i < m.length + o.length
    · have d0 : decide ((i : Int) < ((allI m.length o.length).length : Int)) = true := decide_eq_true (by omega)
      have eid : (ints (allI m.length o.length)).getD i [] = [.int .i64 ((allI m.length o.length).getD i 0)] := ints_at _ _ (by omega)
      have noi := no i him
      have c16 := spec16 m o tm to ((allI m.length o.length).getD i 0) hm ho
      unfold okId at noi
      have yes : (parI m o ((allI m.length o.length).getD i 0)).length ≤ 4 ∧ okK m.length o.length ((allI m.length o.length).getD i 0) (parI m o ((allI m.length o.length).getD i 0)) (parI m o ((allI m.length o.length).getD i 0)).length → ∀ j, j < i + 1 → okId m o ((allI m.length o.length).getD j 0) := fun h j hj' => by
        by_cases e : j = i
        · subst e; exact h
        · exact hj j (by omega)
      have hAl : ((allI m.length o.length).length : Int) = m.length + o.length := by omega
      generalize (allI m.length o.length).getD i 0 = id at *
      generalize parI m o id = p at *
      simp +contextual -implicitDefEqProofs (maxSteps := 2000000) (disch := omega) only [vcS_skip, vcS_reg, vcS_drw, vcS_seq, vcS_cond, vcS_block, vcS_exit, vcS_ret, vcS_loopI, drawC, opsS_nil, opsS_one, opsS_if, ordS_nil, ordS_one, ordS_if, hold_mk, ev_tmp, ev_const, ev_func, put_some, put_none, setS_mk, ↓lenV, binV, ↓unV, ↓loadV, ↓indexAddrV, ↓boxV, GVal.cells, grp, GVal.ofConst, ↓resV, resG, sget_0, sget_1, sget_2, sget_3, sget_4, set_0, set_1, set_2, set_3, set_4, setO_0, setO_1, setO_2, setL_0, setL_1, setL_2, List.map, List.headD, List.take, List.drop, ↓reduceIte, Nat.reduceEqDiff, Nat.reduceAdd, Nat.reduceSub, Nat.reduceLeDiff, reduceCtorEq, implies_true, ne_eq, norm_i64, ints_length, leG_bool, leG_int, aggV, Tag.cap, List.replicate, okCells_eq, allSolid_eq, allSolid, GVal.solid, all_nil, all_cons, all_append, all_ints, all_tabG, stamp_nil, stamp_tok, stamp_row, stamp_map, tick_nil, tick_tok, tick_row, tick_map, Nat.reduceBEq, tabG_length, tabG_at, Nat.reduceMul, Nat.reduceLT, List.length_map, List.length_range, leA_int, leA_bool, leA_slice, leA_agg, leA_tuple, WL_nil, WL_cons, leG_self, splice, ↓vcB, vcC, fbA, fbE, fbG, e37, d0, eid]
      refine ⟨by omega, by omega, c16.then ?_⟩
      simp +contextual -implicitDefEqProofs (maxSteps := 2000000) (disch := omega) only [drawC, ↓lenV, binV, ↓unV, ↓loadV, ↓indexAddrV, ↓boxV, GVal.cells, grp, GVal.ofConst, ↓resV, resG, List.map, List.headD, List.take, List.drop, ↓reduceIte, Nat.reduceEqDiff, Nat.reduceAdd, Nat.reduceSub, Nat.reduceLeDiff, reduceCtorEq, implies_true, ne_eq, aggV, Tag.cap, List.replicate, allSolid, GVal.solid, Nat.reduceBEq, Nat.reduceMul, Nat.reduceLT, List.length_map, List.length_range, splice, vcA, ↓vcB, vcC, fbA, fbE, fbG, e37]
      refine ⟨fun h1 => ?_, fun h1 => ?_⟩
      · rw [noi (fun h => by omega)]
      refine vcSLoop_by (ι := { k : Nat // k ≤ p.length ∧ okK m.length o.length id p k }) (fun k => ⟨[.any, .ref [.slice (tabG m) tm, .slice (tabG o) to], .any, .slice (ints (allI m.length o.length)) .none, .int .i64 (i : Nat), .slice (ints p) .none, .any, .int .i64 (k.1 : Nat)] ++ List.replicate 65 .any, []⟩) (fun k => p.length - k.1) ?_ ?_
      · exact Into.first ⟨0, by omega, fun j hj => by omega⟩ ⟨[], by simp⟩ (by simp [WL, leG_self, leG_any])
      · rintro ⟨k, hk, hok⟩
        by_cases hkp : k < p.length
        · have d1 : decide ((k : Int) < (p.length : Int)) = true := decide_eq_true (by omega)
          have ep : (ints p).getD k [] = [.int .i64 (p.getD k 0)] := ints_at _ _ hkp
          have c16' := spec16 m o tm to (p.getD k 0) hm ho
          have bad : ¬ (hasI m.length o.length (p.getD k 0) = true ∧ p.getD k 0 < id ∧ ∀ j, j < k → p.getD j 0 ≠ p.getD k 0) → rightI m o = false := fun h => noi fun ⟨_, h2⟩ => h (h2 k hkp)
          generalize hx : p.getD k 0 = x at *
          simp +contextual -implicitDefEqProofs (maxSteps := 2000000) (disch := omega) only [vcS_skip, vcS_reg, vcS_drw, vcS_seq, vcS_cond, vcS_block, vcS_exit, vcS_ret, vcS_loopI, drawC, opsS_nil, opsS_one, opsS_if, ordS_nil, ordS_one, ordS_if, hold_mk, ev_tmp, ev_const, ev_func, put_some, put_none, setS_mk, ↓lenV, binV, ↓unV, ↓loadV, ↓indexAddrV, ↓boxV, GVal.cells, grp, GVal.ofConst, ↓resV, resG, sget_0, sget_1, sget_2, sget_3, sget_4, set_0, set_1, set_2, set_3, set_4, setO_0, setO_1, setO_2, setL_0, setL_1, setL_2, List.map, List.headD, List.take, List.drop, ↓reduceIte, Nat.reduceEqDiff, Nat.reduceAdd, Nat.reduceSub, Nat.reduceLeDiff, reduceCtorEq, implies_true, ne_eq, norm_i64, ints_length, leG_bool, leG_int, aggV, Tag.cap, List.replicate, okCells_eq, allSolid_eq, allSolid, GVal.solid, all_nil, all_cons, all_append, all_ints, all_tabG, stamp_nil, stamp_tok, stamp_row, stamp_map, tick_nil, tick_tok, tick_row, tick_map, Nat.reduceBEq, tabG_length, tabG_at, Nat.reduceMul, Nat.reduceLT, List.length_map, List.length_range, leA_int, leA_bool, leA_slice, leA_agg, leA_tuple, WL_nil, WL_cons, leG_self, splice, ↓vcB, vcC, fbA, fbE, fbG, e37, d1, ep]
          refine ⟨by omega, by omega, c16'.then ?_⟩
          cases hh : hasI m.length o.length x
          · simp +contextual -implicitDefEqProofs (maxSteps := 2000000) (disch := omega) only [drawC, ↓lenV, binV, ↓unV, ↓loadV, ↓indexAddrV, ↓boxV, GVal.cells, grp, GVal.ofConst, ↓resV, resG, List.map, List.headD, List.take, List.drop, ↓reduceIte, Nat.reduceEqDiff, Nat.reduceAdd, Nat.reduceSub, Nat.reduceLeDiff, reduceCtorEq, implies_true, ne_eq, aggV, Tag.cap, List.replicate, allSolid, GVal.solid, Nat.reduceBEq, Nat.reduceMul, Nat.reduceLT, List.length_map, List.length_range, splice, vcA, ↓vcB, vcC, fbA, fbE, fbG, e37]
            rw [bad (by rw [hh]; simp)]
          · simp +contextual -implicitDefEqProofs (maxSteps := 2000000) (disch := omega) only [vcS_skip, vcS_reg, vcS_drw, vcS_seq, vcS_cond, vcS_block, vcS_exit, vcS_ret, vcS_loopI, drawC, opsS_nil, opsS_one, opsS_if, ordS_nil, ordS_one, ordS_if, hold_mk, ev_tmp, ev_const, ev_func, put_some, put_none, setS_mk, ↓lenV, binV, ↓unV, ↓loadV, ↓indexAddrV, ↓boxV, GVal.cells, grp, GVal.ofConst, ↓resV, resG, sget_0, sget_1, sget_2, sget_3, sget_4, set_0, set_1, set_2, set_3, set_4, setO_0, setO_1, setO_2, setL_0, setL_1, setL_2, List.map, List.headD, List.take, List.drop, ↓reduceIte, Nat.reduceEqDiff, Nat.reduceAdd, Nat.reduceSub, Nat.reduceLeDiff, reduceCtorEq, implies_true, ne_eq, norm_i64, ints_length, leG_bool, leG_int, aggV, Tag.cap, List.replicate, okCells_eq, allSolid_eq, allSolid, GVal.solid, all_nil, all_cons, all_append, all_ints, all_tabG, stamp_nil, stamp_tok, stamp_row, stamp_map, tick_nil, tick_tok, tick_row, tick_map, Nat.reduceBEq, tabG_length, tabG_at, Nat.reduceMul, Nat.reduceLT, List.length_map, List.length_range, leA_int, leA_bool, leA_slice, leA_agg, leA_tuple, WL_nil, WL_cons, leG_self, splice, ↓vcB, vcC, fbA, fbE, fbG, e37, eid, ep]
            refine ⟨by omega, by omega, by omega, by omega, fun h2 => ?_, fun h2 => ?_⟩
            · rw [bad (fun h => by omega)]
            refine vcSLoop_by (ι := { j : Nat // j ≤ k ∧ ∀ j', j' < j → p.getD j' 0 ≠ x }) (fun j => ⟨[.any, .ref [.slice (tabG m) tm, .slice (tabG o) to], .any, .slice (ints (allI m.length o.length)) .none, .int .i64 (i : Nat), .slice (ints p) .none, .any, .int .i64 (k : Nat), .any, .any, .int .i64 (j.1 : Nat)] ++ List.replicate 62 .any, []⟩) (fun j => k - j.1) ?_ ?_
            · exact Into.first ⟨0, by omega, fun j hj => by omega⟩ ⟨[], by simp⟩ (by simp [WL, leG_self, leG_any])
            · rintro ⟨j, hjk, hjn⟩
              by_cases hj2 : j < k
              · have d2 : decide ((j : Int) < (k : Int)) = true := decide_eq_true (by omega)
                have ej : (ints p).getD j [] = [.int .i64 (p.getD j 0)] := ints_at _ _ (by omega)
                have bad2 : p.getD j 0 = x → rightI m o = false := fun e => bad fun h => h.2.2 j hj2 e
                generalize hy : p.getD j 0 = y at *
                simp +contextual -implicitDefEqProofs (maxSteps := 2000000) (disch := omega) only [vcS_skip, vcS_reg, vcS_drw, vcS_seq, vcS_cond, vcS_block, vcS_exit, vcS_ret, vcS_loopI, drawC, opsS_nil, opsS_one, opsS_if, ordS_nil, ordS_one, ordS_if, hold_mk, ev_tmp, ev_const, ev_func, put_some, put_none, setS_mk, ↓lenV, binV, ↓unV, ↓loadV, ↓indexAddrV, ↓boxV, GVal.cells, grp, GVal.ofConst, ↓resV, resG, sget_0, sget_1, sget_2, sget_3, sget_4, set_0, set_1, set_2, set_3, set_4, setO_0, setO_1, setO_2, setL_0, setL_1, setL_2, List.map, List.headD, List.take, List.drop, ↓reduceIte, Nat.reduceEqDiff, Nat.reduceAdd, Nat.reduceSub, Nat.reduceLeDiff, reduceCtorEq, implies_true, ne_eq, norm_i64, ints_length, leG_bool, leG_int, aggV, Tag.cap, List.replicate, okCells_eq, allSolid_eq, allSolid, GVal.solid, all_nil, all_cons, all_append, all_ints, all_tabG, stamp_nil, stamp_tok, stamp_row, stamp_map, tick_nil, tick_tok, tick_row, tick_map, Nat.reduceBEq, tabG_length, tabG_at, Nat.reduceMul, Nat.reduceLT, List.length_map, List.length_range, leA_int, leA_bool, leA_slice, leA_agg, leA_tuple, WL_nil, WL_cons, leG_self, splice, ↓vcB, vcC, fbA, fbE, fbG, e37, d2, ep, ej]
                refine ⟨by omega, by omega, by omega, by omega, fun h3 => ?_, fun h3 => ?_⟩
                · rw [bad2 h3]
                · refine Into.at ⟨j + 1, by omega, fun j' hj' => ?_⟩ (by show _ < _; simp; omega) ⟨[], by simp⟩ (by simp [WL, leG_self, leG_any, leG_int])
                  by_cases e : j' = j
                  · subst e; rw [hy]; exact h3
                  · exact hjn j' (by omega)
              · have d2 : decide ((j : Int) < (k : Int)) = false := decide_eq_false (by omega)
                simp +contextual -implicitDefEqProofs (maxSteps := 2000000) (disch := omega) only [drawC, ↓lenV, binV, ↓unV, ↓loadV, ↓indexAddrV, ↓boxV, GVal.cells, grp, GVal.ofConst, ↓resV, resG, List.map, List.headD, List.take, List.drop, ↓reduceIte, Nat.reduceEqDiff, Nat.reduceAdd, Nat.reduceSub, Nat.reduceLeDiff, reduceCtorEq, implies_true, ne_eq, aggV, Tag.cap, List.replicate, allSolid, GVal.solid, Nat.reduceBEq, Nat.reduceMul, Nat.reduceLT, List.length_map, List.length_range, splice, vcA, ↓vcB, vcC, fbA, fbE, fbG, e37, d2]
                refine Into.at ⟨k + 1, by omega, fun k' hk' => ?_⟩ (by show _ < _; simp; omega) ⟨[], by simp⟩ (by simp [WL, leG_self, leG_any, leG_int])
                by_cases e : k' = k
                · subst e; rw [hx]; exact ⟨hh, h2, fun j' hj' => hjn j' (by omega)⟩
                · exact hok k' (by omega)
        · have d1 : decide ((k : Int) < (p.length : Int)) = false := decide_eq_false (by omega)
          have ek : k = p.length := by omega
          subst ek
          simp +contextual -implicitDefEqProofs (maxSteps := 2000000) (disch := omega) only [drawC, ↓lenV, binV, ↓unV, ↓loadV, ↓indexAddrV, ↓boxV, GVal.cells, grp, GVal.ofConst, ↓resV, resG, List.map, List.headD, List.take, List.drop, ↓reduceIte, Nat.reduceEqDiff, Nat.reduceAdd, Nat.reduceSub, Nat.reduceLeDiff, reduceCtorEq, implies_true, ne_eq, aggV, Tag.cap, List.replicate, allSolid, GVal.solid, Nat.reduceBEq, Nat.reduceMul, Nat.reduceLT, List.length_map, List.length_range, splice, vcA, ↓vcB, vcC, fbA, fbE, fbG, e37, d1]
          exact Into.at ⟨i + 1, by omega, yes ⟨by omega, hok⟩⟩ (by show _ < _; simp; omega) ⟨[], by simp⟩ (by simp [WL, leG_self, leG_any, leG_int])
    · have d0 : decide ((i : Int) < ((allI m.length o.length).length : Int)) = false := decide_eq_false (by omega)
      simp +contextual -implicitDefEqProofs (maxSteps := 2000000) (disch := omega) only [drawC, ↓lenV, binV, ↓unV, ↓loadV, ↓indexAddrV, ↓boxV, GVal.cells, grp, GVal.ofConst, ↓resV, resG, List.map, List.headD, List.take, List.drop, ↓reduceIte, Nat.reduceEqDiff, Nat.reduceAdd, Nat.reduceSub, Nat.reduceLeDiff, reduceCtorEq, implies_true, ne_eq, aggV, Tag.cap, List.replicate, allSolid, GVal.solid, Nat.reduceBEq, Nat.reduceMul, Nat.reduceLT, List.length_map, List.length_range, splice, vcA, ↓vcB, vcC, fbA, fbE, fbG, e37, d0]
      rw [eq_comm, right_iff hm ho]
      exact fun j h => hj j (by omega)

end Gv.Try
