/- Contracts: copies, runs, joined segments. -/
import Derived.Test.YtcjiabpfahmjnaaP11
import Derived.Test.YtcjiabpfahmjnaaP6
set_option linter.unusedVariables false
set_option linter.unusedSimpArgs false
set_option maxRecDepth 20000
set_option maxHeartbeats 4000000
namespace Gv.Try
open Go Gv Go.Proofs

theorem spec62 (l : List Int) (t : Tag) (x : Int) (hl : l.length ≤ 17592186044416) : GPure Try.prog 62 [.slice (ints l) t, .int .i64 x] (.bool (decide (x ∈ l))) := by
  refine h62.pure mixS (by simp) ?_
  simp only [gstart, s62, List.cons_append, List.nil_append, List.length_cons, List.length_nil, Nat.reduceAdd, Nat.reduceSub, List.replicate_succ, List.replicate_zero]
  simp +contextual -implicitDefEqProofs (maxSteps := 2000000) (disch := omega) only [↓lenV, binV, ↓loadV, ↓indexAddrV, GVal.cells, grp, GVal.ofConst, ↓resV, resG, List.map, List.headD, List.take, List.drop, ↓reduceIte, Nat.reduceEqDiff, Nat.reduceAdd, Nat.reduceSub, Nat.reduceLeDiff, reduceCtorEq, implies_true, ne_eq, aggV, Tag.cap, List.replicate, allSolid, GVal.solid, Nat.reduceBEq, Nat.reduceMul, Nat.reduceLT, List.length_map, List.length_range, splice, vcA, ↓vcB, vcC, fbA, e62]
  refine vcSLoop_by (ι := { k : Nat // k ≤ l.length ∧ x ∉ l.take k }) (fun k => ⟨[.slice (ints l) t, .int .i64 x, .any, .any, .any, .int .i64 (k.1 : Nat)] ++ List.replicate 12 .any, []⟩) (fun k => l.length - k.1) ?_ ?_
  · exact Into.first ⟨0, by omega, by simp⟩ ⟨[], by simp⟩ (by simp [WL, leG_self, leG_any])
  · rintro ⟨k, hk, hx⟩
    simp +contextual -implicitDefEqProofs (maxSteps := 2000000) (disch := omega) only [↓lenV, binV, ↓loadV, ↓indexAddrV, GVal.cells, grp, GVal.ofConst, ↓resV, resG, List.map, List.headD, List.take, List.drop, ↓reduceIte, Nat.reduceEqDiff, Nat.reduceAdd, Nat.reduceSub, Nat.reduceLeDiff, reduceCtorEq, implies_true, ne_eq, aggV, Tag.cap, List.replicate, allSolid, GVal.solid, Nat.reduceBEq, Nat.reduceMul, Nat.reduceLT, List.length_map, List.length_range, splice, vcA, ↓vcB, vcC, fbA, e62]
    refine ⟨fun h => ⟨by omega, fun h2 => ?_, fun h2 => ?_⟩, fun h => ?_⟩
    · have : x ∈ l := by rw [← h2]; exact getD_mem (by omega)
      simp [this]
    · refine Into.at ⟨k + 1, by omega, ?_⟩ (by show _ < _; simp; omega) ⟨[], by simp⟩ (by simp [WL, leG_self, leG_any, leG_int])
      rw [List.take_add_one, List.mem_append]
      intro h3
      rcases h3 with h3 | h3
      · exact hx h3
      · rw [List.getElem?_eq_getElem (by omega)] at h3
        simp [List.getD, List.getElem?_eq_getElem (by omega : k < l.length)] at h2 h3
        exact h2 h3.symm
    · rw [List.take_of_length_le (by omega)] at hx
      simp [hx]

theorem c59 (l : List Seg) (hl : l.length ≤ 1000000) : GCalls Try.prog 59 [.slice (segsG l) .none] [] (fun g O' => (∃ st, g = .own 0 st 0 l.length ∧ O' = [.row st 5 (segsG l)]) ∨ (l = [] ∧ g = .slice [] .nil ∧ O' = [])) := by
  refine h59.calls mixS (by simp) ?_
  simp only [gstart, s59, List.cons_append, List.nil_append, List.length_cons, List.length_nil, Nat.reduceAdd, Nat.reduceSub, List.replicate_succ, List.replicate_zero]
  simp +contextual -implicitDefEqProofs (maxSteps := 2000000) (disch := omega) only [binV, optV, ↓buildSliceV, ↓sliceV, ↓appendV, ↓srcV, bound, cutTag, hiTag, fillE, GVal.cells, grp, GVal.ofConst, ↓resV, resG, List.map, List.headD, List.take, List.drop, ↓reduceIte, Nat.reduceEqDiff, Nat.reduceAdd, Nat.reduceSub, Nat.reduceLeDiff, reduceCtorEq, implies_true, ne_eq, ↓asrcV, aggV, Tag.cap, List.replicate, allSolid, GVal.solid, Nat.reduceBEq, Nat.reduceMul, Nat.reduceLT, List.length_map, List.length_range, splice, vcA, ↓vcB, vcC, fbA, e59, segsG_length, all_segsG]
  have hnil : segsG l = [] → l = [] := fun h => by cases l with
    | nil => rfl
    | cons a r => simp [segsG] at h
  refine ⟨fun h => ⟨.inr (hnil h), by simp, fun st => .inl ⟨st, by rw [hnil h]; exact ⟨rfl, rfl⟩⟩⟩, fun h => ⟨by omega, by omega, by simp, fun st => .inl ⟨st, rfl, rfl⟩⟩⟩

theorem segsG_set_self (l : List Seg) (k : Nat) (h : k < l.length) : (segsG l).set k (segG (l.getD k default)) = segsG l := by
  rw [segsG_set]; congr 1
  apply List.ext_getElem (by simp)
  intro i h1 h2
  rw [List.getElem_set]
  split
  · rename_i e; subst e; simp [List.getD, h]
  · rfl

theorem spec44 (l : List Seg) (hl : l.length ≤ 1000000) (hp : ∀ i, (l.getD i default).par.length ≤ 17592186044416) : GPure Try.prog 44 [.slice (segsG l) .none] (.slice (segsG l) .none) := by
  refine h44.pureF mixS (by simp) ?_
  simp only [gstart, s44, List.cons_append, List.nil_append, List.length_cons, List.length_nil, Nat.reduceAdd, Nat.reduceSub, List.replicate_succ, List.replicate_zero]
  simp +contextual -implicitDefEqProofs (maxSteps := 2000000) (disch := omega) only [↓lenV, binV, optV, ↓loadV, ↓storeV, ↓fieldAddrV, ↓indexAddrV, ↓sliceV, bound, cutTag, hiTag, GVal.cells, grp, GVal.ofConst, ↓resV, resG, List.map, List.headD, List.take, List.drop, ↓reduceIte, Nat.reduceEqDiff, Nat.reduceAdd, Nat.reduceSub, Nat.reduceLeDiff, reduceCtorEq, implies_true, ne_eq, Tag.cap, List.replicate, allSolid, GVal.solid, Nat.reduceBEq, Nat.reduceMul, Nat.reduceLT, List.length_map, List.length_range, splice, vcA, ↓vcB, vcC, fbA, e44]
  refine (c59 l hl).mono ?_
  rintro g O' (⟨st, rfl, rfl⟩ | ⟨rfl, rfl, rfl⟩)
  · simp +contextual -implicitDefEqProofs (maxSteps := 2000000) (disch := omega) only [↓lenV, binV, optV, ↓loadV, ↓storeV, ↓fieldAddrV, ↓indexAddrV, ↓sliceV, bound, cutTag, hiTag, GVal.cells, grp, GVal.ofConst, ↓resV, resG, List.map, List.headD, List.take, List.drop, ↓reduceIte, Nat.reduceEqDiff, Nat.reduceAdd, Nat.reduceSub, Nat.reduceLeDiff, reduceCtorEq, implies_true, ne_eq, Tag.cap, List.replicate, allSolid, GVal.solid, Nat.reduceBEq, Nat.reduceMul, Nat.reduceLT, List.length_map, List.length_range, splice, vcA, ↓vcB, vcC, fbA, e44, segsG_length]
    refine vcSLoop_by (ι := { k : Nat // k ≤ l.length }) (fun k => ⟨[.any, .any, .any, .own 0 st 0 l.length, .any, .any, .any, .any, .int .i64 l.length, .int .i64 (k.1 : Nat)] ++ List.replicate 14 .any, [.row st 5 (segsG l)]⟩) (fun k => l.length - k.1) ?_ ?_
    · exact Into.first ⟨0, by omega⟩ ⟨[], by simp⟩ (by simp [WL, leG_self, leG_any])
    · rintro ⟨k, hk⟩
      simp +contextual -implicitDefEqProofs (maxSteps := 2000000) (disch := omega) only [↓lenV, binV, optV, ↓loadV, ↓storeV, ↓fieldAddrV, ↓indexAddrV, ↓sliceV, bound, cutTag, hiTag, GVal.cells, grp, GVal.ofConst, ↓resV, resG, List.map, List.headD, List.take, List.drop, ↓reduceIte, Nat.reduceEqDiff, Nat.reduceAdd, Nat.reduceSub, Nat.reduceLeDiff, reduceCtorEq, implies_true, ne_eq, Tag.cap, List.replicate, allSolid, GVal.solid, Nat.reduceBEq, Nat.reduceMul, Nat.reduceLT, List.length_map, List.length_range, splice, vcA, ↓vcB, vcC, fbA, e44, segsG_length, segsG_at, segG]
      refine ⟨fun h => ⟨by omega, by omega, by omega, (spec58 (l.getD k default).par .none (hp k) (by simp)).then ?_⟩, fun h => ?_⟩
      · simp +contextual -implicitDefEqProofs (maxSteps := 2000000) (disch := omega) only [↓lenV, binV, optV, ↓loadV, ↓storeV, ↓fieldAddrV, ↓indexAddrV, ↓sliceV, bound, cutTag, hiTag, GVal.cells, grp, GVal.ofConst, ↓resV, resG, List.map, List.headD, List.take, List.drop, ↓reduceIte, Nat.reduceEqDiff, Nat.reduceAdd, Nat.reduceSub, Nat.reduceLeDiff, reduceCtorEq, implies_true, ne_eq, Tag.cap, List.replicate, allSolid, GVal.solid, Nat.reduceBEq, Nat.reduceMul, Nat.reduceLT, List.length_map, List.length_range, splice, vcA, ↓vcB, vcC, fbA, e44, segsG_length, segsG_at, segG]
        refine ⟨by omega, by omega, by omega, by omega, ?_⟩
        refine Into.at ⟨k + 1, by omega⟩ (by show _ < _; simp; omega) ⟨[], ?_⟩ (by simp [WL, leG_self, leG_any, leG_int])
        have := segsG_set_self l k (by omega)
        rw [segG] at this
        simp only [List.append_nil, this]
      · exact ⟨4, .slice (segsG l) .none, frz_own rfl (segsG_length _).symm (frz_segs _ 1 _), by rw [leA_slice]⟩
  · simp +contextual -implicitDefEqProofs (maxSteps := 2000000) (disch := omega) only [↓lenV, binV, optV, ↓loadV, ↓storeV, ↓fieldAddrV, ↓indexAddrV, ↓sliceV, bound, cutTag, hiTag, GVal.cells, grp, GVal.ofConst, ↓resV, resG, List.map, List.headD, List.take, List.drop, ↓reduceIte, Nat.reduceEqDiff, Nat.reduceAdd, Nat.reduceSub, Nat.reduceLeDiff, reduceCtorEq, implies_true, ne_eq, Tag.cap, List.replicate, allSolid, GVal.solid, Nat.reduceBEq, Nat.reduceMul, Nat.reduceLT, List.length_map, List.length_range, splice, vcA, ↓vcB, vcC, fbA, e44]
    refine vcSLoop_by (ι := Unit) (fun _ => ⟨[.any, .any, .any, .slice [] .nil, .any, .any, .any, .any, .int .i64 0, .int .i64 0] ++ List.replicate 14 .any, []⟩) (fun _ => 0) ?_ ?_
    · exact Into.first () ⟨[], by simp⟩ (by simp [WL, leG_self, leG_any])
    · rintro ⟨⟩
      simp +contextual -implicitDefEqProofs (maxSteps := 2000000) (disch := omega) only [↓lenV, binV, optV, ↓loadV, ↓storeV, ↓fieldAddrV, ↓indexAddrV, ↓sliceV, bound, cutTag, hiTag, GVal.cells, grp, GVal.ofConst, ↓resV, resG, List.map, List.headD, List.take, List.drop, ↓reduceIte, Nat.reduceEqDiff, Nat.reduceAdd, Nat.reduceSub, Nat.reduceLeDiff, reduceCtorEq, implies_true, ne_eq, Tag.cap, List.replicate, allSolid, GVal.solid, Nat.reduceBEq, Nat.reduceMul, Nat.reduceLT, List.length_map, List.length_range, splice, vcA, ↓vcB, vcC, fbA, e44]
      exact ⟨fun h => absurd h (by omega), fun _ => ⟨2, .slice [] .nil, rfl, by rw [leA_slice]; rfl⟩⟩

/-- one group -/
def sameG (a b : Seg) : Bool := decide (a.lo < 1099511627776) == decide (b.lo < 1099511627776)
/-- a run's length -/
def runOK (l : List Seg) (size : Int) (n : Nat) : Prop := 1 ≤ n ∧ (n : Int) ≤ size ∧ n ≤ l.length ∧ ∀ i, i < n → sameG (l.getD i default) (l.getD 0 default) = true

theorem rel42 (l : List Seg) (size : Int) (t : Tag) (hl : l.length ≤ 17592186044416) (h0 : l ≠ []) (hs : 2 ≤ size) : GRel Try.prog 42 [.slice (segsG l) t, .int .i64 size] (fun g => ∃ n, g = .int .i64 (n : Nat) ∧ runOK l size n) := by
  have hpos : 0 < l.length := List.length_pos_iff.2 h0
  refine h42.rel mixS (by simp) ?_
  simp only [gstart, s42, List.cons_append, List.nil_append, List.length_cons, List.length_nil, Nat.reduceAdd, Nat.reduceSub, List.replicate_succ, List.replicate_zero]
  simp +contextual -implicitDefEqProofs (maxSteps := 2000000) (disch := omega) only [drawC, ↓lenV, binV, ↓loadV, ↓fieldAddrV, ↓indexAddrV, ↓minV, GVal.cells, grp, GVal.ofConst, ↓resV, resG, List.map, List.headD, List.take, List.drop, ↓reduceIte, Nat.reduceEqDiff, Nat.reduceAdd, Nat.reduceSub, Nat.reduceLeDiff, reduceCtorEq, implies_true, ne_eq, aggV, Tag.cap, List.replicate, allSolid, GVal.solid, Nat.reduceBEq, Nat.reduceMul, Nat.reduceLT, List.length_map, List.length_range, splice, vcA, ↓vcB, vcC, fbA, e42, segsG_length]
  refine vcSLoop_by (ι := { n : Nat // runOK l size n }) (fun n => ⟨[.slice (segsG l) t, .int .i64 size, .any, .any, .any, .int .i64 (n.1 : Nat)] ++ List.replicate 23 .any, []⟩) (fun n => l.length - n.1) ?_ ?_
  · exact Into.first ⟨1, by omega, by omega, by omega, fun i hi => by rw [show i = 0 by omega]; simp [sameG]⟩ ⟨[], by simp⟩ (by simp [WL, leG_self, leG_any])
  · rintro ⟨n, hn⟩
    have hn' := hn
    obtain ⟨n1, n2, n3, n4⟩ := hn
    have out : ∃ r, frzTo r (.int .i64 (n : Nat)) [] ∧ ∃ n, r = .int .i64 (n : Nat) ∧ runOK l size n := ⟨_, ⟨1, _, rfl, by rw [leA_int]; exact ⟨rfl, rfl⟩⟩, n, rfl, hn'⟩
    have more : (n : Int) < min (l.length : Int) size → sameG (l.getD n default) (l.getD 0 default) = true → runOK l size (n + 1) := fun h1 h2 => by
      refine ⟨by omega, by omega, by omega, fun i hi => ?_⟩
      by_cases e : i = n
      · rw [e]; exact h2
      · exact n4 i (by omega)
    simp +contextual -implicitDefEqProofs (maxSteps := 2000000) (disch := omega) only [drawC, ↓lenV, binV, ↓loadV, ↓fieldAddrV, ↓indexAddrV, ↓minV, GVal.cells, grp, GVal.ofConst, ↓resV, resG, List.map, List.headD, List.take, List.drop, ↓reduceIte, Nat.reduceEqDiff, Nat.reduceAdd, Nat.reduceSub, Nat.reduceLeDiff, reduceCtorEq, implies_true, ne_eq, aggV, Tag.cap, List.replicate, allSolid, GVal.solid, Nat.reduceBEq, Nat.reduceMul, Nat.reduceLT, List.length_map, List.length_range, splice, vcA, ↓vcB, vcC, fbA, e42, segsG_length, segsG_at, segG, Int.toNat_zero]
    refine ⟨fun h1 => ⟨by omega, by omega, by omega, by omega, fun h2 => ⟨fun h3 => ?_, fun h3 => out⟩, fun h2 => ⟨fun h3 => out, fun h3 => ?_⟩⟩, fun h1 => out⟩
    · exact Into.at ⟨n + 1, more h1 (by unfold sameG; rw [decide_eq_true h2, decide_eq_true h3]; rfl)⟩ (by show _ < _; simp; omega) ⟨[], by simp⟩ (by simp [WL, leG_self, leG_any, leG_int])
    · exact Into.at ⟨n + 1, more h1 (by unfold sameG; rw [decide_eq_false (by omega), decide_eq_false (by omega)]; rfl)⟩ (by show _ < _; simp; omega) ⟨[], by simp⟩ (by simp [WL, leG_self, leG_any, leG_int])

end Gv.Try
/- Contracts: joined segments. -/
set_option linter.unusedVariables false
set_option linter.unusedSimpArgs false
set_option maxRecDepth 20000
set_option maxHeartbeats 4000000
namespace Gv.Try
open Go Gv Go.Proofs

def jpar (lo : Int) : List Int → List Int → List Int
  | acc, [] => acc
  | acc, p :: r => jpar lo (if p < lo ∧ p ∉ acc then acc ++ [p] else acc) r
theorem jpar_app (lo : Int) : ∀ (a b acc : List Int), jpar lo acc (a ++ b) = jpar lo (jpar lo acc a) b
  | [], b, acc => rfl
  | p :: a, b, acc => jpar_app lo a b _
theorem jpar_len (lo : Int) : ∀ (a acc : List Int), (jpar lo acc a).length ≤ acc.length + a.length
  | [], acc => by simp [jpar]
  | p :: a, acc => by
    have := jpar_len lo a (if p < lo ∧ p ∉ acc then acc ++ [p] else acc)
    rw [jpar]
    have h2 : (if p < lo ∧ p ∉ acc then acc ++ [p] else acc).length ≤ acc.length + 1 := by split <;> simp
    simp only [List.length_cons]
    omega
theorem jpar_take (lo : Int) (acc q : List Int) (i : Nat) (h : i < q.length) : jpar lo acc (q.take (i + 1)) = if q.getD i 0 < lo ∧ q.getD i 0 ∉ jpar lo acc (q.take i) then jpar lo acc (q.take i) ++ [q.getD i 0] else jpar lo acc (q.take i) := by
  rw [List.take_add_one, jpar_app]
  simp [List.getElem?_eq_getElem h, jpar, List.getD]
def jall (lo : Int) (l : List Seg) : List Int := l.foldl (fun acc s => jpar lo acc s.par) []
def sumP : List Seg → Nat
  | [] => 0
  | s :: r => s.par.length + sumP r
theorem sumP_app (a b : List Seg) : sumP (a ++ b) = sumP a + sumP b := by
  induction a with
  | nil => simp [sumP]
  | cons s r ih => simp [sumP, ih, Nat.add_assoc]
theorem sumP_take (l : List Seg) (k : Nat) : sumP (l.take k) ≤ sumP l := by
  have := sumP_app (l.take k) (l.drop k)
  rw [List.take_append_drop] at this
  omega
theorem take_succ' (l : List Seg) (k : Nat) (h : k < l.length) : l.take (k + 1) = l.take k ++ [l.getD k default] := by
  rw [List.take_add_one]; simp [List.getElem?_eq_getElem h, List.getD]
theorem jall_take (lo : Int) (l : List Seg) (k : Nat) (h : k < l.length) : jall lo (l.take (k + 1)) = jpar lo (jall lo (l.take k)) (l.getD k default).par := by
  rw [take_succ' l k h, jall, List.foldl_append]; rfl
theorem jall_len (lo : Int) (l : List Seg) : ∀ k, (jall lo (l.take k)).length ≤ sumP (l.take k)
  | 0 => by simp [jall]
  | k + 1 => by
    by_cases h : k < l.length
    · rw [jall_take lo l k h, take_succ' l k h, sumP_app]
      have h1 := jpar_len lo (l.getD k default).par (jall lo (l.take k))
      have h2 := jall_len lo l k
      simp only [sumP]; omega
    · rw [List.take_of_length_le (by omega), ← List.take_of_length_le (l := l) (i := k) (by omega)]
      exact jall_len lo l k
def anyR (l : List Seg) : Bool := l.any (·.root)
theorem anyR_take (l : List Seg) (k : Nat) (h : k < l.length) : anyR (l.take (k + 1)) = (anyR (l.take k) || (l.getD k default).root) := by
  rw [take_succ' l k h, anyR, List.any_append]; simp [anyR]
/-- one segment of a run -/
def joinI (l : List Seg) : Seg := ⟨(l.getD 0 default).lo, (l.getD (l.length - 1) default).hi, jall (l.getD 0 default).lo l, anyR l, (l.getD (l.length - 1) default).head⟩
theorem sumP_at (l : List Seg) (i : Nat) : (l.getD i default).par.length ≤ sumP l := by
  by_cases h : i < l.length
  · have h1 := sumP_take l (i + 1)
    rw [take_succ' l i h, sumP_app] at h1
    simp only [sumP] at h1
    omega
  · rw [List.getD_eq_getElem?_getD, List.getElem?_eq_none (by omega)]; simp [show (default : Seg).par = [] from rfl]

theorem frz_seg (O : List GObj) (a b : Int) (p : List Int) (t : Tag) (r h : Bool) : Gv.frz O 4 (.agg [.int .i64 a, .int .i64 b, .slice (ints p) t, .bool r, .bool h]) = some (.agg [.int .i64 a, .int .i64 b, .slice (ints p) t.frz, .bool r, .bool h]) := by
  rw [Gv.frz]; simp only [frzL, frz_intsS]; simp [Gv.frz]

theorem spec43 (l : List Seg) (hl : l.length ≤ 1000000) (h0 : l ≠ []) (hp : sumP l ≤ 100000) : GPure Try.prog 43 [.slice (segsG l) .none] (.agg (segG (joinI l))) := by
  have hpos : 0 < l.length := List.length_pos_iff.2 h0
  refine h43.pureF mixS (by simp) ?_
  simp only [gstart, s43, List.cons_append, List.nil_append, List.length_cons, List.length_nil, Nat.reduceAdd, Nat.reduceSub, List.replicate_succ, List.replicate_zero]
  simp +contextual -implicitDefEqProofs (maxSteps := 2000000) (disch := omega) only [drawC, ↓lenV, binV, ↓unV, ↓loadV, ↓storeV, ↓fieldAddrV, ↓indexAddrV, ↓allocV, ↓buildV, ↓buildSliceV, ↓appendV, ↓srcV, fillG, fillE, place, GVal.cells, grp, GVal.ofConst, ↓resV, resG, List.map, List.headD, List.take, List.drop, ↓reduceIte, Nat.reduceEqDiff, Nat.reduceAdd, Nat.reduceSub, Nat.reduceLeDiff, reduceCtorEq, implies_true, ne_eq, ↓asrcV, Tag.cap, List.replicate, allSolid, GVal.solid, Nat.reduceBEq, Nat.reduceMul, Nat.reduceLT, List.length_map, List.length_range, splice, vcA, ↓vcB, vcC, fbA, e43, segsG_length, segsG_at, segG, toNat_pred, Int.toNat_zero]
  intro st0
  refine ⟨by omega, by omega, fun st1 => ⟨by omega, by omega, fun st2 => ⟨⟨_, rfl⟩, ?_⟩⟩⟩
  have hla : l.getD (l.length - 1) default = l.getD (l.length - 1) default := rfl
  have hlo : (l.getD 0 default).lo = (l.getD 0 default).lo := rfl
  have hj : joinI l = ⟨(l.getD 0 default).lo, (l.getD (l.length - 1) default).hi, jall (l.getD 0 default).lo l, anyR l, (l.getD (l.length - 1) default).head⟩ := rfl
  revert hj
  generalize l.getD (l.length - 1) default = la
  generalize (l.getD 0 default).lo = lo
  intro hj
  have jl : ∀ k, (jall lo (l.take k)).length ≤ 100000 := fun k => Nat.le_trans (jall_len lo l k) (Nat.le_trans (sumP_take l k) hp)
  refine vcSLoop_by (ι := { p : Nat × Nat // p.1 ≤ l.length }) (fun p => ⟨[.slice (segsG l) .none, .any, .ptr 0 st0 0 0, .any, .ptr 2 st2 0 0] ++ List.replicate 19 .any ++ [.slice (segsG l) .none, .int .i64 l.length, .int .i64 (p.1.1 : Nat)] ++ List.replicate 37 .any, [.row st0 5 [[.int .i64 0, .int .i64 0, .slice [] .nil, .bool false, .bool false]], .row st1 5 [[.int .i64 la.lo, .int .i64 la.hi, .slice (ints la.par) .none, .bool la.root, .bool la.head]], .row st2 5 [[.int .i64 lo, .int .i64 la.hi, .slice (ints (jall lo (l.take p.1.1))) (.tok 3 p.1.2), .bool (anyR (l.take p.1.1)), .bool la.head]], .tok p.1.2 1]⟩) (fun p => l.length - p.1.1) ?_ ?_
  · refine Into.cellTok 2 2 1 [] rfl rfl rfl rfl ?_
    simp +contextual -implicitDefEqProofs (maxSteps := 2000000) (disch := omega) only [drawC, ↓lenV, binV, ↓unV, ↓loadV, ↓storeV, ↓fieldAddrV, ↓indexAddrV, ↓allocV, ↓buildV, ↓buildSliceV, ↓appendV, ↓srcV, fillG, fillE, place, GVal.cells, grp, GVal.ofConst, ↓resV, resG, List.map, List.headD, List.take, List.drop, ↓reduceIte, Nat.reduceEqDiff, Nat.reduceAdd, Nat.reduceSub, Nat.reduceLeDiff, reduceCtorEq, implies_true, ne_eq, ↓asrcV, Tag.cap, List.replicate, allSolid, GVal.solid, Nat.reduceBEq, Nat.reduceMul, Nat.reduceLT, List.length_map, List.length_range, splice, vcA, ↓vcB, vcC, fbA, e43, List.set_cons_succ, List.set_cons_zero]
    intro t
    exact Into.first ⟨(0, t), by omega⟩ ⟨[], by simp [jall, anyR, ints]⟩ (by simp [WL, leG_self, leG_any])
  · rintro ⟨⟨k, u⟩, hk⟩
    cases hb : anyR (l.take k)
    · simp +contextual -implicitDefEqProofs (maxSteps := 2000000) (disch := omega) only [drawC, ↓lenV, binV, ↓unV, ↓loadV, ↓storeV, ↓fieldAddrV, ↓indexAddrV, ↓allocV, ↓buildV, ↓buildSliceV, ↓appendV, ↓srcV, fillG, fillE, place, GVal.cells, grp, GVal.ofConst, ↓resV, resG, List.map, List.headD, List.take, List.drop, ↓reduceIte, Nat.reduceEqDiff, Nat.reduceAdd, Nat.reduceSub, Nat.reduceLeDiff, reduceCtorEq, implies_true, ne_eq, ↓asrcV, Tag.cap, List.replicate, allSolid, GVal.solid, Nat.reduceBEq, Nat.reduceMul, Nat.reduceLT, List.length_map, List.length_range, splice, vcA, ↓vcB, vcC, fbA, e43, segsG_length, segsG_at, segG, toNat_pred, Int.toNat_zero, List.set_cons_succ, List.set_cons_zero, hb]
      refine ⟨fun h => ⟨by omega, fun st => ?_⟩, fun h => ?_⟩
      · have hkl : k < l.length := by omega
        have eR := anyR_take l k hkl
        have eJ := jall_take lo l k hkl
        have jl1 := jl k
        have hps := sumP_at l k
        have jl2 : ∀ i, (jpar lo (jall lo (l.take k)) ((l.getD k default).par.take i)).length ≤ 1000000 := fun i => by
          have h1 := jpar_len lo ((l.getD k default).par.take i) (jall lo (l.take k))
          have h2 : ((l.getD k default).par.take i).length ≤ (l.getD k default).par.length := by rw [List.length_take]; omega
          omega
        rw [hb] at eR
        refine vcSLoop_by (ι := { p : Nat × Nat // p.1 ≤ (l.getD k default).par.length }) (fun p => ⟨[.slice (segsG l) .none, .any, .ptr 0 st0 0 0, .any, .ptr 2 st2 0 0, .any, .any] ++ List.replicate 17 .any ++ [.slice (segsG l) .none, .int .i64 l.length, .int .i64 (k : Nat)] ++ List.replicate 11 .any ++ [.slice (ints (l.getD k default).par) .none, .int .i64 (l.getD k default).par.length, .int .i64 (p.1.1 : Nat)] ++ List.replicate 23 .any, [.row st0 5 [[.int .i64 0, .int .i64 0, .slice [] .nil, .bool false, .bool false]], .row st1 5 [[.int .i64 la.lo, .int .i64 la.hi, .slice (ints la.par) .none, .bool la.root, .bool la.head]], .row st2 5 [[.int .i64 lo, .int .i64 la.hi, .slice (ints (jpar lo (jall lo (l.take k)) ((l.getD k default).par.take p.1.1))) (.tok 3 p.1.2), .bool (anyR (l.take (k + 1))), .bool la.head]], .tok p.1.2 1]⟩) (fun p => (l.getD k default).par.length - p.1.1) ?_ ?_
        · exact Into.first ⟨(0, u), by omega⟩ ⟨_, by simp [jpar, eR]; rfl⟩ (by simp [WL, leG_self, leG_any])
        · rintro ⟨⟨i, v⟩, hi⟩
          change i ≤ (l.getD k default).par.length at hi
          have jl3 := jl2 i
          simp +contextual -implicitDefEqProofs (maxSteps := 2000000) (disch := omega) only [drawC, ↓lenV, binV, ↓unV, ↓loadV, ↓storeV, ↓fieldAddrV, ↓indexAddrV, ↓allocV, ↓buildV, ↓buildSliceV, ↓appendV, ↓srcV, fillG, fillE, place, GVal.cells, grp, GVal.ofConst, ↓resV, resG, List.map, List.headD, List.take, List.drop, ↓reduceIte, Nat.reduceEqDiff, Nat.reduceAdd, Nat.reduceSub, Nat.reduceLeDiff, reduceCtorEq, implies_true, ne_eq, ↓asrcV, Tag.cap, List.replicate, allSolid, GVal.solid, Nat.reduceBEq, Nat.reduceMul, Nat.reduceLT, List.length_map, List.length_range, splice, vcA, ↓vcB, vcC, fbA, e43, Int.toNat_zero, List.set_cons_succ, List.set_cons_zero]
          have eT := fun h => jpar_take lo (jall lo (l.take k)) (l.getD k default).par i h
          refine ⟨fun h2 => ⟨by omega, fun h3 => ?_, fun h3 => ?_⟩, fun h2 => ?_⟩
          · have c47 := spec47 (jpar lo (jall lo (l.take k)) ((l.getD k default).par.take i)) (.tok 3 v) ((l.getD k default).par.getD i 0) (by omega)
            by_cases hm : (l.getD k default).par.getD i 0 ∈ jpar lo (jall lo (l.take k)) ((l.getD k default).par.take i)
            · rw [decide_eq_true hm] at c47
              have eT' := (eT (by omega)).trans (if_neg (fun h => h.2 hm))
              refine c47.then ?_
              simp +contextual -implicitDefEqProofs (maxSteps := 2000000) (disch := omega) only [drawC, ↓lenV, binV, ↓unV, ↓loadV, ↓storeV, ↓fieldAddrV, ↓indexAddrV, ↓allocV, ↓buildV, ↓buildSliceV, ↓appendV, ↓srcV, fillG, fillE, place, GVal.cells, grp, GVal.ofConst, ↓resV, resG, List.map, List.headD, List.take, List.drop, ↓reduceIte, Nat.reduceEqDiff, Nat.reduceAdd, Nat.reduceSub, Nat.reduceLeDiff, reduceCtorEq, implies_true, ne_eq, ↓asrcV, Tag.cap, List.replicate, allSolid, GVal.solid, Nat.reduceBEq, Nat.reduceMul, Nat.reduceLT, List.length_map, List.length_range, splice, vcA, ↓vcB, vcC, fbA, e43, Int.toNat_zero, List.set_cons_succ, List.set_cons_zero]
              exact Into.at ⟨(i + 1, v), by show i + 1 ≤ _; omega⟩ (by show (l.getD k default).par.length - (i + 1) < (l.getD k default).par.length - i; omega) ⟨[], by simp only [eT', List.append_nil]⟩ (by simp [WL, leG_self, leG_any, leG_int])
            · rw [decide_eq_false hm] at c47
              have eT' := (eT (by omega)).trans (if_pos ⟨h3, hm⟩)
              refine c47.then ?_
              simp +contextual -implicitDefEqProofs (maxSteps := 2000000) (disch := omega) only [drawC, ↓lenV, binV, ↓unV, ↓loadV, ↓storeV, ↓fieldAddrV, ↓indexAddrV, ↓allocV, ↓buildV, ↓buildSliceV, ↓appendV, ↓srcV, fillG, fillE, place, GVal.cells, grp, GVal.ofConst, ↓resV, resG, List.map, List.headD, List.take, List.drop, ↓reduceIte, Nat.reduceEqDiff, Nat.reduceAdd, Nat.reduceSub, Nat.reduceLeDiff, reduceCtorEq, implies_true, ne_eq, ↓asrcV, Tag.cap, List.replicate, allSolid, GVal.solid, Nat.reduceBEq, Nat.reduceMul, Nat.reduceLT, List.length_map, List.length_range, splice, vcA, ↓vcB, vcC, fbA, e43, Int.toNat_zero, List.set_cons_succ, List.set_cons_zero]
              refine ⟨by omega, by omega, fun w => ?_⟩
              exact Into.at ⟨(i + 1, w), by show i + 1 ≤ _; omega⟩ (by show (l.getD k default).par.length - (i + 1) < (l.getD k default).par.length - i; omega) ⟨[], by simp only [eT', List.append_nil, ints_append, ints_one]⟩ (by simp [WL, leG_self, leG_any, leG_int])
          · have eT' := (eT (by omega)).trans (if_neg (fun h => absurd h.1 (by omega)))
            exact Into.at ⟨(i + 1, v), by show i + 1 ≤ _; omega⟩ (by show (l.getD k default).par.length - (i + 1) < (l.getD k default).par.length - i; omega) ⟨[], by simp only [eT', List.append_nil]⟩ (by simp [WL, leG_self, leG_any, leG_int])
          · rw [List.take_of_length_le (i := i) (l := (l.getD k default).par) (by omega)]
            exact Into.at ⟨(k + 1, v), by show k + 1 ≤ _; omega⟩ (by show _ < _; simp; omega) ⟨[], by simp only [eJ, List.append_nil]⟩ (by simp [WL, leG_self, leG_any, leG_int])
      · have ek : l.take k = l := List.take_of_length_le (by omega)
        rw [ek] at hb
        rw [hj, ek, ← hb]
        exact ⟨4, _, frz_seg _ _ _ _ _ _ _, by rw [leA_agg]; simp [WL, leG_self, leG_none, Tag.frz, leG_bool]⟩
    · simp +contextual -implicitDefEqProofs (maxSteps := 2000000) (disch := omega) only [drawC, ↓lenV, binV, ↓unV, ↓loadV, ↓storeV, ↓fieldAddrV, ↓indexAddrV, ↓allocV, ↓buildV, ↓buildSliceV, ↓appendV, ↓srcV, fillG, fillE, place, GVal.cells, grp, GVal.ofConst, ↓resV, resG, List.map, List.headD, List.take, List.drop, ↓reduceIte, Nat.reduceEqDiff, Nat.reduceAdd, Nat.reduceSub, Nat.reduceLeDiff, reduceCtorEq, implies_true, ne_eq, ↓asrcV, Tag.cap, List.replicate, allSolid, GVal.solid, Nat.reduceBEq, Nat.reduceMul, Nat.reduceLT, List.length_map, List.length_range, splice, vcA, ↓vcB, vcC, fbA, e43, segsG_length, segsG_at, segG, toNat_pred, Int.toNat_zero, List.set_cons_succ, List.set_cons_zero, hb]
      refine ⟨fun h => ⟨by omega, fun st => ?_⟩, fun h => ?_⟩
      · have hkl : k < l.length := by omega
        have eR := anyR_take l k hkl
        have eJ := jall_take lo l k hkl
        have jl1 := jl k
        have hps := sumP_at l k
        have jl2 : ∀ i, (jpar lo (jall lo (l.take k)) ((l.getD k default).par.take i)).length ≤ 1000000 := fun i => by
          have h1 := jpar_len lo ((l.getD k default).par.take i) (jall lo (l.take k))
          have h2 : ((l.getD k default).par.take i).length ≤ (l.getD k default).par.length := by rw [List.length_take]; omega
          omega
        rw [hb] at eR
        refine vcSLoop_by (ι := { p : Nat × Nat // p.1 ≤ (l.getD k default).par.length }) (fun p => ⟨[.slice (segsG l) .none, .any, .ptr 0 st0 0 0, .any, .ptr 2 st2 0 0, .any, .any] ++ List.replicate 17 .any ++ [.slice (segsG l) .none, .int .i64 l.length, .int .i64 (k : Nat)] ++ List.replicate 11 .any ++ [.slice (ints (l.getD k default).par) .none, .int .i64 (l.getD k default).par.length, .int .i64 (p.1.1 : Nat)] ++ List.replicate 23 .any, [.row st0 5 [[.int .i64 0, .int .i64 0, .slice [] .nil, .bool false, .bool false]], .row st1 5 [[.int .i64 la.lo, .int .i64 la.hi, .slice (ints la.par) .none, .bool la.root, .bool la.head]], .row st2 5 [[.int .i64 lo, .int .i64 la.hi, .slice (ints (jpar lo (jall lo (l.take k)) ((l.getD k default).par.take p.1.1))) (.tok 3 p.1.2), .bool (anyR (l.take (k + 1))), .bool la.head]], .tok p.1.2 1]⟩) (fun p => (l.getD k default).par.length - p.1.1) ?_ ?_
        · exact Into.first ⟨(0, u), by omega⟩ ⟨_, by simp [jpar, eR]; rfl⟩ (by simp [WL, leG_self, leG_any])
        · rintro ⟨⟨i, v⟩, hi⟩
          change i ≤ (l.getD k default).par.length at hi
          have jl3 := jl2 i
          simp +contextual -implicitDefEqProofs (maxSteps := 2000000) (disch := omega) only [drawC, ↓lenV, binV, ↓unV, ↓loadV, ↓storeV, ↓fieldAddrV, ↓indexAddrV, ↓allocV, ↓buildV, ↓buildSliceV, ↓appendV, ↓srcV, fillG, fillE, place, GVal.cells, grp, GVal.ofConst, ↓resV, resG, List.map, List.headD, List.take, List.drop, ↓reduceIte, Nat.reduceEqDiff, Nat.reduceAdd, Nat.reduceSub, Nat.reduceLeDiff, reduceCtorEq, implies_true, ne_eq, ↓asrcV, Tag.cap, List.replicate, allSolid, GVal.solid, Nat.reduceBEq, Nat.reduceMul, Nat.reduceLT, List.length_map, List.length_range, splice, vcA, ↓vcB, vcC, fbA, e43, Int.toNat_zero, List.set_cons_succ, List.set_cons_zero]
          have eT := fun h => jpar_take lo (jall lo (l.take k)) (l.getD k default).par i h
          refine ⟨fun h2 => ⟨by omega, fun h3 => ?_, fun h3 => ?_⟩, fun h2 => ?_⟩
          · have c47 := spec47 (jpar lo (jall lo (l.take k)) ((l.getD k default).par.take i)) (.tok 3 v) ((l.getD k default).par.getD i 0) (by omega)
            by_cases hm : (l.getD k default).par.getD i 0 ∈ jpar lo (jall lo (l.take k)) ((l.getD k default).par.take i)
            · rw [decide_eq_true hm] at c47
              have eT' := (eT (by omega)).trans (if_neg (fun h => h.2 hm))
              refine c47.then ?_
              simp +contextual -implicitDefEqProofs (maxSteps := 2000000) (disch := omega) only [drawC, ↓lenV, binV, ↓unV, ↓loadV, ↓storeV, ↓fieldAddrV, ↓indexAddrV, ↓allocV, ↓buildV, ↓buildSliceV, ↓appendV, ↓srcV, fillG, fillE, place, GVal.cells, grp, GVal.ofConst, ↓resV, resG, List.map, List.headD, List.take, List.drop, ↓reduceIte, Nat.reduceEqDiff, Nat.reduceAdd, Nat.reduceSub, Nat.reduceLeDiff, reduceCtorEq, implies_true, ne_eq, ↓asrcV, Tag.cap, List.replicate, allSolid, GVal.solid, Nat.reduceBEq, Nat.reduceMul, Nat.reduceLT, List.length_map, List.length_range, splice, vcA, ↓vcB, vcC, fbA, e43, Int.toNat_zero, List.set_cons_succ, List.set_cons_zero]
              exact Into.at ⟨(i + 1, v), by show i + 1 ≤ _; omega⟩ (by show (l.getD k default).par.length - (i + 1) < (l.getD k default).par.length - i; omega) ⟨[], by simp only [eT', List.append_nil]⟩ (by simp [WL, leG_self, leG_any, leG_int])
            · rw [decide_eq_false hm] at c47
              have eT' := (eT (by omega)).trans (if_pos ⟨h3, hm⟩)
              refine c47.then ?_
              simp +contextual -implicitDefEqProofs (maxSteps := 2000000) (disch := omega) only [drawC, ↓lenV, binV, ↓unV, ↓loadV, ↓storeV, ↓fieldAddrV, ↓indexAddrV, ↓allocV, ↓buildV, ↓buildSliceV, ↓appendV, ↓srcV, fillG, fillE, place, GVal.cells, grp, GVal.ofConst, ↓resV, resG, List.map, List.headD, List.take, List.drop, ↓reduceIte, Nat.reduceEqDiff, Nat.reduceAdd, Nat.reduceSub, Nat.reduceLeDiff, reduceCtorEq, implies_true, ne_eq, ↓asrcV, Tag.cap, List.replicate, allSolid, GVal.solid, Nat.reduceBEq, Nat.reduceMul, Nat.reduceLT, List.length_map, List.length_range, splice, vcA, ↓vcB, vcC, fbA, e43, Int.toNat_zero, List.set_cons_succ, List.set_cons_zero]
              refine ⟨by omega, by omega, fun w => ?_⟩
              exact Into.at ⟨(i + 1, w), by show i + 1 ≤ _; omega⟩ (by show (l.getD k default).par.length - (i + 1) < (l.getD k default).par.length - i; omega) ⟨[], by simp only [eT', List.append_nil, ints_append, ints_one]⟩ (by simp [WL, leG_self, leG_any, leG_int])
          · have eT' := (eT (by omega)).trans (if_neg (fun h => absurd h.1 (by omega)))
            exact Into.at ⟨(i + 1, v), by show i + 1 ≤ _; omega⟩ (by show (l.getD k default).par.length - (i + 1) < (l.getD k default).par.length - i; omega) ⟨[], by simp only [eT', List.append_nil]⟩ (by simp [WL, leG_self, leG_any, leG_int])
          · rw [List.take_of_length_le (i := i) (l := (l.getD k default).par) (by omega)]
            exact Into.at ⟨(k + 1, v), by show k + 1 ≤ _; omega⟩ (by show _ < _; simp; omega) ⟨[], by simp only [eJ, List.append_nil]⟩ (by simp [WL, leG_self, leG_any, leG_int])
      · have ek : l.take k = l := List.take_of_length_le (by omega)
        rw [ek] at hb
        rw [hj, ek, ← hb]
        exact ⟨4, _, frz_seg _ _ _ _ _ _ _, by rw [leA_agg]; simp [WL, leG_self, leG_none, Tag.frz, leG_bool]⟩

end Gv.Try
/- Contracts: one level more; all levels. -/
set_option linter.unusedVariables false
set_option linter.unusedSimpArgs false
set_option maxRecDepth 20000
set_option maxHeartbeats 4000000
namespace Gv.Try
open Go Gv Go.Proofs

inductive UpOK (size : Int) : List Seg → List Seg → Prop
  | nil : UpOK size [] []
  | cons (l u : List Seg) (n : Nat) : runOK l size n → (n = 1 ∨ headsN (l.take n) = 1) → UpOK size (l.drop n) u → UpOK size l (joinI (l.take n) :: u)
theorem runOK.down {l : List Seg} {size : Int} {n m : Nat} (h : runOK l size n) (h1 : 1 ≤ m) (h2 : m ≤ n) : runOK l size m := by
  obtain ⟨a, b, c, d⟩ := h
  exact ⟨h1, by omega, by omega, fun i hi => d i (by omega)⟩
theorem frz_segsS (O : List GObj) (n : Nat) (l : List Seg) (t : Tag) : Gv.frz O (n + 3) (.slice (segsG l) t) = some (.slice (segsG l) t.frz) := by
  rw [Gv.frz, frz_segs]
theorem sumP_drop (l : List Seg) (k : Nat) : sumP (l.drop k) ≤ sumP l := by
  have := sumP_app (l.take k) (l.drop k)
  rw [List.take_append_drop] at this
  omega
theorem segsG_nil : segsG [] = [] := rfl

theorem rel20 (l : List Seg) (size : Int) (hl : l.length ≤ 1000) (hp : sumP l ≤ 100000) (hs : 2 ≤ size) : GRel Try.prog 20 [.slice (segsG l) .none, .int .i64 size] (fun g => ∃ u, g = .slice (segsG u) .none ∧ UpOK size l u) := by
  refine h20.rel mixS (by simp) ?_
  simp only [gstart, s20, List.cons_append, List.nil_append, List.length_cons, List.length_nil, Nat.reduceAdd, Nat.reduceSub, List.replicate_succ, List.replicate_zero]
  simp +contextual -implicitDefEqProofs (maxSteps := 2000000) (disch := omega) only [↓lenV, binV, optV, ↓buildSliceV, ↓sliceV, ↓appendV, ↓srcV, bound, cutTag, hiTag, fillE, GVal.cells, grp, GVal.ofConst, ↓resV, resG, List.map, List.headD, List.take, List.drop, ↓reduceIte, Nat.reduceEqDiff, Nat.reduceAdd, Nat.reduceSub, Nat.reduceLeDiff, reduceCtorEq, implies_true, ne_eq, ↓asrcV, aggV, Tag.cap, List.replicate, allSolid, GVal.solid, Nat.reduceBEq, Nat.reduceMul, Nat.reduceLT, List.length_map, List.length_range, splice, vcA, ↓vcB, vcC, fbA, e20]
  refine ⟨fun h => absurd h (by omega), fun _ => ?_⟩
  refine vcSLoop_by (ι := { p : List Seg × List Seg × Nat // (∀ u, UpOK size p.2.1 u → UpOK size l (p.1 ++ u)) ∧ p.1.length + p.2.1.length ≤ l.length ∧ sumP p.2.1 ≤ 100000 }) (fun p => ⟨[.slice (segsG p.1.2.1) .none, .int .i64 size, .any, .any, .any, .slice (segsG p.1.1) (.tok 0 p.1.2.2)] ++ List.replicate 31 .any, [.tok p.1.2.2 5]⟩) (fun p => p.1.2.1.length) ?_ ?_
  · refine Into.tok 5 5 [] rfl rfl ?_
    simp +contextual -implicitDefEqProofs (maxSteps := 2000000) (disch := omega) only [↓lenV, binV, optV, ↓buildSliceV, ↓sliceV, ↓appendV, ↓srcV, bound, cutTag, hiTag, fillE, GVal.cells, grp, GVal.ofConst, ↓resV, resG, List.map, List.headD, List.take, List.drop, ↓reduceIte, Nat.reduceEqDiff, Nat.reduceAdd, Nat.reduceSub, Nat.reduceLeDiff, reduceCtorEq, implies_true, ne_eq, ↓asrcV, aggV, Tag.cap, List.replicate, allSolid, GVal.solid, Nat.reduceBEq, Nat.reduceMul, Nat.reduceLT, List.length_map, List.length_range, splice, vcA, ↓vcB, vcC, fbA, e20]
    intro t
    exact Into.first ⟨([], l, t), fun u h => h, by simp, hp⟩ ⟨[], by simp⟩ (by simp [WL, leG_self, leG_any, segsG_nil])
  · rintro ⟨⟨out, rest, v⟩, h1, h2, h3⟩
    change ∀ u, UpOK size rest u → UpOK size l (out ++ u) at h1
    change out.length + rest.length ≤ l.length at h2
    change sumP rest ≤ 100000 at h3
    simp +contextual -implicitDefEqProofs (maxSteps := 2000000) (disch := omega) only [↓lenV, binV, optV, ↓buildSliceV, ↓sliceV, ↓appendV, ↓srcV, bound, cutTag, hiTag, fillE, GVal.cells, grp, GVal.ofConst, ↓resV, resG, List.map, List.headD, List.take, List.drop, ↓reduceIte, Nat.reduceEqDiff, Nat.reduceAdd, Nat.reduceSub, Nat.reduceLeDiff, reduceCtorEq, implies_true, ne_eq, ↓asrcV, aggV, Tag.cap, List.replicate, allSolid, GVal.solid, Nat.reduceBEq, Nat.reduceMul, Nat.reduceLT, List.length_map, List.length_range, splice, vcA, ↓vcB, vcC, fbA, e20, segsG_length]
    refine ⟨fun h => ?_, fun h => ?_⟩
    · have hne : rest ≠ [] := fun e => by subst e; simp at h
      refine (rel42 rest size .none (by omega) hne hs).then ?_
      rintro g ⟨n0, rfl, hn0⟩
      simp +contextual -implicitDefEqProofs (maxSteps := 2000000) (disch := omega) only [↓lenV, binV, optV, ↓buildSliceV, ↓sliceV, ↓appendV, ↓srcV, bound, cutTag, hiTag, fillE, GVal.cells, grp, GVal.ofConst, ↓resV, resG, List.map, List.headD, List.take, List.drop, ↓reduceIte, Nat.reduceEqDiff, Nat.reduceAdd, Nat.reduceSub, Nat.reduceLeDiff, reduceCtorEq, implies_true, ne_eq, ↓asrcV, aggV, Tag.cap, List.replicate, allSolid, GVal.solid, Nat.reduceBEq, Nat.reduceMul, Nat.reduceLT, List.length_map, List.length_range, splice, vcA, ↓vcB, vcC, fbA, e20]
      refine vcSLoop_by (ι := { n : Nat // runOK rest size n }) (fun n => ⟨[.slice (segsG rest) .none, .int .i64 size, .any, .any, .any, .slice (segsG out) (.tok 0 v), .int .i64 (n.1 : Nat)] ++ List.replicate 30 .any, [.tok v 5]⟩) (fun n => n.1) ?_ ?_
      · exact Into.first ⟨n0, hn0⟩ ⟨[], by simp⟩ (by simp [WL, leG_self, leG_any])
      · rintro ⟨n, hn⟩
        have hn' := hn
        obtain ⟨n1, n2, n3, n4⟩ := hn'
        have hF : (segsG rest).take rest.length = segsG rest := List.take_of_length_le (by rw [segsG_length]; omega)
        have hlen : (rest.take n).length = n := by rw [List.length_take]; omega
        simp +contextual -implicitDefEqProofs (maxSteps := 2000000) (disch := omega) only [↓lenV, binV, optV, ↓buildSliceV, ↓sliceV, ↓appendV, ↓srcV, bound, cutTag, hiTag, fillE, GVal.cells, grp, GVal.ofConst, ↓resV, resG, List.map, List.headD, List.take, List.drop, ↓reduceIte, Nat.reduceEqDiff, Nat.reduceAdd, Nat.reduceSub, Nat.reduceLeDiff, reduceCtorEq, implies_true, ne_eq, ↓asrcV, aggV, Tag.cap, List.replicate, allSolid, GVal.solid, Nat.reduceBEq, Nat.reduceMul, Nat.reduceLT, List.length_map, List.length_range, splice, vcA, ↓vcB, vcC, fbA, e20, segsG_length, segsG_take, Int.toNat_zero, all_segsG]
        refine ⟨fun h4 => ⟨by omega, by omega, by omega, ?_⟩, fun h4 => ⟨by omega, by omega, by omega, ?_⟩⟩
        · refine (spec23 (rest.take n) (by omega) (fun i => by have := sumP_at (rest.take n) i; have := sumP_take rest n; omega)).then ?_
          by_cases h5 : headsN (rest.take n) = 1
          · have h6 : ((headsN (rest.take n) : Nat) : Int) = 1 := by omega
            simp +contextual -implicitDefEqProofs (maxSteps := 2000000) (disch := omega) only [↓lenV, binV, optV, ↓buildSliceV, ↓sliceV, ↓appendV, ↓srcV, bound, cutTag, hiTag, fillE, GVal.cells, grp, GVal.ofConst, ↓resV, resG, List.map, List.headD, List.take, List.drop, ↓reduceIte, Nat.reduceEqDiff, Nat.reduceAdd, Nat.reduceSub, Nat.reduceLeDiff, reduceCtorEq, implies_true, ne_eq, ↓asrcV, aggV, Tag.cap, List.replicate, allSolid, GVal.solid, Nat.reduceBEq, Nat.reduceMul, Nat.reduceLT, List.length_map, List.length_range, splice, vcA, ↓vcB, vcC, fbA, e20, segsG_length, segsG_take, Int.toNat_zero, all_segsG]
            refine ⟨fun h7 => absurd h6 h7, fun _ => ⟨by omega, by omega, by omega, ?_⟩⟩
            refine (spec43 (rest.take n) (by rw [List.length_take]; omega) (fun e => by rw [e] at hlen; simp at hlen; omega) (by have := sumP_take rest n; omega)).then ?_
            simp +contextual -implicitDefEqProofs (maxSteps := 2000000) (disch := omega) only [↓lenV, binV, optV, ↓buildSliceV, ↓sliceV, ↓appendV, ↓srcV, bound, cutTag, hiTag, fillE, GVal.cells, grp, GVal.ofConst, ↓resV, resG, List.map, List.headD, List.take, List.drop, ↓reduceIte, Nat.reduceEqDiff, Nat.reduceAdd, Nat.reduceSub, Nat.reduceLeDiff, reduceCtorEq, implies_true, ne_eq, ↓asrcV, aggV, Tag.cap, List.replicate, allSolid, GVal.solid, Nat.reduceBEq, Nat.reduceMul, Nat.reduceLT, List.length_map, List.length_range, splice, vcA, ↓vcB, vcC, fbA, e20, segsG_length, segsG_drop, all_segsG, segG, hF]
            refine ⟨by omega, by omega, fun w => ⟨by omega, by omega, by omega, ?_⟩⟩
            refine Into.at ⟨(out ++ [joinI (rest.take n)], rest.drop n, w), fun u hu => ?_, ?_, ?_⟩ ?_ ⟨[], by simp⟩ ?_
            · show UpOK size l (out ++ [joinI (rest.take n)] ++ u)
              rw [List.append_assoc]
              exact h1 _ (.cons rest u n hn (.inr h5) hu)
            · show (out ++ [joinI (rest.take n)]).length + (rest.drop n).length ≤ l.length
              rw [List.length_append, List.length_drop]; simp; omega
            · show sumP (rest.drop n) ≤ 100000
              have := sumP_drop rest n; omega
            · show (rest.drop n).length < rest.length
              rw [List.length_drop]; omega
            · simp [WL, leG_self, leG_any, leG_int, segsG_append, segsG_one, segG]

          · have h6 : ((headsN (rest.take n) : Nat) : Int) ≠ 1 := by omega
            simp +contextual -implicitDefEqProofs (maxSteps := 2000000) (disch := omega) only [↓lenV, binV, optV, ↓buildSliceV, ↓sliceV, ↓appendV, ↓srcV, bound, cutTag, hiTag, fillE, GVal.cells, grp, GVal.ofConst, ↓resV, resG, List.map, List.headD, List.take, List.drop, ↓reduceIte, Nat.reduceEqDiff, Nat.reduceAdd, Nat.reduceSub, Nat.reduceLeDiff, reduceCtorEq, implies_true, ne_eq, ↓asrcV, aggV, Tag.cap, List.replicate, allSolid, GVal.solid, Nat.reduceBEq, Nat.reduceMul, Nat.reduceLT, List.length_map, List.length_range, splice, vcA, ↓vcB, vcC, fbA, e20, segsG_length]
            refine ⟨fun _ => ?_, fun h7 => absurd h7 h6⟩
            exact Into.at ⟨n - 1, hn.down (by omega) (by omega)⟩ (by show n - 1 < n; omega) ⟨[], by simp⟩ (by simp [WL, leG_self, leG_any, leG_int] <;> omega)
        · skip
          refine (spec43 (rest.take n) (by rw [List.length_take]; omega) (fun e => by rw [e] at hlen; simp at hlen; omega) (by have := sumP_take rest n; omega)).then ?_
          simp +contextual -implicitDefEqProofs (maxSteps := 2000000) (disch := omega) only [↓lenV, binV, optV, ↓buildSliceV, ↓sliceV, ↓appendV, ↓srcV, bound, cutTag, hiTag, fillE, GVal.cells, grp, GVal.ofConst, ↓resV, resG, List.map, List.headD, List.take, List.drop, ↓reduceIte, Nat.reduceEqDiff, Nat.reduceAdd, Nat.reduceSub, Nat.reduceLeDiff, reduceCtorEq, implies_true, ne_eq, ↓asrcV, aggV, Tag.cap, List.replicate, allSolid, GVal.solid, Nat.reduceBEq, Nat.reduceMul, Nat.reduceLT, List.length_map, List.length_range, splice, vcA, ↓vcB, vcC, fbA, e20, segsG_length, segsG_drop, all_segsG, segG, hF]
          refine ⟨by omega, by omega, fun w => ⟨by omega, by omega, by omega, ?_⟩⟩
          refine Into.at ⟨(out ++ [joinI (rest.take n)], rest.drop n, w), fun u hu => ?_, ?_, ?_⟩ ?_ ⟨[], by simp⟩ ?_
          · show UpOK size l (out ++ [joinI (rest.take n)] ++ u)
            rw [List.append_assoc]
            exact h1 _ (.cons rest u n hn (.inl (by omega)) hu)
          · show (out ++ [joinI (rest.take n)]).length + (rest.drop n).length ≤ l.length
            rw [List.length_append, List.length_drop]; simp; omega
          · show sumP (rest.drop n) ≤ 100000
            have := sumP_drop rest n; omega
          · show (rest.drop n).length < rest.length
            rw [List.length_drop]; omega
          · simp [WL, leG_self, leG_any, leG_int, segsG_append, segsG_one, segG]
    · have e : rest = [] := List.length_eq_zero_iff.1 (by omega)
      subst e
      have := h1 [] .nil
      rw [List.append_nil] at this
      exact ⟨_, ⟨3, _, frz_segsS _ 0 _ _, by rw [Tag.frz, leA_slice]⟩, out, rfl, this⟩

end Gv.Try
/- Contracts: all levels. -/
set_option linter.unusedVariables false
set_option linter.unusedSimpArgs false
set_option maxRecDepth 20000
set_option maxHeartbeats 4000000
namespace Gv.Try
open Go Gv Go.Proofs

def levsG (L : List (List Seg)) : List (List GVal) := L.map fun s => [.slice (segsG s) .none]
theorem levsG_length (L : List (List Seg)) : (levsG L).length = L.length := by simp [levsG]
theorem levsG_at (L : List (List Seg)) (i : Nat) (h : i < L.length) : (levsG L).getD i [] = [.slice (segsG (L.getD i [])) .none] := by simp [levsG, List.getD, h]
theorem levsG_append (a b : List (List Seg)) : levsG (a ++ b) = levsG a ++ levsG b := by simp [levsG]
theorem levsG_one (s : List Seg) : levsG [s] = [[.slice (segsG s) .none]] := rfl
theorem all_levsG (L : List (List Seg)) : (∀ x ∈ levsG L, x.length = 1) = True := by simp [levsG]
theorem frz_levs (O : List GObj) (n : Nat) (L : List (List Seg)) (t : Tag) : Gv.frz O (n + 5) (.slice (levsG L) t) = some (.slice (levsG L) t.frz) := by
  rw [Gv.frz, frzLL_same]
  intro x hx
  obtain ⟨s, _, rfl⟩ := List.mem_map.1 hx
  simp only [frzL, frz_segsS _ (n + 1), Tag.frz]
theorem joinI_par (l : List Seg) : (joinI l).par.length ≤ sumP l := by
  have := jall_len (l.getD 0 default).lo l l.length
  rw [List.take_of_length_le (Nat.le_refl _)] at this
  exact this
theorem UpOK.bound {size : Int} {l u : List Seg} (h : UpOK size l u) : u.length ≤ l.length ∧ sumP u ≤ sumP l := by
  induction h with
  | nil => simp
  | cons l u n h1 h2 h3 ih =>
    obtain ⟨a, b, c, d⟩ := h1
    have e := sumP_app (l.take n) (l.drop n)
    rw [List.take_append_drop] at e
    have := joinI_par (l.take n)
    simp only [List.length_cons, sumP]
    rw [List.length_drop] at ih
    omega
/-- the levels over a list -/
def LevOK (size : Int) (l : List Seg) (L : List (List Seg)) : Prop :=
  1 ≤ L.length ∧ L.length ≤ 4 ∧ L.getD 0 [] = l ∧ (∀ i, i + 1 < L.length → UpOK size (L.getD i []) (L.getD (i + 1) []) ∧ (L.getD (i + 1) []).length < (L.getD i []).length) ∧ ∀ i, (L.getD i []).length ≤ 1000 ∧ sumP (L.getD i []) ≤ 100000
theorem LevOK.more {size : Int} {l : List Seg} {L : List (List Seg)} (h : LevOK size l L) {u : List Seg} (hl : L.length < 4) (hu : UpOK size (L.getD (L.length - 1) []) u) (hlt : u.length < (L.getD (L.length - 1) []).length) : LevOK size l (L ++ [u]) := by
  obtain ⟨h1, h2, h3, h4, h5⟩ := h
  have hb := hu.bound
  have at_ : ∀ i, (L ++ [u]).getD i [] = if i < L.length then L.getD i [] else if i = L.length then u else [] := by
    intro i
    split
    · rename_i h; rw [List.getD_eq_getElem?_getD, List.getD_eq_getElem?_getD, List.getElem?_append_left h]
    · split
      · rename_i h; subst h; simp [List.getD]
      · rw [List.getD_eq_getElem?_getD, List.getElem?_eq_none (by simp; omega)]; rfl
  refine ⟨by simp, by simp; omega, by rw [at_, if_pos (by omega)]; exact h3, fun i hi => ?_, fun i => ?_⟩
  · simp at hi
    rw [at_, at_, if_pos (by omega)]
    by_cases e : i + 1 < L.length
    · rw [if_pos e]; exact h4 i e
    · have : i = L.length - 1 := by omega
      rw [if_neg e, if_pos (by omega), this]
      exact ⟨hu, hlt⟩
  · rw [at_]
    split
    · exact h5 i
    · split
      · have := h5 (L.length - 1); omega
      · simp [sumP]

theorem rel21 (l : List Seg) (size : Int) (hl : l.length ≤ 1000) (hp : sumP l ≤ 100000) (hs : 2 ≤ size) : GRel Try.prog 21 [.slice (segsG l) .none, .int .i64 size] (fun g => ∃ L, g = .slice (levsG L) .none ∧ LevOK size l L) := by
  refine h21.rel mixS (by simp) ?_
  simp only [gstart, s21, List.cons_append, List.nil_append, List.length_cons, List.length_nil, Nat.reduceAdd, Nat.reduceSub, List.replicate_succ, List.replicate_zero]
  simp +contextual -implicitDefEqProofs (maxSteps := 2000000) (disch := omega) only [↓lenV, binV, optV, ↓loadV, ↓indexAddrV, ↓buildSliceV, ↓sliceV, ↓appendV, ↓srcV, bound, cutTag, hiTag, fillE, GVal.cells, grp, GVal.ofConst, ↓resV, resG, List.map, List.headD, List.take, List.drop, ↓reduceIte, Nat.reduceEqDiff, Nat.reduceAdd, Nat.reduceSub, Nat.reduceLeDiff, reduceCtorEq, implies_true, ne_eq, ↓asrcV, Tag.cap, List.replicate, allSolid, GVal.solid, Nat.reduceBEq, Nat.reduceMul, Nat.reduceLT, List.length_map, List.length_range, splice, vcA, ↓vcB, vcC, fbA, e21]
  refine (spec44 l (by omega) (fun i => by have := sumP_at l i; omega)).then ?_
  simp +contextual -implicitDefEqProofs (maxSteps := 2000000) (disch := omega) only [↓lenV, binV, optV, ↓loadV, ↓indexAddrV, ↓buildSliceV, ↓sliceV, ↓appendV, ↓srcV, bound, cutTag, hiTag, fillE, GVal.cells, grp, GVal.ofConst, ↓resV, resG, List.map, List.headD, List.take, List.drop, ↓reduceIte, Nat.reduceEqDiff, Nat.reduceAdd, Nat.reduceSub, Nat.reduceLeDiff, reduceCtorEq, implies_true, ne_eq, ↓asrcV, Tag.cap, List.replicate, allSolid, GVal.solid, Nat.reduceBEq, Nat.reduceMul, Nat.reduceLT, List.length_map, List.length_range, splice, vcA, ↓vcB, vcC, fbA, e21]
  refine vcSLoop_by (ι := { p : List (List Seg) × Nat // LevOK size l p.1 }) (fun p => ⟨[.any, .int .i64 size, .any, .any, .any, .slice (levsG p.1.1) (.tok 0 p.1.2)] ++ List.replicate 31 .any, [.tok p.1.2 1]⟩) (fun p => 4 - p.1.1.length) ?_ ?_
  · refine Into.tok 5 1 [[.slice (segsG l) .none]] rfl rfl ?_
    simp +contextual -implicitDefEqProofs (maxSteps := 2000000) (disch := omega) only [↓lenV, binV, optV, ↓loadV, ↓indexAddrV, ↓buildSliceV, ↓sliceV, ↓appendV, ↓srcV, bound, cutTag, hiTag, fillE, GVal.cells, grp, GVal.ofConst, ↓resV, resG, List.map, List.headD, List.take, List.drop, ↓reduceIte, Nat.reduceEqDiff, Nat.reduceAdd, Nat.reduceSub, Nat.reduceLeDiff, reduceCtorEq, implies_true, ne_eq, ↓asrcV, Tag.cap, List.replicate, allSolid, GVal.solid, Nat.reduceBEq, Nat.reduceMul, Nat.reduceLT, List.length_map, List.length_range, splice, vcA, ↓vcB, vcC, fbA, e21]
    intro t
    exact Into.first ⟨([l], t), by simp, by simp, rfl, fun i hi => by simp at hi, fun i => by
      cases i with
      | zero => exact ⟨hl, hp⟩
      | succ i => simp [List.getD, sumP]⟩ ⟨[], by simp⟩ (by simp [WL, leG_self, leG_any, levsG_one])
  · rintro ⟨⟨L, v⟩, hL⟩
    change LevOK size l L at hL
    have hL' := hL
    obtain ⟨h1, h2, h3, h4, h5⟩ := hL'
    have out : ∃ r, frzTo r (.slice (levsG L) (.tok 0 v)) [.tok v 1] ∧ ∃ L, r = .slice (levsG L) .none ∧ LevOK size l L := ⟨_, ⟨5, _, frz_levs _ 0 _ _, by rw [Tag.frz, leA_slice]⟩, L, rfl, hL⟩
    simp +contextual -implicitDefEqProofs (maxSteps := 2000000) (disch := omega) only [↓lenV, binV, optV, ↓loadV, ↓indexAddrV, ↓buildSliceV, ↓sliceV, ↓appendV, ↓srcV, bound, cutTag, hiTag, fillE, GVal.cells, grp, GVal.ofConst, ↓resV, resG, List.map, List.headD, List.take, List.drop, ↓reduceIte, Nat.reduceEqDiff, Nat.reduceAdd, Nat.reduceSub, Nat.reduceLeDiff, reduceCtorEq, implies_true, ne_eq, ↓asrcV, Tag.cap, List.replicate, allSolid, GVal.solid, Nat.reduceBEq, Nat.reduceMul, Nat.reduceLT, List.length_map, List.length_range, splice, vcA, ↓vcB, vcC, fbA, e21, levsG_length, levsG_at, toNat_pred]
    refine ⟨fun _ => ⟨fun h6 => ⟨by omega, by omega, ?_⟩, fun _ => out⟩, fun h => absurd hs (by omega)⟩
    have hb := h5 (L.length - 1)
    refine (rel20 (L.getD (L.length - 1) []) size hb.1 hb.2 hs).then ?_
    rintro g ⟨u, rfl, hu⟩
    simp +contextual -implicitDefEqProofs (maxSteps := 2000000) (disch := omega) only [↓lenV, binV, optV, ↓loadV, ↓indexAddrV, ↓buildSliceV, ↓sliceV, ↓appendV, ↓srcV, bound, cutTag, hiTag, fillE, GVal.cells, grp, GVal.ofConst, ↓resV, resG, List.map, List.headD, List.take, List.drop, ↓reduceIte, Nat.reduceEqDiff, Nat.reduceAdd, Nat.reduceSub, Nat.reduceLeDiff, reduceCtorEq, implies_true, ne_eq, ↓asrcV, Tag.cap, List.replicate, allSolid, GVal.solid, Nat.reduceBEq, Nat.reduceMul, Nat.reduceLT, List.length_map, List.length_range, splice, vcA, ↓vcB, vcC, fbA, e21, segsG_length, all_levsG, levsG_length]
    refine ⟨fun h7 => out, fun h7 => ⟨by omega, by omega, fun w => ?_⟩⟩
    exact Into.at ⟨(L ++ [u], w), hL.more (by omega) hu (by omega)⟩ (by show 4 - (L ++ [u]).length < 4 - L.length; rw [List.length_append]; simp; omega) ⟨[], by simp⟩ (by simp [WL, leG_self, leG_any, leG_int, levsG_append, levsG_one])

end Gv.Try
/- Contracts: all that some IDs stand on. -/
set_option linter.unusedVariables false
set_option linter.unusedSimpArgs false
set_option maxRecDepth 20000
set_option maxHeartbeats 4000000
namespace Gv.Try
open Go Gv Go.Proofs

theorem nodup_len : ∀ (l A : List Int), l.Nodup → (∀ x ∈ l, x ∈ A) → l.length ≤ A.length
  | [], A, _, _ => by simp
  | a :: r, A, hn, h => by
    rw [List.nodup_cons] at hn
    have ha := h a (by simp)
    have := nodup_len r (A.erase a) hn.2 fun x hx => (List.mem_erase_of_ne (fun e => hn.1 (by rw [← e]; exact hx))).2 (h x (by simp [hx]))
    rw [List.length_erase_of_mem ha] at this
    have h2 : 0 < A.length := List.length_pos_of_mem ha
    simp only [List.length_cons]; omega

/-- on the way: what is out, what is still to do -/
structure UpInv (m o : List (List Int)) (ids out todo : List Int) : Prop where
  nodup : out.Nodup
  has : ∀ x ∈ out, hasI m.length o.length x = true
  start : ∀ x ∈ ids, hasI m.length o.length x = true → x ∈ out ∨ x ∈ todo
  step : ∀ x ∈ out, ∀ p ∈ parI m o x, hasI m.length o.length p = true → p ∈ out ∨ p ∈ todo
  least : ∀ S : Int → Prop, (∀ x ∈ ids, S x) → (∀ x, S x → ∀ p ∈ parI m o x, S p) → ∀ x, x ∈ out ∨ x ∈ todo → S x
  len : todo.length ≤ ids.length + 4 * out.length
theorem UpInv.out_len {m o : List (List Int)} {ids out todo : List Int} (h : UpInv m o ids out todo) : out.length ≤ m.length + o.length := by
  have := nodup_len out (allI m.length o.length) h.nodup fun x hx => (allI_hasI _ _ _).2 (h.has x hx)
  rwa [allI_len] at this
theorem UpInv.skip {m o : List (List Int)} {ids out t : List Int} {x : Int} (h : UpInv m o ids out (t ++ [x])) (hx : hasI m.length o.length x = false ∨ x ∈ out) : UpInv m o ids out t := by
  have key : ∀ y, hasI m.length o.length y = true → y ∈ out ∨ y ∈ t ++ [x] → y ∈ out ∨ y ∈ t := fun y hy hh => by
    rcases hh with hh | hh
    · exact .inl hh
    · rcases List.mem_append.1 hh with hh | hh
      · exact .inr hh
      · simp at hh; subst hh
        rcases hx with hx | hx
        · rw [hy] at hx; cases hx
        · exact .inl hx
  refine ⟨h.nodup, h.has, fun y hy hh => key y hh (h.start y hy hh), fun y hy p hp hh => key p hh (h.step y hy p hp hh), fun S h1 h2 y hy => h.least S h1 h2 y (hy.imp id fun hy => by simp [hy]), ?_⟩
  have := h.len; simp at this; omega
theorem UpInv.go {m o : List (List Int)} {ids out t : List Int} {x : Int} (h : UpInv m o ids out (t ++ [x])) (hx : hasI m.length o.length x = true) (hn : x ∉ out) (hp : (parI m o x).length ≤ 4) : UpInv m o ids (out ++ [x]) (t ++ parI m o x) := by
  have key : ∀ y, y ∈ out ∨ y ∈ t ++ [x] → y ∈ out ++ [x] ∨ y ∈ t ++ parI m o x := fun y hh => by
    rcases hh with hh | hh
    · exact .inl (by simp [hh])
    · rcases List.mem_append.1 hh with hh | hh
      · exact .inr (by simp [hh])
      · simp at hh; exact .inl (by simp [hh])
  refine ⟨?_, fun y hy => ?_, fun y hy hh => key y (h.start y hy hh), fun y hy p hp hh => ?_, fun S h1 h2 y hy => ?_, ?_⟩
  · rw [List.nodup_append]
    exact ⟨h.nodup, by simp, fun a ha b hb => by simp at hb; subst hb; exact fun e => hn (by rw [← e]; exact ha)⟩
  · rcases List.mem_append.1 hy with hy | hy
    · exact h.has y hy
    · simp at hy; rw [hy]; exact hx
  · rcases List.mem_append.1 hy with hy | hy
    · exact key p (h.step y hy p hp hh)
    · simp at hy; subst hy; exact .inr (List.mem_append_right _ (by assumption))
  · have hSx : S x := h.least S h1 h2 x (.inr (by simp))
    rcases hy with hy | hy
    · rcases List.mem_append.1 hy with hy | hy
      · exact h.least S h1 h2 y (.inl hy)
      · simp at hy; rw [hy]; exact hSx
    · rcases List.mem_append.1 hy with hy | hy
      · exact h.least S h1 h2 y (.inr (by simp [hy]))
      · exact h2 x hSx y hy
  · have := h.len; simp at this ⊢; omega
/-- all that some IDs stand on, and they -/
def UpSet (m o : List (List Int)) (ids l : List Int) : Prop := UpInv m o ids l []

def upMu (N : Nat) (out todo : List Int) : Nat := 5 * (N - out.length) + todo.length

theorem rel48 (m o : List (List Int)) (tm to ti : Tag) (ids : List Int) (hm : m.length ≤ 1000) (ho : o.length ≤ 1000) (hi : ids.length ≤ 100000) (hr : ∀ x, (parI m o x).length ≤ 4) :
    GRel Try.prog 48 [.agg [.slice (tabG m) tm, .slice (tabG o) to], .slice (ints ids) ti] (fun g => ∃ l, g = .slice (ints l) .none ∧ UpSet m o ids l) := by
  refine h48.rel mixS (by simp) ?_
  simp only [gstart, s48, List.cons_append, List.nil_append, List.length_cons, List.length_nil, Nat.reduceAdd, Nat.reduceSub, List.replicate_succ, List.replicate_zero]
  simp +contextual -implicitDefEqProofs (maxSteps := 2000000) (disch := omega) only [↓lenV, binV, ↓unV, optV, ↓loadV, ↓indexAddrV, ↓boxV, ↓buildSliceV, ↓sliceV, ↓appendV, ↓srcV, bound, cutTag, hiTag, fillE, GVal.cells, grp, GVal.ofConst, ↓resV, resG, List.map, List.headD, List.take, List.drop, ↓reduceIte, Nat.reduceEqDiff, Nat.reduceAdd, Nat.reduceSub, Nat.reduceLeDiff, reduceCtorEq, implies_true, ne_eq, ↓asrcV, Tag.cap, List.replicate, allSolid, GVal.solid, Nat.reduceBEq, Nat.reduceMul, Nat.reduceLT, List.length_map, List.length_range, splice, vcA, ↓vcB, vcC, fbA, e48]
  refine ⟨by omega, by omega, fun a => ?_⟩
  refine vcSLoop_by (ι := { p : List Int × List Int × Nat // UpInv m o ids p.1 p.2.1 }) (fun p => ⟨[.any, .any, .ref [.slice (tabG m) tm, .slice (tabG o) to], .any, .any, .slice (ints p.1.1) (.tok 1 p.1.2.2), .slice (ints p.1.2.1) .none] ++ List.replicate 43 .any, [.tok a 1, .tok p.1.2.2 1]⟩) (fun p => upMu (m.length + o.length) p.1.1 p.1.2.1) ?_ ?_
  · refine Into.tok 5 1 [] rfl rfl ?_
    simp +contextual -implicitDefEqProofs (maxSteps := 2000000) (disch := omega) only [↓lenV, binV, ↓unV, optV, ↓loadV, ↓indexAddrV, ↓boxV, ↓buildSliceV, ↓sliceV, ↓appendV, ↓srcV, bound, cutTag, hiTag, fillE, GVal.cells, grp, GVal.ofConst, ↓resV, resG, List.map, List.headD, List.take, List.drop, ↓reduceIte, Nat.reduceEqDiff, Nat.reduceAdd, Nat.reduceSub, Nat.reduceLeDiff, reduceCtorEq, implies_true, ne_eq, ↓asrcV, Tag.cap, List.replicate, allSolid, GVal.solid, Nat.reduceBEq, Nat.reduceMul, Nat.reduceLT, List.length_map, List.length_range, splice, vcA, ↓vcB, vcC, fbA, e48]
    intro t
    exact Into.first ⟨([], ids, t), by simp, by simp, fun x hx _ => .inr hx, by simp, fun S h1 h2 x hx => h1 x (by simpa using hx), by simp⟩ ⟨[], by simp⟩ (by simp [WL, leG_self, leG_any, ints_nil, leG_none])
  · rintro ⟨⟨out, todo, v⟩, inv⟩
    change UpInv m o ids out todo at inv
    have hol := inv.out_len
    have htl := inv.len
    have fin : todo = [] → ∃ r, frzTo r (.slice (ints out) (.tok 1 v)) [.tok a 1, .tok v 1] ∧ ∃ l, r = .slice (ints l) .none ∧ UpSet m o ids l := fun e => by
      subst e
      exact ⟨_, ⟨2, _, frz_intsS _ 0 _ _, by rw [Tag.frz, leA_slice]⟩, out, rfl, inv⟩
    simp +contextual -implicitDefEqProofs (maxSteps := 2000000) (disch := omega) only [↓lenV, binV, ↓unV, optV, ↓loadV, ↓indexAddrV, ↓boxV, ↓buildSliceV, ↓sliceV, ↓appendV, ↓srcV, bound, cutTag, hiTag, fillE, GVal.cells, grp, GVal.ofConst, ↓resV, resG, List.map, List.headD, List.take, List.drop, ↓reduceIte, Nat.reduceEqDiff, Nat.reduceAdd, Nat.reduceSub, Nat.reduceLeDiff, reduceCtorEq, implies_true, ne_eq, ↓asrcV, Tag.cap, List.replicate, allSolid, GVal.solid, Nat.reduceBEq, Nat.reduceMul, Nat.reduceLT, List.length_map, List.length_range, splice, vcA, ↓vcB, vcC, fbA, e48, toNat_pred, ints_take, Int.toNat_zero]
    refine ⟨fun h => ⟨by omega, by omega, by omega, by omega, by omega, ?_⟩, fun h => fin (List.length_eq_zero_iff.1 (by omega))⟩
    have hlast : todo = todo.take (todo.length - 1) ++ [todo.getD (todo.length - 1) 0] := by
      have h1 : todo.length - 1 < todo.length := by omega
      have := List.take_add_one (l := todo) (i := todo.length - 1)
      rw [List.take_of_length_le (by omega), List.getElem?_eq_getElem h1] at this
      simpa [List.getD, h1] using this
    have hl2 : (todo.take (todo.length - 1)).length = todo.length - 1 := by rw [List.length_take]; omega
    generalize todo.getD (todo.length - 1) 0 = x at *
    generalize todo.take (todo.length - 1) = t at *
    rw [hlast] at inv
    have c16 := spec16 m o tm to x hm ho
    have hp := hr x
    cases hh : hasI m.length o.length x
    · rw [hh] at c16
      refine c16.then ?_
      simp +contextual -implicitDefEqProofs (maxSteps := 2000000) (disch := omega) only [↓lenV, binV, ↓unV, optV, ↓loadV, ↓indexAddrV, ↓boxV, ↓buildSliceV, ↓sliceV, ↓appendV, ↓srcV, bound, cutTag, hiTag, fillE, GVal.cells, grp, GVal.ofConst, ↓resV, resG, List.map, List.headD, List.take, List.drop, ↓reduceIte, Nat.reduceEqDiff, Nat.reduceAdd, Nat.reduceSub, Nat.reduceLeDiff, reduceCtorEq, implies_true, ne_eq, ↓asrcV, Tag.cap, List.replicate, allSolid, GVal.solid, Nat.reduceBEq, Nat.reduceMul, Nat.reduceLT, List.length_map, List.length_range, splice, vcA, ↓vcB, vcC, fbA, e48]
      exact Into.at ⟨(out, t, v), inv.skip (.inl hh)⟩ (by show upMu _ out t < upMu _ out todo; unfold upMu; omega) ⟨[], by simp⟩ (by simp [WL, leG_self, leG_any])
    · rw [hh] at c16
      refine c16.then ?_
      simp +contextual -implicitDefEqProofs (maxSteps := 2000000) (disch := omega) only [↓lenV, binV, ↓unV, optV, ↓loadV, ↓indexAddrV, ↓boxV, ↓buildSliceV, ↓sliceV, ↓appendV, ↓srcV, bound, cutTag, hiTag, fillE, GVal.cells, grp, GVal.ofConst, ↓resV, resG, List.map, List.headD, List.take, List.drop, ↓reduceIte, Nat.reduceEqDiff, Nat.reduceAdd, Nat.reduceSub, Nat.reduceLeDiff, reduceCtorEq, implies_true, ne_eq, ↓asrcV, Tag.cap, List.replicate, allSolid, GVal.solid, Nat.reduceBEq, Nat.reduceMul, Nat.reduceLT, List.length_map, List.length_range, splice, vcA, ↓vcB, vcC, fbA, e48]
      have c62 := spec62 out (.tok 1 v) x (by omega)
      by_cases hm2 : x ∈ out
      · rw [decide_eq_true hm2] at c62
        refine c62.then ?_
        simp +contextual -implicitDefEqProofs (maxSteps := 2000000) (disch := omega) only [↓lenV, binV, ↓unV, optV, ↓loadV, ↓indexAddrV, ↓boxV, ↓buildSliceV, ↓sliceV, ↓appendV, ↓srcV, bound, cutTag, hiTag, fillE, GVal.cells, grp, GVal.ofConst, ↓resV, resG, List.map, List.headD, List.take, List.drop, ↓reduceIte, Nat.reduceEqDiff, Nat.reduceAdd, Nat.reduceSub, Nat.reduceLeDiff, reduceCtorEq, implies_true, ne_eq, ↓asrcV, Tag.cap, List.replicate, allSolid, GVal.solid, Nat.reduceBEq, Nat.reduceMul, Nat.reduceLT, List.length_map, List.length_range, splice, vcA, ↓vcB, vcC, fbA, e48]
        exact Into.at ⟨(out, t, v), inv.skip (.inr hm2)⟩ (by show upMu _ out t < upMu _ out todo; unfold upMu; omega) ⟨[], by simp⟩ (by simp [WL, leG_self, leG_any])
      · rw [decide_eq_false hm2] at c62
        refine c62.then ?_
        have inv2 := inv.go hh hm2 hp
        have hol2 := inv2.out_len
        simp only [List.length_append, List.length_singleton] at hol2
        simp +contextual -implicitDefEqProofs (maxSteps := 2000000) (disch := omega) only [↓lenV, binV, ↓unV, optV, ↓loadV, ↓indexAddrV, ↓boxV, ↓buildSliceV, ↓sliceV, ↓appendV, ↓srcV, bound, cutTag, hiTag, fillE, GVal.cells, grp, GVal.ofConst, ↓resV, resG, List.map, List.headD, List.take, List.drop, ↓reduceIte, Nat.reduceEqDiff, Nat.reduceAdd, Nat.reduceSub, Nat.reduceLeDiff, reduceCtorEq, implies_true, ne_eq, ↓asrcV, Tag.cap, List.replicate, allSolid, GVal.solid, Nat.reduceBEq, Nat.reduceMul, Nat.reduceLT, List.length_map, List.length_range, splice, vcA, ↓vcB, vcC, fbA, e48]
        have ht : t.length + 1 = todo.length := by omega
        refine ⟨by omega, by omega, fun st1 => ⟨by omega, by omega, fun st2 => ⟨by omega, by omega, fun st3 => ?_⟩⟩⟩
        exact Into.at ⟨(out ++ [x], t ++ parI m o x, st1), inv2⟩ (by show upMu _ (out ++ [x]) (t ++ parI m o x) < upMu _ out todo; unfold upMu; simp only [List.length_append, List.length_singleton]; omega) ⟨[.tok st3 1], by simp⟩ (by simp [WL, leG_self, leG_any, ints_append, ints_one, leG_none])

end Gv.Try
/- Contracts: the document's segments. -/
set_option linter.unusedVariables false
set_option linter.unusedSimpArgs false
set_option maxRecDepth 20000
set_option maxHeartbeats 8000000
namespace Gv.Try
open Go Gv Go.Proofs

def spansOf (l : List Seg) : List (Int × Int) := l.map fun s => (s.lo, s.hi)
/-- an own group's span -/
def okP (p : Int × Int) : Prop := 0 ≤ p.1 ∧ p.1 ≤ p.2 ∧ p.2 ≤ split + 1000 ∧ (p.1 < split ↔ p.2 < split)
/-- segments one behind the other -/
def SegsOK (l : List Seg) : Prop := (∀ p ∈ spansOf l, okP p) ∧ (spansOf l).Pairwise (fun a b => a.2 < b.1)
theorem spansOf_set (l : List Seg) (i : Nat) (s : Seg) (h : s.lo = (l.getD i default).lo ∧ s.hi = (l.getD i default).hi) : spansOf (l.set i s) = spansOf l := by
  by_cases hi : i < l.length
  · apply List.ext_getElem (by simp [spansOf])
    intro j h1 h2
    simp only [spansOf, List.getElem_map, List.getElem_set]
    split
    · rename_i e; subst e; rw [h.1, h.2]; simp [List.getD, hi]
    · rfl
  · rw [List.set_eq_of_length_le (by omega)]
theorem sumP_set : ∀ (l : List Seg) (i : Nat) (s : Seg), s.par = (l.getD i default).par → sumP (l.set i s) = sumP l
  | [], i, s, h => rfl
  | a :: l, 0, s, h => by simp at h; simp [sumP, h]
  | a :: l, i + 1, s, h => by
    simp only [List.getD_cons_succ] at h
    simp [sumP, sumP_set l i s h]
theorem SegsOK_head (u : List Seg) (i : Nat) (b : Bool) (h : SegsOK u) : SegsOK (u.set i { u.getD i default with head := b }) := by
  have := spansOf_set u i { u.getD i default with head := b } ⟨rfl, rfl⟩
  unfold SegsOK
  rw [this]; exact h
theorem sumP_head (u : List Seg) (i : Nat) (b : Bool) : sumP (u.set i { u.getD i default with head := b }) = sumP u := sumP_set u i _ rfl
theorem SegsOK.snoc {l : List Seg} {s : Seg} (h : SegsOK l) (hs : okP (s.lo, s.hi)) (hl : ∀ x ∈ l, x.hi < s.lo) : SegsOK (l ++ [s]) := by
  obtain ⟨h1, h2⟩ := h
  refine ⟨fun p hp => ?_, ?_⟩
  · simp only [spansOf, List.map_append, List.map_cons, List.map_nil, List.mem_append, List.mem_singleton] at hp
    rcases hp with hp | rfl
    · exact h1 p hp
    · exact hs
  · simp only [spansOf, List.map_append, List.map_cons, List.map_nil, List.pairwise_append]
    refine ⟨h2, by simp, fun a ha b hb => ?_⟩
    simp at hb
    subst hb
    obtain ⟨x, hx, rfl⟩ := List.mem_map.1 ha
    exact hl x hx
theorem SegsOK.init {l : List Seg} {s : Seg} (h : SegsOK (l ++ [s])) : SegsOK l ∧ okP (s.lo, s.hi) ∧ ∀ x ∈ l, x.hi < s.lo := by
  obtain ⟨h1, h2⟩ := h
  simp only [spansOf, List.map_append, List.map_cons, List.map_nil, List.pairwise_append] at h1 h2
  refine ⟨⟨fun p hp => h1 p (by simp only [List.mem_append]; exact .inl hp), h2.1⟩, h1 _ (by simp), fun x hx => ?_⟩
  exact h2.2.2 (x.lo, x.hi) (List.mem_map.2 ⟨x, hx, rfl⟩) (s.lo, s.hi) (by simp)

/-- on the way: the segments of the first IDs -/
structure FlatInv (m o : List (List Int)) (k : Nat) (out : List Seg) : Prop where
  ok : SegsOK out
  mem : ∀ s ∈ out, ∃ j, j < k ∧ s.hi = (allI m.length o.length).getD j 0
  len : out.length ≤ k
  sum : sumP out ≤ 4 * k

theorem allI_at (m o k : Nat) (h : k < m + o) : (allI m o).getD k 0 = if k < m then (k : Int) else split + ((k - m : Nat) : Int) := by
  split
  · rename_i e; exact allI_getD1 m o k e
  · exact allI_getD2 m o k (by omega) h
theorem FlatInv.new {m o : List (List Int)} {k : Nat} {out : List Seg} (h : FlatInv m o k out) (hm : m.length + o.length ≤ 500) (hk : k < m.length + o.length) {p : List Int} (hp : p.length ≤ 4) {r b : Bool} :
    FlatInv m o (k + 1) (out ++ [⟨(allI m.length o.length).getD k 0, (allI m.length o.length).getD k 0, p, r, b⟩]) := by
  have hs : split = 1099511627776 := rfl
  have ek := allI_at m.length o.length k hk
  refine ⟨h.ok.snoc ?_ fun x hx => ?_, fun s hs => ?_, ?_, ?_⟩
  · show okP ((allI m.length o.length).getD k 0, (allI m.length o.length).getD k 0)
    unfold okP
    refine ⟨?_, ?_, ?_, Iff.rfl⟩ <;> simp only <;> split at ek <;> omega
  · obtain ⟨j, hj, e⟩ := h.mem x hx
    have ej := allI_at m.length o.length j (by omega)
    show x.hi < (allI m.length o.length).getD k 0
    split at ek <;> split at ej <;> omega
  · rcases List.mem_append.1 hs with hs | hs
    · obtain ⟨j, hj, e⟩ := h.mem s hs
      exact ⟨j, by omega, e⟩
    · simp at hs; subst hs; exact ⟨k, by omega, rfl⟩
  · have := h.len; simp; omega
  · have := h.sum; rw [sumP_app]; simp only [sumP]; omega
theorem FlatInv.more {m o : List (List Int)} {k : Nat} {out : List Seg} (h : FlatInv m o k out) (hm : m.length + o.length ≤ 500) (hk : k < m.length + o.length) (hne : out ≠ []) (he : (out.getD (out.length - 1) default).hi = (allI m.length o.length).getD k 0 - 1) :
    FlatInv m o (k + 1) (out.set (out.length - 1) { out.getD (out.length - 1) default with hi := (allI m.length o.length).getD k 0 }) := by
  have hs : split = 1099511627776 := rfl
  have ek := allI_at m.length o.length k hk
  obtain ⟨e1, e2⟩ := set_last out hne default { out.getD (out.length - 1) default with hi := (allI m.length o.length).getD k 0 }
  have hlast : out.getD (out.length - 1) default ∈ out := by
    have : out.length - 1 < out.length := by have := List.length_pos_iff.2 hne; omega
    rw [List.getD_eq_getElem?_getD, List.getElem?_eq_getElem this]; exact List.getElem_mem this
  obtain ⟨j, hj, ej⟩ := h.mem _ hlast
  have ej2 := allI_at m.length o.length j (by omega)
  have hsum := sumP_set out (out.length - 1) { out.getD (out.length - 1) default with hi := (allI m.length o.length).getD k 0 } rfl
  have hok := h.ok
  rw [e1] at hok
  obtain ⟨i1, i2, i3⟩ := hok.init
  refine ⟨?_, fun s hs => ?_, ?_, ?_⟩
  · rw [e2]
    refine i1.snoc ?_ i3
    show okP ((out.getD (out.length - 1) default).lo, (allI m.length o.length).getD k 0)
    unfold okP at i2 ⊢
    simp only at i2 ⊢
    split at ek <;> split at ej2 <;> omega
  · rw [e2] at hs
    rcases List.mem_append.1 hs with hs | hs
    · obtain ⟨j, hj, e⟩ := h.mem s (by rw [e1]; exact List.mem_append_left _ hs)
      exact ⟨j, by omega, e⟩
    · simp at hs; subst hs; exact ⟨k, by omega, rfl⟩
  · have := h.len; rw [List.length_set]; omega
  · have := h.sum; rw [hsum]; omega

theorem rel24 (m o : List (List Int)) (hm : m.length + o.length ≤ 500) (hr : ∀ x, (parI m o x).length ≤ 4) :
    GRel Try.prog 24 [.agg [.slice (tabG m) .none, .slice (tabG o) .none]] (fun g => ∃ u, g = .slice (segsG u) .none ∧ SegsOK u ∧ sumP u ≤ 2000 ∧ u.length ≤ 500) := by
  have hA : (allI m.length o.length).length = m.length + o.length := allI_len _ _
  refine h24.rel mixS (by simp) ?_
  simp only [gstart, s24, List.cons_append, List.nil_append, List.length_cons, List.length_nil, Nat.reduceAdd, Nat.reduceSub, List.replicate_succ, List.replicate_zero]
  simp +contextual -implicitDefEqProofs (maxSteps := 2000000) (disch := omega) only [drawC, ↓lenV, binV, optV, ↓loadV, ↓storeV, ↓fieldAddrV, ↓indexAddrV, ↓boxV, ↓buildV, ↓buildSliceV, ↓sliceV, ↓appendV, ↓srcV, bound, cutTag, hiTag, fillG, fillE, place, GVal.cells, grp, GVal.ofConst, ↓resV, resG, List.map, List.headD, List.take, List.drop, ↓reduceIte, Nat.reduceEqDiff, Nat.reduceAdd, Nat.reduceSub, Nat.reduceLeDiff, reduceCtorEq, implies_true, ne_eq, ↓asrcV, aggV, Tag.cap, List.replicate, allSolid, GVal.solid, Nat.reduceBEq, Nat.reduceMul, Nat.reduceLT, List.length_map, List.length_range, splice, vcA, ↓vcB, vcC, fbA, e24]
  refine (spec14 m o .none .none (by omega) (by omega)).then ?_
  simp +contextual -implicitDefEqProofs (maxSteps := 2000000) (disch := omega) only [drawC, ↓lenV, binV, optV, ↓loadV, ↓storeV, ↓fieldAddrV, ↓indexAddrV, ↓boxV, ↓buildV, ↓buildSliceV, ↓sliceV, ↓appendV, ↓srcV, bound, cutTag, hiTag, fillG, fillE, place, GVal.cells, grp, GVal.ofConst, ↓resV, resG, List.map, List.headD, List.take, List.drop, ↓reduceIte, Nat.reduceEqDiff, Nat.reduceAdd, Nat.reduceSub, Nat.reduceLeDiff, reduceCtorEq, implies_true, ne_eq, ↓asrcV, aggV, Tag.cap, List.replicate, allSolid, GVal.solid, Nat.reduceBEq, Nat.reduceMul, Nat.reduceLT, List.length_map, List.length_range, splice, vcA, ↓vcB, vcC, fbA, e24]
  refine vcSLoop_by (ι := { p : Nat × List Seg × Nat // p.1 ≤ m.length + o.length ∧ FlatInv m o p.1 p.2.1 }) (fun p => ⟨[.any, .ref [.slice (tabG m) .none, .slice (tabG o) .none], .any, .own 0 p.1.2.2 0 p.1.2.1.length, .slice (ints (allI m.length o.length)) .none, .int .i64 (p.1.1 : Nat)] ++ List.replicate 135 .any, [.row p.1.2.2 5 (segsG p.1.2.1)]⟩) (fun p => m.length + o.length - p.1.1) ?_ ?_
  · refine Into.row 3 5 rfl rfl ?_
    simp +contextual -implicitDefEqProofs (maxSteps := 2000000) (disch := omega) only [drawC, ↓lenV, binV, optV, ↓loadV, ↓storeV, ↓fieldAddrV, ↓indexAddrV, ↓boxV, ↓buildV, ↓buildSliceV, ↓sliceV, ↓appendV, ↓srcV, bound, cutTag, hiTag, fillG, fillE, place, GVal.cells, grp, GVal.ofConst, ↓resV, resG, List.map, List.headD, List.take, List.drop, ↓reduceIte, Nat.reduceEqDiff, Nat.reduceAdd, Nat.reduceSub, Nat.reduceLeDiff, reduceCtorEq, implies_true, ne_eq, ↓asrcV, aggV, Tag.cap, List.replicate, allSolid, GVal.solid, Nat.reduceBEq, Nat.reduceMul, Nat.reduceLT, List.length_map, List.length_range, splice, vcA, ↓vcB, vcC, fbA, e24]
    intro t
    exact Into.first ⟨(0, [], t), by omega, ⟨by simp [SegsOK, spansOf], by simp, by simp, by simp [sumP]⟩⟩ ⟨[], by simp [segsG]⟩ (by simp [WL, leG_self, leG_any])
  · rintro ⟨⟨k, out, v⟩, hk, inv⟩
    change k ≤ m.length + o.length at hk
    change FlatInv m o k out at inv
    have hol := inv.len
    simp +contextual -implicitDefEqProofs (maxSteps := 2000000) (disch := omega) only [drawC, ↓lenV, binV, optV, ↓loadV, ↓storeV, ↓fieldAddrV, ↓indexAddrV, ↓boxV, ↓buildV, ↓buildSliceV, ↓sliceV, ↓appendV, ↓srcV, bound, cutTag, hiTag, fillG, fillE, place, GVal.cells, grp, GVal.ofConst, ↓resV, resG, List.map, List.headD, List.take, List.drop, ↓reduceIte, Nat.reduceEqDiff, Nat.reduceAdd, Nat.reduceSub, Nat.reduceLeDiff, reduceCtorEq, implies_true, ne_eq, ↓asrcV, aggV, Tag.cap, List.replicate, allSolid, GVal.solid, Nat.reduceBEq, Nat.reduceMul, Nat.reduceLT, List.length_map, List.length_range, splice, vcA, ↓vcB, vcC, fbA, e24]
    refine ⟨fun h => ⟨by omega, ?_⟩, fun h => ?_⟩
    · have hkm : k < m.length + o.length := by omega
      have hpos : 0 < out.length → out ≠ [] := fun h e => by subst e; simp at h
      have hp4 := hr ((allI m.length o.length).getD k 0)
      have ek := allI_at m.length o.length k hkm
      have hs : split = 1099511627776 := rfl
      have hid : 0 ≤ (allI m.length o.length).getD k 0 ∧ (allI m.length o.length).getD k 0 ≤ split + 1000 := by split at ek <;> omega
      have more := fun a b => inv.more hm hkm a b
      have new := fun r b => inv.new (p := parI m o ((allI m.length o.length).getD k 0)) hm hkm hp4 (r := r) (b := b)
      refine (spec16 m o .none .none ((allI m.length o.length).getD k 0) (by omega) (by omega)).then ?_
      clear ek
      generalize hidq : (allI m.length o.length).getD k 0 = id at *
      generalize parI m o id = p at *
      simp +contextual -implicitDefEqProofs (maxSteps := 2000000) (disch := omega) only [drawC, ↓lenV, binV, optV, ↓loadV, ↓storeV, ↓fieldAddrV, ↓indexAddrV, ↓boxV, ↓buildV, ↓buildSliceV, ↓sliceV, ↓appendV, ↓srcV, bound, cutTag, hiTag, fillG, fillE, place, GVal.cells, grp, GVal.ofConst, ↓resV, resG, List.map, List.headD, List.take, List.drop, ↓reduceIte, Nat.reduceEqDiff, Nat.reduceAdd, Nat.reduceSub, Nat.reduceLeDiff, reduceCtorEq, implies_true, ne_eq, ↓asrcV, aggV, Tag.cap, List.replicate, allSolid, GVal.solid, Nat.reduceBEq, Nat.reduceMul, Nat.reduceLT, List.length_map, List.length_range, splice, vcA, ↓vcB, vcC, fbA, e24, segsG_length, segsG_at, segG, toNat_pred, Int.toNat_zero, all_segsG, cast_beq_zero, hidq]
      refine ⟨fun h1 => ⟨by omega, by omega, by omega, by omega, by omega, by omega, fun h2 => ⟨fun h3 => ⟨by omega, by omega, by omega, by omega, fun h4 => ?_, fun h4 => ?_⟩, fun h3 => ?_⟩, fun h2 => ?_⟩, fun h1 => ?_⟩
      · refine ⟨by omega, by omega, by omega, by omega, by omega, by omega, ?_⟩
        refine Into.at ⟨(k + 1, out.set (out.length - 1) { out.getD (out.length - 1) default with hi := id }, v), by show k + 1 ≤ _; omega, more (hpos (by omega)) h2⟩ (by show _ < _; simp; omega) ⟨[], ?_⟩ (by simp [WL, leG_self, leG_any, leG_int])
        simp only [List.append_nil, ← segsG_set]; rfl
      all_goals
        refine ⟨by omega, by omega, by omega, by omega, by omega, by omega, fun a => ⟨⟨[.tok a 1], rfl⟩, by omega, by omega, by omega, fun b => ?_⟩⟩
        rw [List.take_of_length_le (by rw [segsG_length]; omega)]
        refine Into.rowLast 0 (segsG out) _ (segG ⟨id, id, p, decide (p.length = 0), false⟩) rfl (fun x hx => by have := all_segsG out; simp only [eq_iff_iff, iff_true] at this; exact this x hx) rfl (by simp [WL, segG, leG_self, leG_none, leG_bool] <;> (intro e; subst e; simp at h3)) ?_
        refine Into.at ⟨(k + 1, out ++ [⟨id, id, p, decide (p.length = 0), false⟩], b), by show k + 1 ≤ _; omega, new _ _⟩ (by show _ < _; simp; omega) ⟨[.tok a 1], by simp [segsG_append, segsG_one]⟩ (by simp [WL, leG_self, leG_any, leG_int])
    · have hk2 : k = m.length + o.length := by omega
      have len0 : out.length ≤ 500 := by have := inv.len; omega
      have sum0 : sumP out ≤ 2000 := by have := inv.sum; omega
      have ok0 := inv.ok
      refine vcSLoop_by (ι := { p : Nat × List Seg // p.1 ≤ out.length ∧ p.2.length = out.length ∧ SegsOK p.2 ∧ sumP p.2 ≤ 2000 }) (fun p => ⟨[.any, .ref [.slice (tabG m) .none, .slice (tabG o) .none], .any, .own 0 v 0 out.length, .any, .any, .any, .any, .any, .int .i64 (p.1.1 : Nat)] ++ List.replicate 131 .any, [.row v 5 (segsG p.1.2)]⟩) (fun p => out.length - p.1.1) ?_ ?_
      · exact Into.first ⟨(0, out), by omega, rfl, ok0, sum0⟩ ⟨[], by simp⟩ (by simp [WL, leG_self, leG_any])
      · rintro ⟨⟨i, u⟩, hi, hu, ok1, sum1⟩
        change i ≤ out.length at hi
        change u.length = out.length at hu
        change SegsOK u at ok1
        change sumP u ≤ 2000 at sum1
        have hok := ok1.1
        simp +contextual -implicitDefEqProofs (maxSteps := 2000000) (disch := omega) only [drawC, ↓lenV, binV, optV, ↓loadV, ↓storeV, ↓fieldAddrV, ↓indexAddrV, ↓boxV, ↓buildV, ↓buildSliceV, ↓sliceV, ↓appendV, ↓srcV, bound, cutTag, hiTag, fillG, fillE, place, GVal.cells, grp, GVal.ofConst, ↓resV, resG, List.map, List.headD, List.take, List.drop, ↓reduceIte, Nat.reduceEqDiff, Nat.reduceAdd, Nat.reduceSub, Nat.reduceLeDiff, reduceCtorEq, implies_true, ne_eq, ↓asrcV, aggV, Tag.cap, List.replicate, allSolid, GVal.solid, Nat.reduceBEq, Nat.reduceMul, Nat.reduceLT, List.length_map, List.length_range, splice, vcA, ↓vcB, vcC, fbA, e24, segsG_length, segsG_at, segG, ints_one]
        refine ⟨fun h1 => ⟨by omega, by omega, by omega, fun h2 => ⟨by omega, by omega, by omega, ?_⟩, fun h2 => ⟨by omega, by omega, by omega, ?_⟩⟩, fun h1 => ?_⟩
        · skip
          refine (rel48 m o .none .none .full [(u.getD i default).hi] (by omega) (by omega) (by simp) hr).then ?_
          rintro g ⟨l, rfl, hl⟩
          have hll := hl.out_len
          simp +contextual -implicitDefEqProofs (maxSteps := 2000000) (disch := omega) only [drawC, ↓lenV, binV, optV, ↓loadV, ↓storeV, ↓fieldAddrV, ↓indexAddrV, ↓boxV, ↓buildV, ↓buildSliceV, ↓sliceV, ↓appendV, ↓srcV, bound, cutTag, hiTag, fillG, fillE, place, GVal.cells, grp, GVal.ofConst, ↓resV, resG, List.map, List.headD, List.take, List.drop, ↓reduceIte, Nat.reduceEqDiff, Nat.reduceAdd, Nat.reduceSub, Nat.reduceLeDiff, reduceCtorEq, implies_true, ne_eq, ↓asrcV, aggV, Tag.cap, List.replicate, allSolid, GVal.solid, Nat.reduceBEq, Nat.reduceMul, Nat.reduceLT, List.length_map, List.length_range, splice, vcA, ↓vcB, vcC, fbA, e24]
          refine vcSLoop_by (ι := { q : Nat × Nat // q.1 ≤ l.length ∧ q.2 ≤ q.1 }) (fun q => ⟨[.any, .ref [.slice (tabG m) .none, .slice (tabG o) .none], .any, .own 0 v 0 out.length, .any, .any, .any, .any, .any, .int .i64 (i : Nat), .int .i64 1099511627776, .slice (ints l) .none, .int .i64 (q.1.2 : Nat), .int .i64 (q.1.1 : Nat)] ++ List.replicate 127 .any, [.row v 5 (segsG u)]⟩) (fun q => l.length - q.1.1) ?_ ?_
          · exact Into.first ⟨(0, 0), by omega, by omega⟩ ⟨[], by simp⟩ (by simp [WL, leG_self, leG_any])
          · rintro ⟨⟨j, n⟩, hj, hn⟩
            change j ≤ l.length at hj
            change n ≤ j at hn
            simp +contextual -implicitDefEqProofs (maxSteps := 2000000) (disch := omega) only [drawC, ↓lenV, binV, optV, ↓loadV, ↓storeV, ↓fieldAddrV, ↓indexAddrV, ↓boxV, ↓buildV, ↓buildSliceV, ↓sliceV, ↓appendV, ↓srcV, bound, cutTag, hiTag, fillG, fillE, place, GVal.cells, grp, GVal.ofConst, ↓resV, resG, List.map, List.headD, List.take, List.drop, ↓reduceIte, Nat.reduceEqDiff, Nat.reduceAdd, Nat.reduceSub, Nat.reduceLeDiff, reduceCtorEq, implies_true, ne_eq, ↓asrcV, aggV, Tag.cap, List.replicate, allSolid, GVal.solid, Nat.reduceBEq, Nat.reduceMul, Nat.reduceLT, List.length_map, List.length_range, splice, vcA, ↓vcB, vcC, fbA, e24, segsG_length, segsG_at, segG, ints_one]
            refine ⟨fun h3 => ⟨by omega, fun h4 => ?_, fun h4 => ?_⟩, fun h3 => ?_⟩
            · exact Into.at ⟨(j + 1, n + 1), by show j + 1 ≤ _; omega, by show n + 1 ≤ j + 1; omega⟩ (by show _ < _; simp; omega) ⟨[], by simp⟩ (by simp [WL, leG_self, leG_any, leG_int])
            · exact Into.at ⟨(j + 1, n), by show j + 1 ≤ _; omega, by show n ≤ j + 1; omega⟩ (by show _ < _; simp; omega) ⟨[], by simp⟩ (by simp [WL, leG_self, leG_any, leG_int])
            · refine ⟨by omega, by omega, by omega, by omega, by omega, by omega, by omega, by omega, ?_⟩
              refine Into.at ⟨(i + 1, u.set i { u.getD i default with head := ((n : Int) == norm .i64 (norm .i64 ((u.getD i default).hi - 1099511627776) + 1)) }), by show i + 1 ≤ _; omega, by show (u.set i _).length = _; rw [List.length_set]; exact hu, ?_, ?_⟩ (by show out.length - (i + 1) < out.length - i; omega) ⟨[], ?_⟩ (by simp [WL, leG_self, leG_any, leG_int])
              · show SegsOK (u.set i _)
                exact SegsOK_head u i _ ok1
              · show sumP (u.set i _) ≤ 2000
                exact Nat.le_trans (Nat.le_of_eq (sumP_head u i _)) sum1
              · simp only [List.append_nil, ← segsG_set]; rfl
        · skip
          refine (rel48 m o .none .none .full [(u.getD i default).hi] (by omega) (by omega) (by simp) hr).then ?_
          rintro g ⟨l, rfl, hl⟩
          have hll := hl.out_len
          simp +contextual -implicitDefEqProofs (maxSteps := 2000000) (disch := omega) only [drawC, ↓lenV, binV, optV, ↓loadV, ↓storeV, ↓fieldAddrV, ↓indexAddrV, ↓boxV, ↓buildV, ↓buildSliceV, ↓sliceV, ↓appendV, ↓srcV, bound, cutTag, hiTag, fillG, fillE, place, GVal.cells, grp, GVal.ofConst, ↓resV, resG, List.map, List.headD, List.take, List.drop, ↓reduceIte, Nat.reduceEqDiff, Nat.reduceAdd, Nat.reduceSub, Nat.reduceLeDiff, reduceCtorEq, implies_true, ne_eq, ↓asrcV, aggV, Tag.cap, List.replicate, allSolid, GVal.solid, Nat.reduceBEq, Nat.reduceMul, Nat.reduceLT, List.length_map, List.length_range, splice, vcA, ↓vcB, vcC, fbA, e24]
          refine vcSLoop_by (ι := { q : Nat × Nat // q.1 ≤ l.length ∧ q.2 ≤ q.1 }) (fun q => ⟨[.any, .ref [.slice (tabG m) .none, .slice (tabG o) .none], .any, .own 0 v 0 out.length, .any, .any, .any, .any, .any, .int .i64 (i : Nat), .int .i64 0, .slice (ints l) .none, .int .i64 (q.1.2 : Nat), .int .i64 (q.1.1 : Nat)] ++ List.replicate 127 .any, [.row v 5 (segsG u)]⟩) (fun q => l.length - q.1.1) ?_ ?_
          · exact Into.first ⟨(0, 0), by omega, by omega⟩ ⟨[], by simp⟩ (by simp [WL, leG_self, leG_any])
          · rintro ⟨⟨j, n⟩, hj, hn⟩
            change j ≤ l.length at hj
            change n ≤ j at hn
            simp +contextual -implicitDefEqProofs (maxSteps := 2000000) (disch := omega) only [drawC, ↓lenV, binV, optV, ↓loadV, ↓storeV, ↓fieldAddrV, ↓indexAddrV, ↓boxV, ↓buildV, ↓buildSliceV, ↓sliceV, ↓appendV, ↓srcV, bound, cutTag, hiTag, fillG, fillE, place, GVal.cells, grp, GVal.ofConst, ↓resV, resG, List.map, List.headD, List.take, List.drop, ↓reduceIte, Nat.reduceEqDiff, Nat.reduceAdd, Nat.reduceSub, Nat.reduceLeDiff, reduceCtorEq, implies_true, ne_eq, ↓asrcV, aggV, Tag.cap, List.replicate, allSolid, GVal.solid, Nat.reduceBEq, Nat.reduceMul, Nat.reduceLT, List.length_map, List.length_range, splice, vcA, ↓vcB, vcC, fbA, e24, segsG_length, segsG_at, segG, ints_one]
            refine ⟨fun h3 => ⟨by omega, fun h4 => ?_, fun h4 => ?_⟩, fun h3 => ?_⟩
            · exact Into.at ⟨(j + 1, n + 1), by show j + 1 ≤ _; omega, by show n + 1 ≤ j + 1; omega⟩ (by show _ < _; simp; omega) ⟨[], by simp⟩ (by simp [WL, leG_self, leG_any, leG_int])
            · exact Into.at ⟨(j + 1, n), by show j + 1 ≤ _; omega, by show n ≤ j + 1; omega⟩ (by show _ < _; simp; omega) ⟨[], by simp⟩ (by simp [WL, leG_self, leG_any, leG_int])
            · refine ⟨by omega, by omega, by omega, by omega, by omega, by omega, by omega, by omega, ?_⟩
              refine Into.at ⟨(i + 1, u.set i { u.getD i default with head := ((n : Int) == norm .i64 (norm .i64 ((u.getD i default).hi - 0) + 1)) }), by show i + 1 ≤ _; omega, by show (u.set i _).length = _; rw [List.length_set]; exact hu, ?_, ?_⟩ (by show out.length - (i + 1) < out.length - i; omega) ⟨[], ?_⟩ (by simp [WL, leG_self, leG_any, leG_int])
              · show SegsOK (u.set i _)
                exact SegsOK_head u i _ ok1
              · show sumP (u.set i _) ≤ 2000
                exact Nat.le_trans (Nat.le_of_eq (sumP_head u i _)) sum1
              · simp only [List.append_nil, ← segsG_set]; rfl
        · rw [← hu]
          exact ⟨_, ⟨4, _, frz_own rfl (segsG_length _).symm (frz_segs _ 1 _), by rw [leA_slice]⟩, u, rfl, ok1, sum1, by omega⟩

end Gv.Try
/- The plain law of levels. -/
set_option linter.unusedVariables false
set_option linter.unusedSimpArgs false
namespace Gv.Try
open Go Gv Go.Proofs

theorem okP_at {l : List Seg} (h : SegsOK l) {s : Seg} (hs : s ∈ l) : okP (s.lo, s.hi) := h.1 _ (List.mem_map.2 ⟨s, hs, rfl⟩)
theorem SegsOK.app {a b : List Seg} (h : SegsOK (a ++ b)) : SegsOK a ∧ SegsOK b ∧ ∀ x ∈ a, ∀ y ∈ b, x.hi < y.lo := by
  obtain ⟨h1, h2⟩ := h
  simp only [spansOf, List.map_append, List.pairwise_append, List.mem_append] at h1 h2
  refine ⟨⟨fun p hp => h1 p (.inl hp), h2.1⟩, ⟨fun p hp => h1 p (.inr hp), h2.2.1⟩, fun x hx y hy => ?_⟩
  exact h2.2.2 (x.lo, x.hi) (List.mem_map.2 ⟨x, hx, rfl⟩) (y.lo, y.hi) (List.mem_map.2 ⟨y, hy, rfl⟩)
theorem SegsOK.lt {l : List Seg} (h : SegsOK l) {i j : Nat} (hij : i < j) (hj : j < l.length) : (l.getD i default).hi < (l.getD j default).lo := by
  have h2 := h.2
  rw [List.pairwise_iff_getElem] at h2
  have := h2 i j (by simp [spansOf]; omega) (by simp [spansOf]; omega) hij
  simpa [spansOf, List.getD, hj, show i < l.length by omega] using this
theorem SegsOK.okAt {l : List Seg} (h : SegsOK l) {i : Nat} (hi : i < l.length) : okP ((l.getD i default).lo, (l.getD i default).hi) := by
  have : l.getD i default = l[i] := by simp [List.getD, hi]
  rw [this]; exact okP_at h (List.getElem_mem hi)

theorem join_ok {l : List Seg} {size : Int} {n : Nat} (h : SegsOK (l.take n)) (hr : runOK l size n) : okP ((joinI (l.take n)).lo, (joinI (l.take n)).hi) ∧ (joinI (l.take n)).lo = (l.getD 0 default).lo ∧ (joinI (l.take n)).hi = (l.getD (n - 1) default).hi ∧ (joinI (l.take n)).head = (l.getD (n - 1) default).head := by
  obtain ⟨a, b, c, d⟩ := hr
  have hlen : (l.take n).length = n := by rw [List.length_take]; omega
  have at_ : ∀ i, i < n → (l.take n).getD i default = l.getD i default := fun i hi => by
    simp only [List.getD_eq_getElem?_getD]; rw [List.getElem?_take_of_lt hi]
  have e0 := at_ 0 (by omega)
  have e1 := at_ (n - 1) (by omega)
  have k0 := h.okAt (i := 0) (by omega)
  have k1 := h.okAt (i := n - 1) (by omega)
  rw [e0] at k0; rw [e1] at k1
  have hg := d (n - 1) (by omega)
  have elo : (joinI (l.take n)).lo = (l.getD 0 default).lo := by show ((l.take n).getD 0 default).lo = _; rw [e0]
  have ehi : (joinI (l.take n)).hi = (l.getD (n - 1) default).hi := by show ((l.take n).getD ((l.take n).length - 1) default).hi = _; rw [hlen, e1]
  have ehd : (joinI (l.take n)).head = (l.getD (n - 1) default).head := by show ((l.take n).getD ((l.take n).length - 1) default).head = _; rw [hlen, e1]
  refine ⟨?_, elo, ehi, ehd⟩
  rw [elo, ehi]
  have hs : split = 1099511627776 := rfl
  unfold sameG at hg
  rw [beq_iff_eq, Bool.eq_iff_iff, decide_eq_true_iff, decide_eq_true_iff] at hg
  unfold okP at *
  simp only at *
  have hle : (l.getD 0 default).lo ≤ (l.getD (n - 1) default).hi := by
    by_cases e : n = 1
    · subst e; exact k0.2.1
    · have := h.lt (i := 0) (j := n - 1) (by omega) (by omega)
      rw [e0, e1] at this
      omega
  omega
theorem UpOK.segs {size : Int} {l u : List Seg} (h : UpOK size l u) : SegsOK l → SegsOK u ∧ ∀ b : Int, (∀ s ∈ l, b < s.lo) → ∀ s ∈ u, b < s.lo := by
  induction h with
  | nil => exact fun h => ⟨h, fun b hb => hb⟩
  | cons l u n h1 h2 h3 ih =>
    intro h
    have h' := h
    rw [← List.take_append_drop n l] at h'
    obtain ⟨ha, hb, hc⟩ := h'.app
    obtain ⟨i1, i2⟩ := ih hb
    obtain ⟨j1, j2, j3, _⟩ := join_ok ha h1
    obtain ⟨n1, n2, n3, n4⟩ := h1
    have mem : ∀ i, i < n → l.getD i default ∈ l.take n := fun i hi => by
      have hlt : i < (l.take n).length := by rw [List.length_take]; omega
      have : l.getD i default = (l.take n)[i] := by simp [List.getD, show i < l.length by omega]
      rw [this]; exact List.getElem_mem hlt
    have hu : ∀ x ∈ u, (joinI (l.take n)).hi < x.lo := i2 _ fun s hs => by rw [j3]; exact hc _ (mem (n - 1) (by omega)) s hs
    refine ⟨⟨fun p hp => ?_, ?_⟩, fun b hbb s hs => ?_⟩
    · simp only [spansOf, List.map_cons, List.mem_cons] at hp
      rcases hp with rfl | hp
      · exact j1
      · exact i1.1 p hp
    · simp only [spansOf, List.map_cons, List.pairwise_cons]
      refine ⟨fun p hp => ?_, i1.2⟩
      obtain ⟨x, hx, rfl⟩ := List.mem_map.1 hp
      exact hu x hx
    · rcases List.mem_cons.1 hs with rfl | hs
      · rw [j2]; exact hbb _ (List.mem_of_mem_take (mem 0 (by omega)))
      · exact i2 b (fun x hx => hbb x (List.mem_of_mem_drop hx)) s hs
/-- what one joined segment is made of -/
theorem UpOK.at_ {size : Int} {l u : List Seg} {j k : Nat} (hl : SegsOK l) (h : UpOK size (l.drop k) (u.drop j)) (hj : j < u.length) : ∃ n : Nat, 1 ≤ n ∧ (n : Int) ≤ size ∧ k + n ≤ l.length ∧ (u.getD j default).lo = (l.getD k default).lo ∧ (u.getD j default).hi = (l.getD (k + n - 1) default).hi ∧
    (u.getD j default).head = (l.getD (k + n - 1) default).head ∧ (u.getD j default).root = anyR ((l.drop k).take n) ∧ ((u.getD j default).lo < split ↔ (u.getD j default).hi < split) ∧ UpOK size (l.drop (k + n)) (u.drop (j + 1)) := by
  have eu : u.drop j = u.getD j default :: u.drop (j + 1) := by rw [List.drop_eq_getElem_cons hj]; simp [List.getD, hj]
  rw [eu] at h
  generalize hl2 : l.drop k = l2 at h
  generalize hu2 : u.getD j default :: u.drop (j + 1) = u2 at h
  cases h with
  | nil => cases hu2
  | cons _ u' n h1 h2 h3 =>
    have e1 : u.getD j default = joinI (l2.take n) := by injection hu2
    have e2 : u.drop (j + 1) = u' := by injection hu2
    have hs : SegsOK (l2.take n) := by
      have h' := hl
      rw [← List.take_append_drop k l] at h'
      have := h'.app.2.1
      rw [hl2, ← List.take_append_drop n l2] at this
      exact this.app.1
    obtain ⟨j1, j2, j3, j4⟩ := join_ok hs h1
    obtain ⟨n1, n2, n3, n4⟩ := h1
    have hlen : l2.length = l.length - k := by rw [← hl2, List.length_drop]
    have at2 : ∀ i, l2.getD i default = l.getD (k + i) default := fun i => by rw [← hl2]; simp [List.getD]
    have e3 : k + (n - 1) = k + n - 1 := by omega
    refine ⟨n, n1, n2, by omega, ?_, ?_, ?_, ?_, ?_, ?_⟩
    · rw [e1, j2, at2]; rfl
    · rw [e1, j3, at2, e3]
    · rw [e1, j4, at2, e3]
    · rw [e1]; rfl
    · rw [e1]; exact j1.2.2.2
    · rw [e2, ← List.drop_drop, hl2]; exact h3
theorem UpOK.end_ {size : Int} {l u : List Seg} {j k : Nat} (h : UpOK size (l.drop k) (u.drop j)) (hj : u.length ≤ j) (hk : k ≤ l.length) : k = l.length := by
  rw [List.drop_eq_nil_of_le hj] at h
  generalize hl2 : l.drop k = l2 at h
  cases h with
  | nil =>
    have := congrArg List.length hl2
    rw [List.length_drop] at this
    simp at this; omega
theorem LevOK.segs {size : Int} {l : List Seg} {L : List (List Seg)} (h : LevOK size l L) (hl : SegsOK l) : ∀ i, i < L.length → SegsOK (L.getD i [])
  | 0, _ => by rw [h.2.2.1]; exact hl
  | i + 1, hi => ((h.2.2.2.1 i hi).1.segs (LevOK.segs h hl i (by omega))).1

end Gv.Try
