/- Contracts: copies, runs, joined segments. -/
import Derived.Test.YthidcccnjplafaaP9
import Derived.Test.YthidcccnjplafaaP7
set_option linter.unusedVariables false
set_option linter.unusedSimpArgs false
set_option maxRecDepth 20000
set_option maxHeartbeats 4000000
namespace Gv.Try
open Go Gv Go.Proofs

theorem spec62 (l : List Int) (t : Tag) (x : Int) (hl : l.length ≤ 17592186044416) : GPure Try.prog 68 [.slice (ints l) t, .int .i64 x] (.bool (decide (x ∈ l))) := by
  refine h68.pure mixS (by simp) ?_
  simp only [gstart, s68, List.cons_append, List.nil_append, List.length_cons, List.length_nil, Nat.reduceAdd, Nat.reduceSub, List.replicate_succ, List.replicate_zero]
  simp +contextual -implicitDefEqProofs (maxSteps := 2000000) (disch := omega) only [↓lenV, binV, ↓loadV, ↓indexAddrV, GVal.cells, grp, GVal.ofConst, ↓resV, resG, List.map, List.headD, List.take, List.drop, ↓reduceIte, Nat.reduceEqDiff, Nat.reduceAdd, Nat.reduceSub, Nat.reduceLeDiff, reduceCtorEq, implies_true, ne_eq, aggV, Tag.cap, List.replicate, allSolid, GVal.solid, Nat.reduceBEq, Nat.reduceMul, Nat.reduceLT, List.length_map, List.length_range, splice, vcA, ↓vcB, vcC, fbFf, e68]
  refine vcSLoop_by (ι := { k : Nat // k ≤ l.length ∧ x ∉ l.take k }) (fun k => ⟨[.slice (ints l) t, .int .i64 x, .any, .any, .any, .int .i64 (k.1 : Nat)] ++ List.replicate 12 .any, []⟩) (fun k => l.length - k.1) ?_ ?_
  · exact Into.first ⟨0, by omega, by simp⟩ ⟨[], by simp⟩ (by simp [WL, leG_self, leG_any])
  · rintro ⟨k, hk, hx⟩
    simp +contextual -implicitDefEqProofs (maxSteps := 2000000) (disch := omega) only [↓lenV, binV, ↓loadV, ↓indexAddrV, GVal.cells, grp, GVal.ofConst, ↓resV, resG, List.map, List.headD, List.take, List.drop, ↓reduceIte, Nat.reduceEqDiff, Nat.reduceAdd, Nat.reduceSub, Nat.reduceLeDiff, reduceCtorEq, implies_true, ne_eq, aggV, Tag.cap, List.replicate, allSolid, GVal.solid, Nat.reduceBEq, Nat.reduceMul, Nat.reduceLT, List.length_map, List.length_range, splice, vcA, ↓vcB, vcC, fbFf, e68]
    refine ⟨fun h => ⟨by omega, fun h2 => ?_, fun h2 => ?_⟩, fun h => ?_⟩
    · have : x ∈ l := by rw [← h2]; exact getD_mem (by omega)
      simp [this]
    · refine Into.at ⟨k + 1, by omega, ?_⟩ (by show _ < _; simp; omega) ⟨[], by simp⟩ (by simp [WL, leG_self, leG_any, leG_int])
      rw [List.take_add_one, List.mem_append]
      intro h3
      rcases h3 with h3 | h3
      · exact hx h3
      · rw [List.getElem?_eq_getElem (by omega)] at h3
        simp [List.getD, List.getElem?_eq_getElem (by omega : k < l.length)] at h2 h3
        exact h2 h3.symm
    · rw [List.take_of_length_le (by omega)] at hx
      simp [hx]

theorem c59 (l : List Seg) (hl : l.length ≤ 1000000) : GCalls Try.prog 44 [.slice (segsG l) .none] [] (fun g O' => (∃ st, g = .own 0 st 0 l.length ∧ O' = [.row st 5 (segsG l)]) ∨ (l = [] ∧ g = .slice [] .nil ∧ O' = [])) := by
  refine h44.calls mixS (by simp) ?_
  simp only [gstart, s44, List.cons_append, List.nil_append, List.length_cons, List.length_nil, Nat.reduceAdd, Nat.reduceSub, List.replicate_succ, List.replicate_zero]
  simp +contextual -implicitDefEqProofs (maxSteps := 2000000) (disch := omega) only [binV, optV, ↓buildSliceV, ↓sliceV, ↓appendV, ↓srcV, bound, cutTag, hiTag, fillE, GVal.cells, grp, GVal.ofConst, ↓resV, resG, List.map, List.headD, List.take, List.drop, ↓reduceIte, Nat.reduceEqDiff, Nat.reduceAdd, Nat.reduceSub, Nat.reduceLeDiff, reduceCtorEq, implies_true, ne_eq, ↓asrcV, aggV, Tag.cap, List.replicate, allSolid, GVal.solid, Nat.reduceBEq, Nat.reduceMul, Nat.reduceLT, List.length_map, List.length_range, splice, vcA, ↓vcB, vcC, fbFf, e44, segsG_length, all_segsG]
  have hnil : segsG l = [] → l = [] := fun h => by cases l with
    | nil => rfl
    | cons a r => simp [segsG] at h
  refine ⟨fun h => ⟨.inr (hnil h), by simp, fun st => .inl ⟨st, by rw [hnil h]; exact ⟨rfl, rfl⟩⟩⟩, fun h => ⟨by omega, by omega, by simp, fun st => .inl ⟨st, rfl, rfl⟩⟩⟩

theorem segsG_set_self (l : List Seg) (k : Nat) (h : k < l.length) : (segsG l).set k (segG (l.getD k default)) = segsG l := by
  rw [segsG_set]; congr 1
  apply List.ext_getElem (by simp)
  intro i h1 h2
  rw [List.getElem_set]
  split
  · rename_i e; subst e; simp [List.getD, h]
  · rfl

theorem spec44 (l : List Seg) (hl : l.length ≤ 1000000) (hp : ∀ i, (l.getD i default).par.length ≤ 17592186044416) : GPure Try.prog 84 [.slice (segsG l) .none] (.slice (segsG l) .none) := by
  refine h84.pureF mixS (by simp) ?_
  simp only [gstart, s84, List.cons_append, List.nil_append, List.length_cons, List.length_nil, Nat.reduceAdd, Nat.reduceSub, List.replicate_succ, List.replicate_zero]
  simp +contextual -implicitDefEqProofs (maxSteps := 2000000) (disch := omega) only [↓lenV, binV, optV, ↓loadV, ↓storeV, ↓fieldAddrV, ↓indexAddrV, ↓sliceV, bound, cutTag, hiTag, GVal.cells, grp, GVal.ofConst, ↓resV, resG, List.map, List.headD, List.take, List.drop, ↓reduceIte, Nat.reduceEqDiff, Nat.reduceAdd, Nat.reduceSub, Nat.reduceLeDiff, reduceCtorEq, implies_true, ne_eq, Tag.cap, List.replicate, allSolid, GVal.solid, Nat.reduceBEq, Nat.reduceMul, Nat.reduceLT, List.length_map, List.length_range, splice, vcA, ↓vcB, vcC, fbFf, e84]
  refine (c59 l hl).mono ?_
  rintro g O' (⟨st, rfl, rfl⟩ | ⟨rfl, rfl, rfl⟩)
  · simp +contextual -implicitDefEqProofs (maxSteps := 2000000) (disch := omega) only [↓lenV, binV, optV, ↓loadV, ↓storeV, ↓fieldAddrV, ↓indexAddrV, ↓sliceV, bound, cutTag, hiTag, GVal.cells, grp, GVal.ofConst, ↓resV, resG, List.map, List.headD, List.take, List.drop, ↓reduceIte, Nat.reduceEqDiff, Nat.reduceAdd, Nat.reduceSub, Nat.reduceLeDiff, reduceCtorEq, implies_true, ne_eq, Tag.cap, List.replicate, allSolid, GVal.solid, Nat.reduceBEq, Nat.reduceMul, Nat.reduceLT, List.length_map, List.length_range, splice, vcA, ↓vcB, vcC, fbFf, e84, segsG_length]
    refine vcSLoop_by (ι := { k : Nat // k ≤ l.length }) (fun k => ⟨[.any, .any, .any, .own 0 st 0 l.length, .any, .any, .any, .any, .int .i64 l.length, .int .i64 (k.1 : Nat)] ++ List.replicate 14 .any, [.row st 5 (segsG l)]⟩) (fun k => l.length - k.1) ?_ ?_
    · exact Into.first ⟨0, by omega⟩ ⟨[], by simp⟩ (by simp [WL, leG_self, leG_any])
    · rintro ⟨k, hk⟩
      simp +contextual -implicitDefEqProofs (maxSteps := 2000000) (disch := omega) only [↓lenV, binV, optV, ↓loadV, ↓storeV, ↓fieldAddrV, ↓indexAddrV, ↓sliceV, bound, cutTag, hiTag, GVal.cells, grp, GVal.ofConst, ↓resV, resG, List.map, List.headD, List.take, List.drop, ↓reduceIte, Nat.reduceEqDiff, Nat.reduceAdd, Nat.reduceSub, Nat.reduceLeDiff, reduceCtorEq, implies_true, ne_eq, Tag.cap, List.replicate, allSolid, GVal.solid, Nat.reduceBEq, Nat.reduceMul, Nat.reduceLT, List.length_map, List.length_range, splice, vcA, ↓vcB, vcC, fbFf, e84, segsG_length, segsG_at, segG]
      refine ⟨fun h => ⟨by omega, by omega, by omega, (spec58 (l.getD k default).par .none (hp k) (by simp)).then ?_⟩, fun h => ?_⟩
      · simp +contextual -implicitDefEqProofs (maxSteps := 2000000) (disch := omega) only [↓lenV, binV, optV, ↓loadV, ↓storeV, ↓fieldAddrV, ↓indexAddrV, ↓sliceV, bound, cutTag, hiTag, GVal.cells, grp, GVal.ofConst, ↓resV, resG, List.map, List.headD, List.take, List.drop, ↓reduceIte, Nat.reduceEqDiff, Nat.reduceAdd, Nat.reduceSub, Nat.reduceLeDiff, reduceCtorEq, implies_true, ne_eq, Tag.cap, List.replicate, allSolid, GVal.solid, Nat.reduceBEq, Nat.reduceMul, Nat.reduceLT, List.length_map, List.length_range, splice, vcA, ↓vcB, vcC, fbFf, e84, segsG_length, segsG_at, segG]
        refine ⟨by omega, by omega, by omega, by omega, ?_⟩
        refine Into.at ⟨k + 1, by omega⟩ (by show _ < _; simp; omega) ⟨[], ?_⟩ (by simp [WL, leG_self, leG_any, leG_int])
        have := segsG_set_self l k (by omega)
        rw [segG] at this
        simp only [List.append_nil, this]
      · exact ⟨4, .slice (segsG l) .none, frz_own rfl (segsG_length _).symm (frz_segs _ 1 _), by rw [leA_slice]⟩
  · simp +contextual -implicitDefEqProofs (maxSteps := 2000000) (disch := omega) only [↓lenV, binV, optV, ↓loadV, ↓storeV, ↓fieldAddrV, ↓indexAddrV, ↓sliceV, bound, cutTag, hiTag, GVal.cells, grp, GVal.ofConst, ↓resV, resG, List.map, List.headD, List.take, List.drop, ↓reduceIte, Nat.reduceEqDiff, Nat.reduceAdd, Nat.reduceSub, Nat.reduceLeDiff, reduceCtorEq, implies_true, ne_eq, Tag.cap, List.replicate, allSolid, GVal.solid, Nat.reduceBEq, Nat.reduceMul, Nat.reduceLT, List.length_map, List.length_range, splice, vcA, ↓vcB, vcC, fbFf, e84]
    refine vcSLoop_by (ι := Unit) (fun _ => ⟨[.any, .any, .any, .slice [] .nil, .any, .any, .any, .any, .int .i64 0, .int .i64 0] ++ List.replicate 14 .any, []⟩) (fun _ => 0) ?_ ?_
    · exact Into.first () ⟨[], by simp⟩ (by simp [WL, leG_self, leG_any])
    · rintro ⟨⟩
      simp +contextual -implicitDefEqProofs (maxSteps := 2000000) (disch := omega) only [↓lenV, binV, optV, ↓loadV, ↓storeV, ↓fieldAddrV, ↓indexAddrV, ↓sliceV, bound, cutTag, hiTag, GVal.cells, grp, GVal.ofConst, ↓resV, resG, List.map, List.headD, List.take, List.drop, ↓reduceIte, Nat.reduceEqDiff, Nat.reduceAdd, Nat.reduceSub, Nat.reduceLeDiff, reduceCtorEq, implies_true, ne_eq, Tag.cap, List.replicate, allSolid, GVal.solid, Nat.reduceBEq, Nat.reduceMul, Nat.reduceLT, List.length_map, List.length_range, splice, vcA, ↓vcB, vcC, fbFf, e84]
      exact ⟨fun h => absurd h (by omega), fun _ => ⟨2, .slice [] .nil, rfl, by rw [leA_slice]; rfl⟩⟩

/-- one group -/
def sameG (a b : Seg) : Bool := decide (a.lo < 1099511627776) == decide (b.lo < 1099511627776)
/-- a run's length -/
def runOK (l : List Seg) (size : Int) (n : Nat) : Prop := 1 ≤ n ∧ (n : Int) ≤ size ∧ n ≤ l.length ∧ ∀ i, i < n → sameG (l.getD i default) (l.getD 0 default) = true

theorem rel42 (l : List Seg) (size : Int) (t : Tag) (hl : l.length ≤ 17592186044416) (h0 : l ≠ []) (hs : 2 ≤ size) : GRel Try.prog 96 [.slice (segsG l) t, .int .i64 size] (fun g => ∃ n, g = .int .i64 (n : Nat) ∧ runOK l size n) := by
  have hpos : 0 < l.length := List.length_pos_iff.2 h0
  refine h96.rel mixS (by simp) ?_
  simp only [gstart, s96, List.cons_append, List.nil_append, List.length_cons, List.length_nil, Nat.reduceAdd, Nat.reduceSub, List.replicate_succ, List.replicate_zero]
  simp +contextual -implicitDefEqProofs (maxSteps := 2000000) (disch := omega) only [drawC, ↓lenV, binV, ↓loadV, ↓fieldAddrV, ↓indexAddrV, ↓minV, GVal.cells, grp, GVal.ofConst, ↓resV, resG, List.map, List.headD, List.take, List.drop, ↓reduceIte, Nat.reduceEqDiff, Nat.reduceAdd, Nat.reduceSub, Nat.reduceLeDiff, reduceCtorEq, implies_true, ne_eq, aggV, Tag.cap, List.replicate, allSolid, GVal.solid, Nat.reduceBEq, Nat.reduceMul, Nat.reduceLT, List.length_map, List.length_range, splice, vcA, ↓vcB, vcC, fbFf, e96, segsG_length]
  refine vcSLoop_by (ι := { n : Nat // runOK l size n }) (fun n => ⟨[.slice (segsG l) t, .int .i64 size, .any, .any, .any, .int .i64 (n.1 : Nat)] ++ List.replicate 23 .any, []⟩) (fun n => l.length - n.1) ?_ ?_
  · exact Into.first ⟨1, by omega, by omega, by omega, fun i hi => by rw [show i = 0 by omega]; simp [sameG]⟩ ⟨[], by simp⟩ (by simp [WL, leG_self, leG_any])
  · rintro ⟨n, hn⟩
    have hn' := hn
    obtain ⟨n1, n2, n3, n4⟩ := hn
    have out : ∃ r, frzTo r (.int .i64 (n : Nat)) [] ∧ ∃ n, r = .int .i64 (n : Nat) ∧ runOK l size n := ⟨_, ⟨1, _, rfl, by rw [leA_int]; exact ⟨rfl, rfl⟩⟩, n, rfl, hn'⟩
    have more : (n : Int) < min (l.length : Int) size → sameG (l.getD n default) (l.getD 0 default) = true → runOK l size (n + 1) := fun h1 h2 => by
      refine ⟨by omega, by omega, by omega, fun i hi => ?_⟩
      by_cases e : i = n
      · rw [e]; exact h2
      · exact n4 i (by omega)
    simp +contextual -implicitDefEqProofs (maxSteps := 2000000) (disch := omega) only [drawC, ↓lenV, binV, ↓loadV, ↓fieldAddrV, ↓indexAddrV, ↓minV, GVal.cells, grp, GVal.ofConst, ↓resV, resG, List.map, List.headD, List.take, List.drop, ↓reduceIte, Nat.reduceEqDiff, Nat.reduceAdd, Nat.reduceSub, Nat.reduceLeDiff, reduceCtorEq, implies_true, ne_eq, aggV, Tag.cap, List.replicate, allSolid, GVal.solid, Nat.reduceBEq, Nat.reduceMul, Nat.reduceLT, List.length_map, List.length_range, splice, vcA, ↓vcB, vcC, fbFf, e96, segsG_length, segsG_at, segG, Int.toNat_zero]
    refine ⟨fun h1 => ⟨by omega, by omega, by omega, by omega, fun h2 => ⟨fun h3 => ?_, fun h3 => out⟩, fun h2 => ⟨fun h3 => out, fun h3 => ?_⟩⟩, fun h1 => out⟩
    · exact Into.at ⟨n + 1, more h1 (by unfold sameG; rw [decide_eq_true h2, decide_eq_true h3]; rfl)⟩ (by show _ < _; simp; omega) ⟨[], by simp⟩ (by simp [WL, leG_self, leG_any, leG_int])
    · exact Into.at ⟨n + 1, more h1 (by unfold sameG; rw [decide_eq_false (by omega), decide_eq_false (by omega)]; rfl)⟩ (by show _ < _; simp; omega) ⟨[], by simp⟩ (by simp [WL, leG_self, leG_any, leG_int])

end Gv.Try
/- Contracts: joined segments. -/
set_option linter.unusedVariables false
set_option linter.unusedSimpArgs false
set_option maxRecDepth 20000
set_option maxHeartbeats 4000000
namespace Gv.Try
open Go Gv Go.Proofs

def jpar (lo : Int) : List Int → List Int → List Int
  | acc, [] => acc
  | acc, p :: r => jpar lo (if p < lo ∧ p ∉ acc then acc ++ [p] else acc) r
theorem jpar_app (lo : Int) : ∀ (a b acc : List Int), jpar lo acc (a ++ b) = jpar lo (jpar lo acc a) b
  | [], b, acc => rfl
  | p :: a, b, acc => jpar_app lo a b _
theorem jpar_len (lo : Int) : ∀ (a acc : List Int), (jpar lo acc a).length ≤ acc.length + a.length
  | [], acc => by simp [jpar]
  | p :: a, acc => by
    have := jpar_len lo a (if p < lo ∧ p ∉ acc then acc ++ [p] else acc)
    rw [jpar]
    have h2 : (if p < lo ∧ p ∉ acc then acc ++ [p] else acc).length ≤ acc.length + 1 := by split <;> simp
    simp only [List.length_cons]
    omega
theorem jpar_take (lo : Int) (acc q : List Int) (i : Nat) (h : i < q.length) : jpar lo acc (q.take (i + 1)) = if q.getD i 0 < lo ∧ q.getD i 0 ∉ jpar lo acc (q.take i) then jpar lo acc (q.take i) ++ [q.getD i 0] else jpar lo acc (q.take i) := by
  rw [List.take_add_one, jpar_app]
  simp [List.getElem?_eq_getElem h, jpar, List.getD]
def jall (lo : Int) (l : List Seg) : List Int := l.foldl (fun acc s => jpar lo acc s.par) []
def sumP : List Seg → Nat
  | [] => 0
  | s :: r => s.par.length + sumP r
theorem sumP_app (a b : List Seg) : sumP (a ++ b) = sumP a + sumP b := by
  induction a with
  | nil => simp [sumP]
  | cons s r ih => simp [sumP, ih, Nat.add_assoc]
theorem sumP_take (l : List Seg) (k : Nat) : sumP (l.take k) ≤ sumP l := by
  have := sumP_app (l.take k) (l.drop k)
  rw [List.take_append_drop] at this
  omega
theorem take_succ' (l : List Seg) (k : Nat) (h : k < l.length) : l.take (k + 1) = l.take k ++ [l.getD k default] := by
  rw [List.take_add_one]; simp [List.getElem?_eq_getElem h, List.getD]
theorem jall_take (lo : Int) (l : List Seg) (k : Nat) (h : k < l.length) : jall lo (l.take (k + 1)) = jpar lo (jall lo (l.take k)) (l.getD k default).par := by
  rw [take_succ' l k h, jall, List.foldl_append]; rfl
theorem jall_len (lo : Int) (l : List Seg) : ∀ k, (jall lo (l.take k)).length ≤ sumP (l.take k)
  | 0 => by simp [jall]
  | k + 1 => by
    by_cases h : k < l.length
    · rw [jall_take lo l k h, take_succ' l k h, sumP_app]
      have h1 := jpar_len lo (l.getD k default).par (jall lo (l.take k))
      have h2 := jall_len lo l k
      simp only [sumP]; omega
    · rw [List.take_of_length_le (by omega), ← List.take_of_length_le (l := l) (i := k) (by omega)]
      exact jall_len lo l k
def anyR (l : List Seg) : Bool := l.any (·.root)
theorem anyR_take (l : List Seg) (k : Nat) (h : k < l.length) : anyR (l.take (k + 1)) = (anyR (l.take k) || (l.getD k default).root) := by
  rw [take_succ' l k h, anyR, List.any_append]; simp [anyR]
/-- one segment of a run -/
def joinI (l : List Seg) : Seg := ⟨(l.getD 0 default).lo, (l.getD (l.length - 1) default).hi, jall (l.getD 0 default).lo l, anyR l, (l.getD (l.length - 1) default).head⟩
theorem sumP_at (l : List Seg) (i : Nat) : (l.getD i default).par.length ≤ sumP l := by
  by_cases h : i < l.length
  · have h1 := sumP_take l (i + 1)
    rw [take_succ' l i h, sumP_app] at h1
    simp only [sumP] at h1
    omega
  · rw [List.getD_eq_getElem?_getD, List.getElem?_eq_none (by omega)]; simp [show (default : Seg).par = [] from rfl]

theorem frz_seg (O : List GObj) (a b : Int) (p : List Int) (t : Tag) (r h : Bool) : Gv.frz O 4 (.agg [.int .i64 a, .int .i64 b, .slice (ints p) t, .bool r, .bool h]) = some (.agg [.int .i64 a, .int .i64 b, .slice (ints p) t.frz, .bool r, .bool h]) := by
  rw [Gv.frz]; simp only [frzL, frz_intsS]; simp [Gv.frz]

theorem spec43 (l : List Seg) (hl : l.length ≤ 1000000) (h0 : l ≠ []) (hp : sumP l ≤ 100000) : GPure Try.prog 98 [.slice (segsG l) .none] (.agg (segG (joinI l))) := by
  have hpos : 0 < l.length := List.length_pos_iff.2 h0
  refine h98.pureF mixS (by simp) ?_
  simp only [gstart, s98, List.cons_append, List.nil_append, List.length_cons, List.length_nil, Nat.reduceAdd, Nat.reduceSub, List.replicate_succ, List.replicate_zero]
  simp +contextual -implicitDefEqProofs (maxSteps := 2000000) (disch := omega) only [drawC, ↓lenV, binV, ↓unV, ↓loadV, ↓storeV, ↓fieldAddrV, ↓indexAddrV, ↓allocV, ↓buildV, ↓buildSliceV, ↓appendV, ↓srcV, fillG, fillE, place, GVal.cells, grp, GVal.ofConst, ↓resV, resG, List.map, List.headD, List.take, List.drop, ↓reduceIte, Nat.reduceEqDiff, Nat.reduceAdd, Nat.reduceSub, Nat.reduceLeDiff, reduceCtorEq, implies_true, ne_eq, ↓asrcV, Tag.cap, List.replicate, allSolid, GVal.solid, Nat.reduceBEq, Nat.reduceMul, Nat.reduceLT, List.length_map, List.length_range, splice, vcA, ↓vcB, vcC, fbFf, e98, segsG_length, segsG_at, segG, toNat_pred, Int.toNat_zero]
  intro st0
  refine ⟨by omega, by omega, fun st1 => ⟨by omega, by omega, fun st2 => ⟨⟨_, rfl⟩, ?_⟩⟩⟩
  have hla : l.getD (l.length - 1) default = l.getD (l.length - 1) default := rfl
  have hlo : (l.getD 0 default).lo = (l.getD 0 default).lo := rfl
  have hj : joinI l = ⟨(l.getD 0 default).lo, (l.getD (l.length - 1) default).hi, jall (l.getD 0 default).lo l, anyR l, (l.getD (l.length - 1) default).head⟩ := rfl
  revert hj
  generalize l.getD (l.length - 1) default = la
  generalize (l.getD 0 default).lo = lo
  intro hj
  have jl : ∀ k, (jall lo (l.take k)).length ≤ 100000 := fun k => Nat.le_trans (jall_len lo l k) (Nat.le_trans (sumP_take l k) hp)
  refine vcSLoop_by (ι := { p : Nat × Nat // p.1 ≤ l.length }) (fun p => ⟨[.slice (segsG l) .none, .any, .ptr 0 st0 0 0, .any, .ptr 2 st2 0 0] ++ List.replicate 19 .any ++ [.slice (segsG l) .none, .int .i64 l.length, .int .i64 (p.1.1 : Nat)] ++ List.replicate 37 .any, [.row st0 5 [[.int .i64 0, .int .i64 0, .slice [] .nil, .bool false, .bool false]], .row st1 5 [[.int .i64 la.lo, .int .i64 la.hi, .slice (ints la.par) .none, .bool la.root, .bool la.head]], .row st2 5 [[.int .i64 lo, .int .i64 la.hi, .slice (ints (jall lo (l.take p.1.1))) (.tok 3 p.1.2), .bool (anyR (l.take p.1.1)), .bool la.head]], .tok p.1.2 1]⟩) (fun p => l.length - p.1.1) ?_ ?_
  · refine Into.cellTok 2 2 1 [] rfl rfl rfl rfl ?_
    simp +contextual -implicitDefEqProofs (maxSteps := 2000000) (disch := omega) only [drawC, ↓lenV, binV, ↓unV, ↓loadV, ↓storeV, ↓fieldAddrV, ↓indexAddrV, ↓allocV, ↓buildV, ↓buildSliceV, ↓appendV, ↓srcV, fillG, fillE, place, GVal.cells, grp, GVal.ofConst, ↓resV, resG, List.map, List.headD, List.take, List.drop, ↓reduceIte, Nat.reduceEqDiff, Nat.reduceAdd, Nat.reduceSub, Nat.reduceLeDiff, reduceCtorEq, implies_true, ne_eq, ↓asrcV, Tag.cap, List.replicate, allSolid, GVal.solid, Nat.reduceBEq, Nat.reduceMul, Nat.reduceLT, List.length_map, List.length_range, splice, vcA, ↓vcB, vcC, fbFf, e98, List.set_cons_succ, List.set_cons_zero]
    intro t
    exact Into.first ⟨(0, t), by omega⟩ ⟨[], by simp [jall, anyR, ints]⟩ (by simp [WL, leG_self, leG_any])
  · rintro ⟨⟨k, u⟩, hk⟩
    cases hb : anyR (l.take k)
    · simp +contextual -implicitDefEqProofs (maxSteps := 2000000) (disch := omega) only [drawC, ↓lenV, binV, ↓unV, ↓loadV, ↓storeV, ↓fieldAddrV, ↓indexAddrV, ↓allocV, ↓buildV, ↓buildSliceV, ↓appendV, ↓srcV, fillG, fillE, place, GVal.cells, grp, GVal.ofConst, ↓resV, resG, List.map, List.headD, List.take, List.drop, ↓reduceIte, Nat.reduceEqDiff, Nat.reduceAdd, Nat.reduceSub, Nat.reduceLeDiff, reduceCtorEq, implies_true, ne_eq, ↓asrcV, Tag.cap, List.replicate, allSolid, GVal.solid, Nat.reduceBEq, Nat.reduceMul, Nat.reduceLT, List.length_map, List.length_range, splice, vcA, ↓vcB, vcC, fbFf, e98, segsG_length, segsG_at, segG, toNat_pred, Int.toNat_zero, List.set_cons_succ, List.set_cons_zero, hb]
      refine ⟨fun h => ⟨by omega, fun st => ?_⟩, fun h => ?_⟩
      · have hkl : k < l.length := by omega
        have eR := anyR_take l k hkl
        have eJ := jall_take lo l k hkl
        have jl1 := jl k
        have hps := sumP_at l k
        have jl2 : ∀ i, (jpar lo (jall lo (l.take k)) ((l.getD k default).par.take i)).length ≤ 1000000 := fun i => by
          have h1 := jpar_len lo ((l.getD k default).par.take i) (jall lo (l.take k))
          have h2 : ((l.getD k default).par.take i).length ≤ (l.getD k default).par.length := by rw [List.length_take]; omega
          omega
        rw [hb] at eR
        refine vcSLoop_by (ι := { p : Nat × Nat // p.1 ≤ (l.getD k default).par.length }) (fun p => ⟨[.slice (segsG l) .none, .any, .ptr 0 st0 0 0, .any, .ptr 2 st2 0 0, .any, .any] ++ List.replicate 17 .any ++ [.slice (segsG l) .none, .int .i64 l.length, .int .i64 (k : Nat)] ++ List.replicate 11 .any ++ [.slice (ints (l.getD k default).par) .none, .int .i64 (l.getD k default).par.length, .int .i64 (p.1.1 : Nat)] ++ List.replicate 23 .any, [.row st0 5 [[.int .i64 0, .int .i64 0, .slice [] .nil, .bool false, .bool false]], .row st1 5 [[.int .i64 la.lo, .int .i64 la.hi, .slice (ints la.par) .none, .bool la.root, .bool la.head]], .row st2 5 [[.int .i64 lo, .int .i64 la.hi, .slice (ints (jpar lo (jall lo (l.take k)) ((l.getD k default).par.take p.1.1))) (.tok 3 p.1.2), .bool (anyR (l.take (k + 1))), .bool la.head]], .tok p.1.2 1]⟩) (fun p => (l.getD k default).par.length - p.1.1) ?_ ?_
        · exact Into.first ⟨(0, u), by omega⟩ ⟨_, by simp [jpar, eR]; rfl⟩ (by simp [WL, leG_self, leG_any])
        · rintro ⟨⟨i, v⟩, hi⟩
          change i ≤ (l.getD k default).par.length at hi
          have jl3 := jl2 i
          simp +contextual -implicitDefEqProofs (maxSteps := 2000000) (disch := omega) only [drawC, ↓lenV, binV, ↓unV, ↓loadV, ↓storeV, ↓fieldAddrV, ↓indexAddrV, ↓allocV, ↓buildV, ↓buildSliceV, ↓appendV, ↓srcV, fillG, fillE, place, GVal.cells, grp, GVal.ofConst, ↓resV, resG, List.map, List.headD, List.take, List.drop, ↓reduceIte, Nat.reduceEqDiff, Nat.reduceAdd, Nat.reduceSub, Nat.reduceLeDiff, reduceCtorEq, implies_true, ne_eq, ↓asrcV, Tag.cap, List.replicate, allSolid, GVal.solid, Nat.reduceBEq, Nat.reduceMul, Nat.reduceLT, List.length_map, List.length_range, splice, vcA, ↓vcB, vcC, fbFf, e98, Int.toNat_zero, List.set_cons_succ, List.set_cons_zero]
          have eT := fun h => jpar_take lo (jall lo (l.take k)) (l.getD k default).par i h
          refine ⟨fun h2 => ⟨by omega, fun h3 => ?_, fun h3 => ?_⟩, fun h2 => ?_⟩
          · have c47 := spec47 (jpar lo (jall lo (l.take k)) ((l.getD k default).par.take i)) (.tok 3 v) ((l.getD k default).par.getD i 0) (by omega)
            by_cases hm : (l.getD k default).par.getD i 0 ∈ jpar lo (jall lo (l.take k)) ((l.getD k default).par.take i)
            · rw [decide_eq_true hm] at c47
              have eT' := (eT (by omega)).trans (if_neg (fun h => h.2 hm))
              refine c47.then ?_
              simp +contextual -implicitDefEqProofs (maxSteps := 2000000) (disch := omega) only [drawC, ↓lenV, binV, ↓unV, ↓loadV, ↓storeV, ↓fieldAddrV, ↓indexAddrV, ↓allocV, ↓buildV, ↓buildSliceV, ↓appendV, ↓srcV, fillG, fillE, place, GVal.cells, grp, GVal.ofConst, ↓resV, resG, List.map, List.headD, List.take, List.drop, ↓reduceIte, Nat.reduceEqDiff, Nat.reduceAdd, Nat.reduceSub, Nat.reduceLeDiff, reduceCtorEq, implies_true, ne_eq, ↓asrcV, Tag.cap, List.replicate, allSolid, GVal.solid, Nat.reduceBEq, Nat.reduceMul, Nat.reduceLT, List.length_map, List.length_range, splice, vcA, ↓vcB, vcC, fbFf, e98, Int.toNat_zero, List.set_cons_succ, List.set_cons_zero]
              exact Into.at ⟨(i + 1, v), by show i + 1 ≤ _; omega⟩ (by show (l.getD k default).par.length - (i + 1) < (l.getD k default).par.length - i; omega) ⟨[], by simp only [eT', List.append_nil]⟩ (by simp [WL, leG_self, leG_any, leG_int])
            · rw [decide_eq_false hm] at c47
              have eT' := (eT (by omega)).trans (if_pos ⟨h3, hm⟩)
              refine c47.then ?_
              simp +contextual -implicitDefEqProofs (maxSteps := 2000000) (disch := omega) only [drawC, ↓lenV, binV, ↓unV, ↓loadV, ↓storeV, ↓fieldAddrV, ↓indexAddrV, ↓allocV, ↓buildV, ↓buildSliceV, ↓appendV, ↓srcV, fillG, fillE, place, GVal.cells, grp, GVal.ofConst, ↓resV, resG, List.map, List.headD, List.take, List.drop, ↓reduceIte, Nat.reduceEqDiff, Nat.reduceAdd, Nat.reduceSub, Nat.reduceLeDiff, reduceCtorEq, implies_true, ne_eq, ↓asrcV, Tag.cap, List.replicate, allSolid, GVal.solid, Nat.reduceBEq, Nat.reduceMul, Nat.reduceLT, List.length_map, List.length_range, splice, vcA, ↓vcB, vcC, fbFf, e98, Int.toNat_zero, List.set_cons_succ, List.set_cons_zero]
              refine ⟨by omega, by omega, fun w => ?_⟩
              exact Into.at ⟨(i + 1, w), by show i + 1 ≤ _; omega⟩ (by show (l.getD k default).par.length - (i + 1) < (l.getD k default).par.length - i; omega) ⟨[], by simp only [eT', List.append_nil, ints_append, ints_one]⟩ (by simp [WL, leG_self, leG_any, leG_int])
          · have eT' := (eT (by omega)).trans (if_neg (fun h => absurd h.1 (by omega)))
            exact Into.at ⟨(i + 1, v), by show i + 1 ≤ _; omega⟩ (by show (l.getD k default).par.length - (i + 1) < (l.getD k default).par.length - i; omega) ⟨[], by simp only [eT', List.append_nil]⟩ (by simp [WL, leG_self, leG_any, leG_int])
          · rw [List.take_of_length_le (i := i) (l := (l.getD k default).par) (by omega)]
            exact Into.at ⟨(k + 1, v), by show k + 1 ≤ _; omega⟩ (by show _ < _; simp; omega) ⟨[], by simp only [eJ, List.append_nil]⟩ (by simp [WL, leG_self, leG_any, leG_int])
      · have ek : l.take k = l := List.take_of_length_le (by omega)
        rw [ek] at hb
        rw [hj, ek, ← hb]
        exact ⟨4, _, frz_seg _ _ _ _ _ _ _, by rw [leA_agg]; simp [WL, leG_self, leG_none, Tag.frz, leG_bool]⟩
    · simp +contextual -implicitDefEqProofs (maxSteps := 2000000) (disch := omega) only [drawC, ↓lenV, binV, ↓unV, ↓loadV, ↓storeV, ↓fieldAddrV, ↓indexAddrV, ↓allocV, ↓buildV, ↓buildSliceV, ↓appendV, ↓srcV, fillG, fillE, place, GVal.cells, grp, GVal.ofConst, ↓resV, resG, List.map, List.headD, List.take, List.drop, ↓reduceIte, Nat.reduceEqDiff, Nat.reduceAdd, Nat.reduceSub, Nat.reduceLeDiff, reduceCtorEq, implies_true, ne_eq, ↓asrcV, Tag.cap, List.replicate, allSolid, GVal.solid, Nat.reduceBEq, Nat.reduceMul, Nat.reduceLT, List.length_map, List.length_range, splice, vcA, ↓vcB, vcC, fbFf, e98, segsG_length, segsG_at, segG, toNat_pred, Int.toNat_zero, List.set_cons_succ, List.set_cons_zero, hb]
      refine ⟨fun h => ⟨by omega, fun st => ?_⟩, fun h => ?_⟩
      · have hkl : k < l.length := by omega
        have eR := anyR_take l k hkl
        have eJ := jall_take lo l k hkl
        have jl1 := jl k
        have hps := sumP_at l k
        have jl2 : ∀ i, (jpar lo (jall lo (l.take k)) ((l.getD k default).par.take i)).length ≤ 1000000 := fun i => by
          have h1 := jpar_len lo ((l.getD k default).par.take i) (jall lo (l.take k))
          have h2 : ((l.getD k default).par.take i).length ≤ (l.getD k default).par.length := by rw [List.length_take]; omega
          omega
        rw [hb] at eR
        refine vcSLoop_by (ι := { p : Nat × Nat // p.1 ≤ (l.getD k default).par.length }) (fun p => ⟨[.slice (segsG l) .none, .any, .ptr 0 st0 0 0, .any, .ptr 2 st2 0 0, .any, .any] ++ List.replicate 17 .any ++ [.slice (segsG l) .none, .int .i64 l.length, .int .i64 (k : Nat)] ++ List.replicate 11 .any ++ [.slice (ints (l.getD k default).par) .none, .int .i64 (l.getD k default).par.length, .int .i64 (p.1.1 : Nat)] ++ List.replicate 23 .any, [.row st0 5 [[.int .i64 0, .int .i64 0, .slice [] .nil, .bool false, .bool false]], .row st1 5 [[.int .i64 la.lo, .int .i64 la.hi, .slice (ints la.par) .none, .bool la.root, .bool la.head]], .row st2 5 [[.int .i64 lo, .int .i64 la.hi, .slice (ints (jpar lo (jall lo (l.take k)) ((l.getD k default).par.take p.1.1))) (.tok 3 p.1.2), .bool (anyR (l.take (k + 1))), .bool la.head]], .tok p.1.2 1]⟩) (fun p => (l.getD k default).par.length - p.1.1) ?_ ?_
        · exact Into.first ⟨(0, u), by omega⟩ ⟨_, by simp [jpar, eR]; rfl⟩ (by simp [WL, leG_self, leG_any])
        · rintro ⟨⟨i, v⟩, hi⟩
          change i ≤ (l.getD k default).par.length at hi
          have jl3 := jl2 i
          simp +contextual -implicitDefEqProofs (maxSteps := 2000000) (disch := omega) only [drawC, ↓lenV, binV, ↓unV, ↓loadV, ↓storeV, ↓fieldAddrV, ↓indexAddrV, ↓allocV, ↓buildV, ↓buildSliceV, ↓appendV, ↓srcV, fillG, fillE, place, GVal.cells, grp, GVal.ofConst, ↓resV, resG, List.map, List.headD, List.take, List.drop, ↓reduceIte, Nat.reduceEqDiff, Nat.reduceAdd, Nat.reduceSub, Nat.reduceLeDiff, reduceCtorEq, implies_true, ne_eq, ↓asrcV, Tag.cap, List.replicate, allSolid, GVal.solid, Nat.reduceBEq, Nat.reduceMul, Nat.reduceLT, List.length_map, List.length_range, splice, vcA, ↓vcB, vcC, fbFf, e98, Int.toNat_zero, List.set_cons_succ, List.set_cons_zero]
          have eT := fun h => jpar_take lo (jall lo (l.take k)) (l.getD k default).par i h
          refine ⟨fun h2 => ⟨by omega, fun h3 => ?_, fun h3 => ?_⟩, fun h2 => ?_⟩
          · have c47 := spec47 (jpar lo (jall lo (l.take k)) ((l.getD k default).par.take i)) (.tok 3 v) ((l.getD k default).par.getD i 0) (by omega)
            by_cases hm : (l.getD k default).par.getD i 0 ∈ jpar lo (jall lo (l.take k)) ((l.getD k default).par.take i)
            · rw [decide_eq_true hm] at c47
              have eT' := (eT (by omega)).trans (if_neg (fun h => h.2 hm))
              refine c47.then ?_
              simp +contextual -implicitDefEqProofs (maxSteps := 2000000) (disch := omega) only [drawC, ↓lenV, binV, ↓unV, ↓loadV, ↓storeV, ↓fieldAddrV, ↓indexAddrV, ↓allocV, ↓buildV, ↓buildSliceV, ↓appendV, ↓srcV, fillG, fillE, place, GVal.cells, grp, GVal.ofConst, ↓resV, resG, List.map, List.headD, List.take, List.drop, ↓reduceIte, Nat.reduceEqDiff, Nat.reduceAdd, Nat.reduceSub, Nat.reduceLeDiff, reduceCtorEq, implies_true, ne_eq, ↓asrcV, Tag.cap, List.replicate, allSolid, GVal.solid, Nat.reduceBEq, Nat.reduceMul, Nat.reduceLT, List.length_map, List.length_range, splice, vcA, ↓vcB, vcC, fbFf, e98, Int.toNat_zero, List.set_cons_succ, List.set_cons_zero]
              exact Into.at ⟨(i + 1, v), by show i + 1 ≤ _; omega⟩ (by show (l.getD k default).par.length - (i + 1) < (l.getD k default).par.length - i; omega) ⟨[], by simp only [eT', List.append_nil]⟩ (by simp [WL, leG_self, leG_any, leG_int])
            · rw [decide_eq_false hm] at c47
              have eT' := (eT (by omega)).trans (if_pos ⟨h3, hm⟩)
              refine c47.then ?_
              simp +contextual -implicitDefEqProofs (maxSteps := 2000000) (disch := omega) only [drawC, ↓lenV, binV, ↓unV, ↓loadV, ↓storeV, ↓fieldAddrV, ↓indexAddrV, ↓allocV, ↓buildV, ↓buildSliceV, ↓appendV, ↓srcV, fillG, fillE, place, GVal.cells, grp, GVal.ofConst, ↓resV, resG, List.map, List.headD, List.take, List.drop, ↓reduceIte, Nat.reduceEqDiff, Nat.reduceAdd, Nat.reduceSub, Nat.reduceLeDiff, reduceCtorEq, implies_true, ne_eq, ↓asrcV, Tag.cap, List.replicate, allSolid, GVal.solid, Nat.reduceBEq, Nat.reduceMul, Nat.reduceLT, List.length_map, List.length_range, splice, vcA, ↓vcB, vcC, fbFf, e98, Int.toNat_zero, List.set_cons_succ, List.set_cons_zero]
              refine ⟨by omega, by omega, fun w => ?_⟩
              exact Into.at ⟨(i + 1, w), by show i + 1 ≤ _; omega⟩ (by show (l.getD k default).par.length - (i + 1) < (l.getD k default).par.length - i; omega) ⟨[], by simp only [eT', List.append_nil, ints_append, ints_one]⟩ (by simp [WL, leG_self, leG_any, leG_int])
          · have eT' := (eT (by omega)).trans (if_neg (fun h => absurd h.1 (by omega)))
            exact Into.at ⟨(i + 1, v), by show i + 1 ≤ _; omega⟩ (by show (l.getD k default).par.length - (i + 1) < (l.getD k default).par.length - i; omega) ⟨[], by simp only [eT', List.append_nil]⟩ (by simp [WL, leG_self, leG_any, leG_int])
          · rw [List.take_of_length_le (i := i) (l := (l.getD k default).par) (by omega)]
            exact Into.at ⟨(k + 1, v), by show k + 1 ≤ _; omega⟩ (by show _ < _; simp; omega) ⟨[], by simp only [eJ, List.append_nil]⟩ (by simp [WL, leG_self, leG_any, leG_int])
      · have ek : l.take k = l := List.take_of_length_le (by omega)
        rw [ek] at hb
        rw [hj, ek, ← hb]
        exact ⟨4, _, frz_seg _ _ _ _ _ _ _, by rw [leA_agg]; simp [WL, leG_self, leG_none, Tag.frz, leG_bool]⟩

end Gv.Try
/- Contracts: one level more; all levels. -/
set_option linter.unusedVariables false
set_option linter.unusedSimpArgs false
set_option maxRecDepth 20000
set_option maxHeartbeats 4000000
namespace Gv.Try
open Go Gv Go.Proofs

inductive UpOK (size : Int) : List Seg → List Seg → Prop
  | nil : UpOK size [] []
  | cons (l u : List Seg) (n : Nat) : runOK l size n → (n = 1 ∨ headsN (l.take n) = 1) → UpOK size (l.drop n) u → UpOK size l (joinI (l.take n) :: u)
theorem runOK.down {l : List Seg} {size : Int} {n m : Nat} (h : runOK l size n) (h1 : 1 ≤ m) (h2 : m ≤ n) : runOK l size m := by
  obtain ⟨a, b, c, d⟩ := h
  exact ⟨h1, by omega, by omega, fun i hi => d i (by omega)⟩
theorem frz_segsS (O : List GObj) (n : Nat) (l : List Seg) (t : Tag) : Gv.frz O (n + 3) (.slice (segsG l) t) = some (.slice (segsG l) t.frz) := by
  rw [Gv.frz, frz_segs]
theorem sumP_drop (l : List Seg) (k : Nat) : sumP (l.drop k) ≤ sumP l := by
  have := sumP_app (l.take k) (l.drop k)
  rw [List.take_append_drop] at this
  omega
theorem segsG_nil : segsG [] = [] := rfl

theorem rel20 (l : List Seg) (size : Int) (hl : l.length ≤ 1000) (hp : sumP l ≤ 100000) (hs : 2 ≤ size) : GRel Try.prog 85 [.slice (segsG l) .none, .int .i64 size] (fun g => ∃ u, g = .slice (segsG u) .none ∧ UpOK size l u) := by
  refine h85.rel mixS (by simp) ?_
  simp only [gstart, s85, List.cons_append, List.nil_append, List.length_cons, List.length_nil, Nat.reduceAdd, Nat.reduceSub, List.replicate_succ, List.replicate_zero]
  simp +contextual -implicitDefEqProofs (maxSteps := 2000000) (disch := omega) only [↓lenV, binV, optV, ↓buildSliceV, ↓sliceV, ↓appendV, ↓srcV, bound, cutTag, hiTag, fillE, GVal.cells, grp, GVal.ofConst, ↓resV, resG, List.map, List.headD, List.take, List.drop, ↓reduceIte, Nat.reduceEqDiff, Nat.reduceAdd, Nat.reduceSub, Nat.reduceLeDiff, reduceCtorEq, implies_true, ne_eq, ↓asrcV, aggV, Tag.cap, List.replicate, allSolid, GVal.solid, Nat.reduceBEq, Nat.reduceMul, Nat.reduceLT, List.length_map, List.length_range, splice, vcA, ↓vcB, vcC, fbFf, e85]
  refine ⟨fun h => absurd h (by omega), fun _ => ?_⟩
  refine vcSLoop_by (ι := { p : List Seg × List Seg × Nat // (∀ u, UpOK size p.2.1 u → UpOK size l (p.1 ++ u)) ∧ p.1.length + p.2.1.length ≤ l.length ∧ sumP p.2.1 ≤ 100000 }) (fun p => ⟨[.slice (segsG p.1.2.1) .none, .int .i64 size, .any, .any, .any, .slice (segsG p.1.1) (.tok 0 p.1.2.2)] ++ List.replicate 31 .any, [.tok p.1.2.2 5]⟩) (fun p => p.1.2.1.length) ?_ ?_
  · refine Into.tok 5 5 [] rfl rfl ?_
    simp +contextual -implicitDefEqProofs (maxSteps := 2000000) (disch := omega) only [↓lenV, binV, optV, ↓buildSliceV, ↓sliceV, ↓appendV, ↓srcV, bound, cutTag, hiTag, fillE, GVal.cells, grp, GVal.ofConst, ↓resV, resG, List.map, List.headD, List.take, List.drop, ↓reduceIte, Nat.reduceEqDiff, Nat.reduceAdd, Nat.reduceSub, Nat.reduceLeDiff, reduceCtorEq, implies_true, ne_eq, ↓asrcV, aggV, Tag.cap, List.replicate, allSolid, GVal.solid, Nat.reduceBEq, Nat.reduceMul, Nat.reduceLT, List.length_map, List.length_range, splice, vcA, ↓vcB, vcC, fbFf, e85]
    intro t
    exact Into.first ⟨([], l, t), fun u h => h, by simp, hp⟩ ⟨[], by simp⟩ (by simp [WL, leG_self, leG_any, segsG_nil])
  · rintro ⟨⟨out, rest, v⟩, h1, h2, h3⟩
    change ∀ u, UpOK size rest u → UpOK size l (out ++ u) at h1
    change out.length + rest.length ≤ l.length at h2
    change sumP rest ≤ 100000 at h3
    simp +contextual -implicitDefEqProofs (maxSteps := 2000000) (disch := omega) only [↓lenV, binV, optV, ↓buildSliceV, ↓sliceV, ↓appendV, ↓srcV, bound, cutTag, hiTag, fillE, GVal.cells, grp, GVal.ofConst, ↓resV, resG, List.map, List.headD, List.take, List.drop, ↓reduceIte, Nat.reduceEqDiff, Nat.reduceAdd, Nat.reduceSub, Nat.reduceLeDiff, reduceCtorEq, implies_true, ne_eq, ↓asrcV, aggV, Tag.cap, List.replicate, allSolid, GVal.solid, Nat.reduceBEq, Nat.reduceMul, Nat.reduceLT, List.length_map, List.length_range, splice, vcA, ↓vcB, vcC, fbFf, e85, segsG_length]
    refine ⟨fun h => ?_, fun h => ?_⟩
    · have hne : rest ≠ [] := fun e => by subst e; simp at h
      refine (rel42 rest size .none (by omega) hne hs).then ?_
      rintro g ⟨n0, rfl, hn0⟩
      simp +contextual -implicitDefEqProofs (maxSteps := 2000000) (disch := omega) only [↓lenV, binV, optV, ↓buildSliceV, ↓sliceV, ↓appendV, ↓srcV, bound, cutTag, hiTag, fillE, GVal.cells, grp, GVal.ofConst, ↓resV, resG, List.map, List.headD, List.take, List.drop, ↓reduceIte, Nat.reduceEqDiff, Nat.reduceAdd, Nat.reduceSub, Nat.reduceLeDiff, reduceCtorEq, implies_true, ne_eq, ↓asrcV, aggV, Tag.cap, List.replicate, allSolid, GVal.solid, Nat.reduceBEq, Nat.reduceMul, Nat.reduceLT, List.length_map, List.length_range, splice, vcA, ↓vcB, vcC, fbFf, e85]
      refine vcSLoop_by (ι := { n : Nat // runOK rest size n }) (fun n => ⟨[.slice (segsG rest) .none, .int .i64 size, .any, .any, .any, .slice (segsG out) (.tok 0 v), .int .i64 (n.1 : Nat)] ++ List.replicate 30 .any, [.tok v 5]⟩) (fun n => n.1) ?_ ?_
      · exact Into.first ⟨n0, hn0⟩ ⟨[], by simp⟩ (by simp [WL, leG_self, leG_any])
      · rintro ⟨n, hn⟩
        have hn' := hn
        obtain ⟨n1, n2, n3, n4⟩ := hn'
        have hF : (segsG rest).take rest.length = segsG rest := List.take_of_length_le (by rw [segsG_length]; omega)
        have hlen : (rest.take n).length = n := by rw [List.length_take]; omega
        simp +contextual -implicitDefEqProofs (maxSteps := 2000000) (disch := omega) only [↓lenV, binV, optV, ↓buildSliceV, ↓sliceV, ↓appendV, ↓srcV, bound, cutTag, hiTag, fillE, GVal.cells, grp, GVal.ofConst, ↓resV, resG, List.map, List.headD, List.take, List.drop, ↓reduceIte, Nat.reduceEqDiff, Nat.reduceAdd, Nat.reduceSub, Nat.reduceLeDiff, reduceCtorEq, implies_true, ne_eq, ↓asrcV, aggV, Tag.cap, List.replicate, allSolid, GVal.solid, Nat.reduceBEq, Nat.reduceMul, Nat.reduceLT, List.length_map, List.length_range, splice, vcA, ↓vcB, vcC, fbFf, e85, segsG_length, segsG_take, Int.toNat_zero, all_segsG]
        refine ⟨fun h4 => ⟨by omega, by omega, by omega, ?_⟩, fun h4 => ⟨by omega, by omega, by omega, ?_⟩⟩
        · refine (spec23 (rest.take n) (by omega) (fun i => by have := sumP_at (rest.take n) i; have := sumP_take rest n; omega)).then ?_
          by_cases h5 : headsN (rest.take n) = 1
          · have h6 : ((headsN (rest.take n) : Nat) : Int) = 1 := by omega
            simp +contextual -implicitDefEqProofs (maxSteps := 2000000) (disch := omega) only [↓lenV, binV, optV, ↓buildSliceV, ↓sliceV, ↓appendV, ↓srcV, bound, cutTag, hiTag, fillE, GVal.cells, grp, GVal.ofConst, ↓resV, resG, List.map, List.headD, List.take, List.drop, ↓reduceIte, Nat.reduceEqDiff, Nat.reduceAdd, Nat.reduceSub, Nat.reduceLeDiff, reduceCtorEq, implies_true, ne_eq, ↓asrcV, aggV, Tag.cap, List.replicate, allSolid, GVal.solid, Nat.reduceBEq, Nat.reduceMul, Nat.reduceLT, List.length_map, List.length_range, splice, vcA, ↓vcB, vcC, fbFf, e85, segsG_length, segsG_take, Int.toNat_zero, all_segsG]
            refine ⟨fun h7 => absurd h6 h7, fun _ => ⟨by omega, by omega, by omega, ?_⟩⟩
            refine (spec43 (rest.take n) (by rw [List.length_take]; omega) (fun e => by rw [e] at hlen; simp at hlen; omega) (by have := sumP_take rest n; omega)).then ?_
            simp +contextual -implicitDefEqProofs (maxSteps := 2000000) (disch := omega) only [↓lenV, binV, optV, ↓buildSliceV, ↓sliceV, ↓appendV, ↓srcV, bound, cutTag, hiTag, fillE, GVal.cells, grp, GVal.ofConst, ↓resV, resG, List.map, List.headD, List.take, List.drop, ↓reduceIte, Nat.reduceEqDiff, Nat.reduceAdd, Nat.reduceSub, Nat.reduceLeDiff, reduceCtorEq, implies_true, ne_eq, ↓asrcV, aggV, Tag.cap, List.replicate, allSolid, GVal.solid, Nat.reduceBEq, Nat.reduceMul, Nat.reduceLT, List.length_map, List.length_range, splice, vcA, ↓vcB, vcC, fbFf, e85, segsG_length, segsG_drop, all_segsG, segG, hF]
            refine ⟨by omega, by omega, fun w => ⟨by omega, by omega, by omega, ?_⟩⟩
            refine Into.at ⟨(out ++ [joinI (rest.take n)], rest.drop n, w), fun u hu => ?_, ?_, ?_⟩ ?_ ⟨[], by simp⟩ ?_
            · show UpOK size l (out ++ [joinI (rest.take n)] ++ u)
              rw [List.append_assoc]
              exact h1 _ (.cons rest u n hn (.inr h5) hu)
            · show (out ++ [joinI (rest.take n)]).length + (rest.drop n).length ≤ l.length
              rw [List.length_append, List.length_drop]; simp; omega
            · show sumP (rest.drop n) ≤ 100000
              have := sumP_drop rest n; omega
            · show (rest.drop n).length < rest.length
              rw [List.length_drop]; omega
            · simp [WL, leG_self, leG_any, leG_int, segsG_append, segsG_one, segG]

          · have h6 : ((headsN (rest.take n) : Nat) : Int) ≠ 1 := by omega
            simp +contextual -implicitDefEqProofs (maxSteps := 2000000) (disch := omega) only [↓lenV, binV, optV, ↓buildSliceV, ↓sliceV, ↓appendV, ↓srcV, bound, cutTag, hiTag, fillE, GVal.cells, grp, GVal.ofConst, ↓resV, resG, List.map, List.headD, List.take, List.drop, ↓reduceIte, Nat.reduceEqDiff, Nat.reduceAdd, Nat.reduceSub, Nat.reduceLeDiff, reduceCtorEq, implies_true, ne_eq, ↓asrcV, aggV, Tag.cap, List.replicate, allSolid, GVal.solid, Nat.reduceBEq, Nat.reduceMul, Nat.reduceLT, List.length_map, List.length_range, splice, vcA, ↓vcB, vcC, fbFf, e85, segsG_length]
            refine ⟨fun _ => ?_, fun h7 => absurd h7 h6⟩
            exact Into.at ⟨n - 1, hn.down (by omega) (by omega)⟩ (by show n - 1 < n; omega) ⟨[], by simp⟩ (by simp [WL, leG_self, leG_any, leG_int] <;> omega)
        · skip
          refine (spec43 (rest.take n) (by rw [List.length_take]; omega) (fun e => by rw [e] at hlen; simp at hlen; omega) (by have := sumP_take rest n; omega)).then ?_
          simp +contextual -implicitDefEqProofs (maxSteps := 2000000) (disch := omega) only [↓lenV, binV, optV, ↓buildSliceV, ↓sliceV, ↓appendV, ↓srcV, bound, cutTag, hiTag, fillE, GVal.cells, grp, GVal.ofConst, ↓resV, resG, List.map, List.headD, List.take, List.drop, ↓reduceIte, Nat.reduceEqDiff, Nat.reduceAdd, Nat.reduceSub, Nat.reduceLeDiff, reduceCtorEq, implies_true, ne_eq, ↓asrcV, aggV, Tag.cap, List.replicate, allSolid, GVal.solid, Nat.reduceBEq, Nat.reduceMul, Nat.reduceLT, List.length_map, List.length_range, splice, vcA, ↓vcB, vcC, fbFf, e85, segsG_length, segsG_drop, all_segsG, segG, hF]
          refine ⟨by omega, by omega, fun w => ⟨by omega, by omega, by omega, ?_⟩⟩
          refine Into.at ⟨(out ++ [joinI (rest.take n)], rest.drop n, w), fun u hu => ?_, ?_, ?_⟩ ?_ ⟨[], by simp⟩ ?_
          · show UpOK size l (out ++ [joinI (rest.take n)] ++ u)
            rw [List.append_assoc]
            exact h1 _ (.cons rest u n hn (.inl (by omega)) hu)
          · show (out ++ [joinI (rest.take n)]).length + (rest.drop n).length ≤ l.length
            rw [List.length_append, List.length_drop]; simp; omega
          · show sumP (rest.drop n) ≤ 100000
            have := sumP_drop rest n; omega
          · show (rest.drop n).length < rest.length
            rw [List.length_drop]; omega
          · simp [WL, leG_self, leG_any, leG_int, segsG_append, segsG_one, segG]
    · have e : rest = [] := List.length_eq_zero_iff.1 (by omega)
      subst e
      have := h1 [] .nil
      rw [List.append_nil] at this
      exact ⟨_, ⟨3, _, frz_segsS _ 0 _ _, by rw [Tag.frz, leA_slice]⟩, out, rfl, this⟩

end Gv.Try
/- Contracts: all levels. -/
set_option linter.unusedVariables false
set_option linter.unusedSimpArgs false
set_option maxRecDepth 20000
set_option maxHeartbeats 4000000
namespace Gv.Try
open Go Gv Go.Proofs

def levsG (L : List (List Seg)) : List (List GVal) := L.map fun s => [.slice (segsG s) .none]
theorem levsG_length (L : List (List Seg)) : (levsG L).length = L.length := by simp [levsG]
theorem levsG_at (L : List (List Seg)) (i : Nat) (h : i < L.length) : (levsG L).getD i [] = [.slice (segsG (L.getD i [])) .none] := by simp [levsG, List.getD, h]
theorem levsG_append (a b : List (List Seg)) : levsG (a ++ b) = levsG a ++ levsG b := by simp [levsG]
theorem levsG_one (s : List Seg) : levsG [s] = [[.slice (segsG s) .none]] := rfl
theorem all_levsG (L : List (List Seg)) : (∀ x ∈ levsG L, x.length = 1) = True := by simp [levsG]
theorem frz_levs (O : List GObj) (n : Nat) (L : List (List Seg)) (t : Tag) : Gv.frz O (n + 5) (.slice (levsG L) t) = some (.slice (levsG L) t.frz) := by
  rw [Gv.frz, frzLL_same]
  intro x hx
  obtain ⟨s, _, rfl⟩ := List.mem_map.1 hx
  simp only [frzL, frz_segsS _ (n + 1), Tag.frz]
theorem joinI_par (l : List Seg) : (joinI l).par.length ≤ sumP l := by
  have := jall_len (l.getD 0 default).lo l l.length
  rw [List.take_of_length_le (Nat.le_refl _)] at this
  exact this
theorem UpOK.bound {size : Int} {l u : List Seg} (h : UpOK size l u) : u.length ≤ l.length ∧ sumP u ≤ sumP l := by
  induction h with
  | nil => simp
  | cons l u n h1 h2 h3 ih =>
    obtain ⟨a, b, c, d⟩ := h1
    have e := sumP_app (l.take n) (l.drop n)
    rw [List.take_append_drop] at e
    have := joinI_par (l.take n)
    simp only [List.length_cons, sumP]
    rw [List.length_drop] at ih
    omega
/-- the levels over a list -/
def LevOK (size : Int) (l : List Seg) (L : List (List Seg)) : Prop :=
  1 ≤ L.length ∧ L.length ≤ 4 ∧ L.getD 0 [] = l ∧ (∀ i, i + 1 < L.length → UpOK size (L.getD i []) (L.getD (i + 1) []) ∧ (L.getD (i + 1) []).length < (L.getD i []).length) ∧ ∀ i, (L.getD i []).length ≤ 1000 ∧ sumP (L.getD i []) ≤ 100000
theorem LevOK.more {size : Int} {l : List Seg} {L : List (List Seg)} (h : LevOK size l L) {u : List Seg} (hl : L.length < 4) (hu : UpOK size (L.getD (L.length - 1) []) u) (hlt : u.length < (L.getD (L.length - 1) []).length) : LevOK size l (L ++ [u]) := by
  obtain ⟨h1, h2, h3, h4, h5⟩ := h
  have hb := hu.bound
  have at_ : ∀ i, (L ++ [u]).getD i [] = if i < L.length then L.getD i [] else if i = L.length then u else [] := by
    intro i
    split
    · rename_i h; rw [List.getD_eq_getElem?_getD, List.getD_eq_getElem?_getD, List.getElem?_append_left h]
    · split
      · rename_i h; subst h; simp [List.getD]
      · rw [List.getD_eq_getElem?_getD, List.getElem?_eq_none (by simp; omega)]; rfl
  refine ⟨by simp, by simp; omega, by rw [at_, if_pos (by omega)]; exact h3, fun i hi => ?_, fun i => ?_⟩
  · simp at hi
    rw [at_, at_, if_pos (by omega)]
    by_cases e : i + 1 < L.length
    · rw [if_pos e]; exact h4 i e
    · have : i = L.length - 1 := by omega
      rw [if_neg e, if_pos (by omega), this]
      exact ⟨hu, hlt⟩
  · rw [at_]
    split
    · exact h5 i
    · split
      · have := h5 (L.length - 1); omega
      · simp [sumP]

theorem rel21 (l : List Seg) (size : Int) (hl : l.length ≤ 1000) (hp : sumP l ≤ 100000) (hs : 2 ≤ size) : GRel Try.prog 63 [.slice (segsG l) .none, .int .i64 size] (fun g => ∃ L, g = .slice (levsG L) .none ∧ LevOK size l L) := by
  refine h63.rel mixS (by simp) ?_
  simp only [gstart, s63, List.cons_append, List.nil_append, List.length_cons, List.length_nil, Nat.reduceAdd, Nat.reduceSub, List.replicate_succ, List.replicate_zero]
  simp +contextual -implicitDefEqProofs (maxSteps := 2000000) (disch := omega) only [↓lenV, binV, optV, ↓loadV, ↓indexAddrV, ↓buildSliceV, ↓sliceV, ↓appendV, ↓srcV, bound, cutTag, hiTag, fillE, GVal.cells, grp, GVal.ofConst, ↓resV, resG, List.map, List.headD, List.take, List.drop, ↓reduceIte, Nat.reduceEqDiff, Nat.reduceAdd, Nat.reduceSub, Nat.reduceLeDiff, reduceCtorEq, implies_true, ne_eq, ↓asrcV, Tag.cap, List.replicate, allSolid, GVal.solid, Nat.reduceBEq, Nat.reduceMul, Nat.reduceLT, List.length_map, List.length_range, splice, vcA, ↓vcB, vcC, fbFf, e63]
  refine (spec44 l (by omega) (fun i => by have := sumP_at l i; omega)).then ?_
  simp +contextual -implicitDefEqProofs (maxSteps := 2000000) (disch := omega) only [↓lenV, binV, optV, ↓loadV, ↓indexAddrV, ↓buildSliceV, ↓sliceV, ↓appendV, ↓srcV, bound, cutTag, hiTag, fillE, GVal.cells, grp, GVal.ofConst, ↓resV, resG, List.map, List.headD, List.take, List.drop, ↓reduceIte, Nat.reduceEqDiff, Nat.reduceAdd, Nat.reduceSub, Nat.reduceLeDiff, reduceCtorEq, implies_true, ne_eq, ↓asrcV, Tag.cap, List.replicate, allSolid, GVal.solid, Nat.reduceBEq, Nat.reduceMul, Nat.reduceLT, List.length_map, List.length_range, splice, vcA, ↓vcB, vcC, fbFf, e63]
  refine vcSLoop_by (ι := { p : List (List Seg) × Nat // LevOK size l p.1 }) (fun p => ⟨[.any, .int .i64 size, .any, .any, .any, .slice (levsG p.1.1) (.tok 0 p.1.2)] ++ List.replicate 31 .any, [.tok p.1.2 1]⟩) (fun p => 4 - p.1.1.length) ?_ ?_
  · refine Into.tok 5 1 [[.slice (segsG l) .none]] rfl rfl ?_
    simp +contextual -implicitDefEqProofs (maxSteps := 2000000) (disch := omega) only [↓lenV, binV, optV, ↓loadV, ↓indexAddrV, ↓buildSliceV, ↓sliceV, ↓appendV, ↓srcV, bound, cutTag, hiTag, fillE, GVal.cells, grp, GVal.ofConst, ↓resV, resG, List.map, List.headD, List.take, List.drop, ↓reduceIte, Nat.reduceEqDiff, Nat.reduceAdd, Nat.reduceSub, Nat.reduceLeDiff, reduceCtorEq, implies_true, ne_eq, ↓asrcV, Tag.cap, List.replicate, allSolid, GVal.solid, Nat.reduceBEq, Nat.reduceMul, Nat.reduceLT, List.length_map, List.length_range, splice, vcA, ↓vcB, vcC, fbFf, e63]
    intro t
    exact Into.first ⟨([l], t), by simp, by simp, rfl, fun i hi => by simp at hi, fun i => by
      cases i with
      | zero => exact ⟨hl, hp⟩
      | succ i => simp [List.getD, sumP]⟩ ⟨[], by simp⟩ (by simp [WL, leG_self, leG_any, levsG_one])
  · rintro ⟨⟨L, v⟩, hL⟩
    change LevOK size l L at hL
    have hL' := hL
    obtain ⟨h1, h2, h3, h4, h5⟩ := hL'
    have out : ∃ r, frzTo r (.slice (levsG L) (.tok 0 v)) [.tok v 1] ∧ ∃ L, r = .slice (levsG L) .none ∧ LevOK size l L := ⟨_, ⟨5, _, frz_levs _ 0 _ _, by rw [Tag.frz, leA_slice]⟩, L, rfl, hL⟩
    simp +contextual -implicitDefEqProofs (maxSteps := 2000000) (disch := omega) only [↓lenV, binV, optV, ↓loadV, ↓indexAddrV, ↓buildSliceV, ↓sliceV, ↓appendV, ↓srcV, bound, cutTag, hiTag, fillE, GVal.cells, grp, GVal.ofConst, ↓resV, resG, List.map, List.headD, List.take, List.drop, ↓reduceIte, Nat.reduceEqDiff, Nat.reduceAdd, Nat.reduceSub, Nat.reduceLeDiff, reduceCtorEq, implies_true, ne_eq, ↓asrcV, Tag.cap, List.replicate, allSolid, GVal.solid, Nat.reduceBEq, Nat.reduceMul, Nat.reduceLT, List.length_map, List.length_range, splice, vcA, ↓vcB, vcC, fbFf, e63, levsG_length, levsG_at, toNat_pred]
    refine ⟨fun _ => ⟨fun h6 => ⟨by omega, by omega, ?_⟩, fun _ => out⟩, fun h => absurd hs (by omega)⟩
    have hb := h5 (L.length - 1)
    refine (rel20 (L.getD (L.length - 1) []) size hb.1 hb.2 hs).then ?_
    rintro g ⟨u, rfl, hu⟩
    simp +contextual -implicitDefEqProofs (maxSteps := 2000000) (disch := omega) only [↓lenV, binV, optV, ↓loadV, ↓indexAddrV, ↓buildSliceV, ↓sliceV, ↓appendV, ↓srcV, bound, cutTag, hiTag, fillE, GVal.cells, grp, GVal.ofConst, ↓resV, resG, List.map, List.headD, List.take, List.drop, ↓reduceIte, Nat.reduceEqDiff, Nat.reduceAdd, Nat.reduceSub, Nat.reduceLeDiff, reduceCtorEq, implies_true, ne_eq, ↓asrcV, Tag.cap, List.replicate, allSolid, GVal.solid, Nat.reduceBEq, Nat.reduceMul, Nat.reduceLT, List.length_map, List.length_range, splice, vcA, ↓vcB, vcC, fbFf, e63, segsG_length, all_levsG, levsG_length]
    refine ⟨fun h7 => out, fun h7 => ⟨by omega, by omega, fun w => ?_⟩⟩
    exact Into.at ⟨(L ++ [u], w), hL.more (by omega) hu (by omega)⟩ (by show 4 - (L ++ [u]).length < 4 - L.length; rw [List.length_append]; simp; omega) ⟨[], by simp⟩ (by simp [WL, leG_self, leG_any, leG_int, levsG_append, levsG_one])

end Gv.Try
/- Contracts: levels, exactly. -/
set_option linter.unusedVariables false
set_option linter.unusedSimpArgs false
set_option maxRecDepth 20000
set_option maxHeartbeats 8000000
namespace Gv.Try
open Go Gv Go.Proofs

inductive UpMx (size : Int) : List Seg → List Seg → Prop
  | nil : UpMx size [] []
  | cons (l u : List Seg) (n : Nat) : runOK l size n → (n = 1 ∨ headsN (l.take n) = 1) → (∀ k, n < k → runOK l size k → headsN (l.take k) ≠ 1) → UpMx size (l.drop n) u → UpMx size l (joinI (l.take n) :: u)
theorem UpMx.ok {size : Int} {l u : List Seg} (h : UpMx size l u) : UpOK size l u := by
  induction h with
  | nil => exact .nil
  | cons l u n a b c d ih => exact .cons l u n a b ih
theorem UpMx.uniq {size : Int} {l u v : List Seg} (h : UpMx size l u) (h' : UpMx size l v) : u = v := by
  induction h generalizing v with
  | nil =>
    cases h' with
    | nil => rfl
    | cons l u n a b c d => obtain ⟨a1, a2, a3, a4⟩ := a; simp at a3; omega
  | cons l u n a b c d ih =>
    have a' := a
    obtain ⟨a1, a2, a3, a4⟩ := a'
    cases h' with
    | nil => simp at a3; omega
    | cons l v m a' b' c' d' =>
      have e' := a'
      obtain ⟨q1, q2, q3, q4⟩ := e'
      have hnm : n = m := by
        rcases Nat.lt_trichotomy n m with q | q | q
        · have := c m q a'
          rcases b' with b' | b'
          · omega
          · exact absurd b' this
        · exact q
        · have := c' n q a
          rcases b with b | b
          · omega
          · exact absurd b this
      subst hnm
      rw [ih d']
/-- levels so far -/
def LevGo (size : Int) (l : List Seg) (L : List (List Seg)) : Prop := LevOK size l L ∧ ∀ i, i + 1 < L.length → UpMx size (L.getD i []) (L.getD (i + 1) [])
/-- the levels -/
def LevMx (size : Int) (l : List Seg) (L : List (List Seg)) : Prop := LevOK size l L ∧ (∀ i, i + 1 < L.length → UpMx size (L.getD i []) (L.getD (i + 1) [])) ∧ (L.length = 4 ∨ ∀ u, UpMx size (L.getD (L.length - 1) []) u → (L.getD (L.length - 1) []).length ≤ u.length)
theorem LevGo.more {size : Int} {l : List Seg} {L : List (List Seg)} (h : LevGo size l L) {u : List Seg} (hl : L.length < 4) (hu : UpMx size (L.getD (L.length - 1) []) u) (hlt : u.length < (L.getD (L.length - 1) []).length) : LevGo size l (L ++ [u]) := by
  refine ⟨h.1.more hl hu.ok hlt, fun i hi => ?_⟩
  have h1 := h.1.1
  have at_ : ∀ i, (L ++ [u]).getD i [] = if i < L.length then L.getD i [] else if i = L.length then u else [] := by
    intro i
    split
    · rename_i h; rw [List.getD_eq_getElem?_getD, List.getD_eq_getElem?_getD, List.getElem?_append_left h]
    · split
      · rename_i h; subst h; simp [List.getD]
      · rw [List.getD_eq_getElem?_getD, List.getElem?_eq_none (by simp; omega)]; rfl
  simp at hi
  rw [at_, at_, if_pos (by omega)]
  by_cases e : i + 1 < L.length
  · rw [if_pos e]; exact h.2 i e
  · have : i = L.length - 1 := by omega
    rw [if_neg e, if_pos (by omega), this]
    exact hu
theorem LevMx.at_eq {size : Int} {l : List Seg} {L M : List (List Seg)} (h : LevMx size l L) (h' : LevMx size l M) : ∀ i, i < L.length → i < M.length → L.getD i [] = M.getD i [] := by
  intro i
  induction i with
  | zero => intro _ _; rw [h.1.2.2.1, h'.1.2.2.1]
  | succ i ih =>
    intro a b
    have e := ih (by omega) (by omega)
    have q := h.2.1 i a
    have q' := h'.2.1 i b
    rw [e] at q
    exact q.uniq q'
theorem LevMx.len_le {size : Int} {l : List Seg} {L M : List (List Seg)} (h : LevMx size l L) (h' : LevMx size l M) : M.length ≤ L.length := by
  have p1 := h.1.1
  have p2 := h'.1.2.1
  rcases h.2.2 with e | e
  · omega
  · refine Nat.le_of_not_lt fun hc => ?_
    have q := h'.2.1 (L.length - 1) (by omega)
    have q2 := (h'.1.2.2.2.1 (L.length - 1) (by omega)).2
    rw [← h.at_eq h' (L.length - 1) (by omega) (by omega)] at q q2
    have := e _ q
    omega
theorem LevMx.uniq {size : Int} {l : List Seg} {L M : List (List Seg)} (h : LevMx size l L) (h' : LevMx size l M) : L = M := by
  have e : L.length = M.length := Nat.le_antisymm (h'.len_le h) (h.len_le h')
  refine List.ext_getElem e fun i a b => ?_
  have := h.at_eq h' i a b
  simpa [List.getD, a, b] using this

theorem rel42x (l : List Seg) (size : Int) (t : Tag) (hl : l.length ≤ 17592186044416) (h0 : l ≠ []) (hs : 2 ≤ size) : GRel Try.prog 96 [.slice (segsG l) t, .int .i64 size] (fun g => ∃ n, g = .int .i64 (n : Nat) ∧ runOK l size n ∧ ∀ k, runOK l size k → k ≤ n) := by
  have hpos : 0 < l.length := List.length_pos_iff.2 h0
  refine h96.rel mixS (by simp) ?_
  simp only [gstart, s96, List.cons_append, List.nil_append, List.length_cons, List.length_nil, Nat.reduceAdd, Nat.reduceSub, List.replicate_succ, List.replicate_zero]
  simp +contextual -implicitDefEqProofs (maxSteps := 2000000) (disch := omega) only [drawC, ↓lenV, binV, ↓loadV, ↓fieldAddrV, ↓indexAddrV, ↓minV, GVal.cells, grp, GVal.ofConst, ↓resV, resG, List.map, List.headD, List.take, List.drop, ↓reduceIte, Nat.reduceEqDiff, Nat.reduceAdd, Nat.reduceSub, Nat.reduceLeDiff, reduceCtorEq, implies_true, ne_eq, aggV, Tag.cap, List.replicate, allSolid, GVal.solid, Nat.reduceBEq, Nat.reduceMul, Nat.reduceLT, List.length_map, List.length_range, splice, vcA, ↓vcB, vcC, fbFf, e96, segsG_length]
  refine vcSLoop_by (ι := { n : Nat // runOK l size n }) (fun n => ⟨[.slice (segsG l) t, .int .i64 size, .any, .any, .any, .int .i64 (n.1 : Nat)] ++ List.replicate 23 .any, []⟩) (fun n => l.length - n.1) ?_ ?_
  · exact Into.first ⟨1, by omega, by omega, by omega, fun i hi => by rw [show i = 0 by omega]; simp [sameG]⟩ ⟨[], by simp⟩ (by simp [WL, leG_self, leG_any])
  · rintro ⟨n, hn⟩
    have hn' := hn
    obtain ⟨n1, n2, n3, n4⟩ := hn
    have out : (∀ k, runOK l size k → k ≤ n) → ∃ r, frzTo r (.int .i64 (n : Nat)) [] ∧ ∃ n, r = .int .i64 (n : Nat) ∧ runOK l size n ∧ ∀ k, runOK l size k → k ≤ n := fun hm => ⟨_, ⟨1, _, rfl, by rw [leA_int]; exact ⟨rfl, rfl⟩⟩, n, rfl, hn', hm⟩
    have stop1 : ¬ ((n : Int) < min (l.length : Int) size) → ∀ k, runOK l size k → k ≤ n := fun h1 k hk => by
      obtain ⟨k1, k2, k3, k4⟩ := hk
      omega
    have stop2 : sameG (l.getD n default) (l.getD 0 default) = false → ∀ k, runOK l size k → k ≤ n := fun h1 k hk => by
      obtain ⟨k1, k2, k3, k4⟩ := hk
      by_cases e : k ≤ n
      · exact e
      · have := k4 n (by omega)
        rw [h1] at this; cases this
    have more : (n : Int) < min (l.length : Int) size → sameG (l.getD n default) (l.getD 0 default) = true → runOK l size (n + 1) := fun h1 h2 => by
      refine ⟨by omega, by omega, by omega, fun i hi => ?_⟩
      by_cases e : i = n
      · rw [e]; exact h2
      · exact n4 i (by omega)
    simp +contextual -implicitDefEqProofs (maxSteps := 2000000) (disch := omega) only [drawC, ↓lenV, binV, ↓loadV, ↓fieldAddrV, ↓indexAddrV, ↓minV, GVal.cells, grp, GVal.ofConst, ↓resV, resG, List.map, List.headD, List.take, List.drop, ↓reduceIte, Nat.reduceEqDiff, Nat.reduceAdd, Nat.reduceSub, Nat.reduceLeDiff, reduceCtorEq, implies_true, ne_eq, aggV, Tag.cap, List.replicate, allSolid, GVal.solid, Nat.reduceBEq, Nat.reduceMul, Nat.reduceLT, List.length_map, List.length_range, splice, vcA, ↓vcB, vcC, fbFf, e96, segsG_length, segsG_at, segG, Int.toNat_zero]
    refine ⟨fun h1 => ⟨by omega, by omega, by omega, by omega, fun h2 => ⟨fun h3 => ?_, fun h3 => out (stop2 (by unfold sameG; rw [decide_eq_true h2, decide_eq_false (by omega)]; rfl))⟩, fun h2 => ⟨fun h3 => out (stop2 (by unfold sameG; rw [decide_eq_false (by omega), decide_eq_true h3]; rfl)), fun h3 => ?_⟩⟩, fun h1 => out (stop1 (by omega))⟩
    · exact Into.at ⟨n + 1, more h1 (by unfold sameG; rw [decide_eq_true h2, decide_eq_true h3]; rfl)⟩ (by show _ < _; simp; omega) ⟨[], by simp⟩ (by simp [WL, leG_self, leG_any, leG_int])
    · exact Into.at ⟨n + 1, more h1 (by unfold sameG; rw [decide_eq_false (by omega), decide_eq_false (by omega)]; rfl)⟩ (by show _ < _; simp; omega) ⟨[], by simp⟩ (by simp [WL, leG_self, leG_any, leG_int])


theorem rel20x (l : List Seg) (size : Int) (hl : l.length ≤ 1000) (hp : sumP l ≤ 100000) (hs : 2 ≤ size) : GRel Try.prog 85 [.slice (segsG l) .none, .int .i64 size] (fun g => ∃ u, g = .slice (segsG u) .none ∧ UpMx size l u) := by
  refine h85.rel mixS (by simp) ?_
  simp only [gstart, s85, List.cons_append, List.nil_append, List.length_cons, List.length_nil, Nat.reduceAdd, Nat.reduceSub, List.replicate_succ, List.replicate_zero]
  simp +contextual -implicitDefEqProofs (maxSteps := 2000000) (disch := omega) only [↓lenV, binV, optV, ↓buildSliceV, ↓sliceV, ↓appendV, ↓srcV, bound, cutTag, hiTag, fillE, GVal.cells, grp, GVal.ofConst, ↓resV, resG, List.map, List.headD, List.take, List.drop, ↓reduceIte, Nat.reduceEqDiff, Nat.reduceAdd, Nat.reduceSub, Nat.reduceLeDiff, reduceCtorEq, implies_true, ne_eq, ↓asrcV, aggV, Tag.cap, List.replicate, allSolid, GVal.solid, Nat.reduceBEq, Nat.reduceMul, Nat.reduceLT, List.length_map, List.length_range, splice, vcA, ↓vcB, vcC, fbFf, e85]
  refine ⟨fun h => absurd h (by omega), fun _ => ?_⟩
  refine vcSLoop_by (ι := { p : List Seg × List Seg × Nat // (∀ u, UpMx size p.2.1 u → UpMx size l (p.1 ++ u)) ∧ p.1.length + p.2.1.length ≤ l.length ∧ sumP p.2.1 ≤ 100000 }) (fun p => ⟨[.slice (segsG p.1.2.1) .none, .int .i64 size, .any, .any, .any, .slice (segsG p.1.1) (.tok 0 p.1.2.2)] ++ List.replicate 31 .any, [.tok p.1.2.2 5]⟩) (fun p => p.1.2.1.length) ?_ ?_
  · refine Into.tok 5 5 [] rfl rfl ?_
    simp +contextual -implicitDefEqProofs (maxSteps := 2000000) (disch := omega) only [↓lenV, binV, optV, ↓buildSliceV, ↓sliceV, ↓appendV, ↓srcV, bound, cutTag, hiTag, fillE, GVal.cells, grp, GVal.ofConst, ↓resV, resG, List.map, List.headD, List.take, List.drop, ↓reduceIte, Nat.reduceEqDiff, Nat.reduceAdd, Nat.reduceSub, Nat.reduceLeDiff, reduceCtorEq, implies_true, ne_eq, ↓asrcV, aggV, Tag.cap, List.replicate, allSolid, GVal.solid, Nat.reduceBEq, Nat.reduceMul, Nat.reduceLT, List.length_map, List.length_range, splice, vcA, ↓vcB, vcC, fbFf, e85]
    intro t
    exact Into.first ⟨([], l, t), fun u h => h, by simp, hp⟩ ⟨[], by simp⟩ (by simp [WL, leG_self, leG_any, segsG_nil])
  · rintro ⟨⟨out, rest, v⟩, h1, h2, h3⟩
    change ∀ u, UpMx size rest u → UpMx size l (out ++ u) at h1
    change out.length + rest.length ≤ l.length at h2
    change sumP rest ≤ 100000 at h3
    simp +contextual -implicitDefEqProofs (maxSteps := 2000000) (disch := omega) only [↓lenV, binV, optV, ↓buildSliceV, ↓sliceV, ↓appendV, ↓srcV, bound, cutTag, hiTag, fillE, GVal.cells, grp, GVal.ofConst, ↓resV, resG, List.map, List.headD, List.take, List.drop, ↓reduceIte, Nat.reduceEqDiff, Nat.reduceAdd, Nat.reduceSub, Nat.reduceLeDiff, reduceCtorEq, implies_true, ne_eq, ↓asrcV, aggV, Tag.cap, List.replicate, allSolid, GVal.solid, Nat.reduceBEq, Nat.reduceMul, Nat.reduceLT, List.length_map, List.length_range, splice, vcA, ↓vcB, vcC, fbFf, e85, segsG_length]
    refine ⟨fun h => ?_, fun h => ?_⟩
    · have hne : rest ≠ [] := fun e => by subst e; simp at h
      refine (rel42x rest size .none (by omega) hne hs).then ?_
      rintro g ⟨n0, rfl, hn0, hm0⟩
      simp +contextual -implicitDefEqProofs (maxSteps := 2000000) (disch := omega) only [↓lenV, binV, optV, ↓buildSliceV, ↓sliceV, ↓appendV, ↓srcV, bound, cutTag, hiTag, fillE, GVal.cells, grp, GVal.ofConst, ↓resV, resG, List.map, List.headD, List.take, List.drop, ↓reduceIte, Nat.reduceEqDiff, Nat.reduceAdd, Nat.reduceSub, Nat.reduceLeDiff, reduceCtorEq, implies_true, ne_eq, ↓asrcV, aggV, Tag.cap, List.replicate, allSolid, GVal.solid, Nat.reduceBEq, Nat.reduceMul, Nat.reduceLT, List.length_map, List.length_range, splice, vcA, ↓vcB, vcC, fbFf, e85]
      refine vcSLoop_by (ι := { n : Nat // runOK rest size n ∧ ∀ k, n < k → runOK rest size k → headsN (rest.take k) ≠ 1 }) (fun n => ⟨[.slice (segsG rest) .none, .int .i64 size, .any, .any, .any, .slice (segsG out) (.tok 0 v), .int .i64 (n.1 : Nat)] ++ List.replicate 30 .any, [.tok v 5]⟩) (fun n => n.1) ?_ ?_
      · exact Into.first ⟨n0, hn0, fun k a b => absurd (hm0 k b) (by omega)⟩ ⟨[], by simp⟩ (by simp [WL, leG_self, leG_any])
      · rintro ⟨n, hn, hmx⟩
        have hn' := hn
        obtain ⟨n1, n2, n3, n4⟩ := hn'
        have hF : (segsG rest).take rest.length = segsG rest := List.take_of_length_le (by rw [segsG_length]; omega)
        have hlen : (rest.take n).length = n := by rw [List.length_take]; omega
        simp +contextual -implicitDefEqProofs (maxSteps := 2000000) (disch := omega) only [↓lenV, binV, optV, ↓buildSliceV, ↓sliceV, ↓appendV, ↓srcV, bound, cutTag, hiTag, fillE, GVal.cells, grp, GVal.ofConst, ↓resV, resG, List.map, List.headD, List.take, List.drop, ↓reduceIte, Nat.reduceEqDiff, Nat.reduceAdd, Nat.reduceSub, Nat.reduceLeDiff, reduceCtorEq, implies_true, ne_eq, ↓asrcV, aggV, Tag.cap, List.replicate, allSolid, GVal.solid, Nat.reduceBEq, Nat.reduceMul, Nat.reduceLT, List.length_map, List.length_range, splice, vcA, ↓vcB, vcC, fbFf, e85, segsG_length, segsG_take, Int.toNat_zero, all_segsG]
        refine ⟨fun h4 => ⟨by omega, by omega, by omega, ?_⟩, fun h4 => ⟨by omega, by omega, by omega, ?_⟩⟩
        · refine (spec23 (rest.take n) (by omega) (fun i => by have := sumP_at (rest.take n) i; have := sumP_take rest n; omega)).then ?_
          by_cases h5 : headsN (rest.take n) = 1
          · have h6 : ((headsN (rest.take n) : Nat) : Int) = 1 := by omega
            simp +contextual -implicitDefEqProofs (maxSteps := 2000000) (disch := omega) only [↓lenV, binV, optV, ↓buildSliceV, ↓sliceV, ↓appendV, ↓srcV, bound, cutTag, hiTag, fillE, GVal.cells, grp, GVal.ofConst, ↓resV, resG, List.map, List.headD, List.take, List.drop, ↓reduceIte, Nat.reduceEqDiff, Nat.reduceAdd, Nat.reduceSub, Nat.reduceLeDiff, reduceCtorEq, implies_true, ne_eq, ↓asrcV, aggV, Tag.cap, List.replicate, allSolid, GVal.solid, Nat.reduceBEq, Nat.reduceMul, Nat.reduceLT, List.length_map, List.length_range, splice, vcA, ↓vcB, vcC, fbFf, e85, segsG_length, segsG_take, Int.toNat_zero, all_segsG]
            refine ⟨fun h7 => absurd h6 h7, fun _ => ⟨by omega, by omega, by omega, ?_⟩⟩
            refine (spec43 (rest.take n) (by rw [List.length_take]; omega) (fun e => by rw [e] at hlen; simp at hlen; omega) (by have := sumP_take rest n; omega)).then ?_
            simp +contextual -implicitDefEqProofs (maxSteps := 2000000) (disch := omega) only [↓lenV, binV, optV, ↓buildSliceV, ↓sliceV, ↓appendV, ↓srcV, bound, cutTag, hiTag, fillE, GVal.cells, grp, GVal.ofConst, ↓resV, resG, List.map, List.headD, List.take, List.drop, ↓reduceIte, Nat.reduceEqDiff, Nat.reduceAdd, Nat.reduceSub, Nat.reduceLeDiff, reduceCtorEq, implies_true, ne_eq, ↓asrcV, aggV, Tag.cap, List.replicate, allSolid, GVal.solid, Nat.reduceBEq, Nat.reduceMul, Nat.reduceLT, List.length_map, List.length_range, splice, vcA, ↓vcB, vcC, fbFf, e85, segsG_length, segsG_drop, all_segsG, segG, hF]
            refine ⟨by omega, by omega, fun w => ⟨by omega, by omega, by omega, ?_⟩⟩
            refine Into.at ⟨(out ++ [joinI (rest.take n)], rest.drop n, w), fun u hu => ?_, ?_, ?_⟩ ?_ ⟨[], by simp⟩ ?_
            · show UpMx size l (out ++ [joinI (rest.take n)] ++ u)
              rw [List.append_assoc]
              exact h1 _ (.cons rest u n hn (.inr h5) hmx hu)
            · show (out ++ [joinI (rest.take n)]).length + (rest.drop n).length ≤ l.length
              rw [List.length_append, List.length_drop]; simp; omega
            · show sumP (rest.drop n) ≤ 100000
              have := sumP_drop rest n; omega
            · show (rest.drop n).length < rest.length
              rw [List.length_drop]; omega
            · simp [WL, leG_self, leG_any, leG_int, segsG_append, segsG_one, segG]

          · have h6 : ((headsN (rest.take n) : Nat) : Int) ≠ 1 := by omega
            have down : ∀ k, n - 1 < k → runOK rest size k → headsN (rest.take k) ≠ 1 := fun k hk hr => by
              by_cases e : k = n
              · rw [e]; exact h5
              · exact hmx k (by omega) hr
            simp +contextual -implicitDefEqProofs (maxSteps := 2000000) (disch := omega) only [↓lenV, binV, optV, ↓buildSliceV, ↓sliceV, ↓appendV, ↓srcV, bound, cutTag, hiTag, fillE, GVal.cells, grp, GVal.ofConst, ↓resV, resG, List.map, List.headD, List.take, List.drop, ↓reduceIte, Nat.reduceEqDiff, Nat.reduceAdd, Nat.reduceSub, Nat.reduceLeDiff, reduceCtorEq, implies_true, ne_eq, ↓asrcV, aggV, Tag.cap, List.replicate, allSolid, GVal.solid, Nat.reduceBEq, Nat.reduceMul, Nat.reduceLT, List.length_map, List.length_range, splice, vcA, ↓vcB, vcC, fbFf, e85, segsG_length]
            refine ⟨fun _ => ?_, fun h7 => absurd h7 h6⟩
            exact Into.at ⟨n - 1, hn.down (by omega) (by omega), down⟩ (by show n - 1 < n; omega) ⟨[], by simp⟩ (by simp [WL, leG_self, leG_any, leG_int] <;> omega)
        · skip
          refine (spec43 (rest.take n) (by rw [List.length_take]; omega) (fun e => by rw [e] at hlen; simp at hlen; omega) (by have := sumP_take rest n; omega)).then ?_
          simp +contextual -implicitDefEqProofs (maxSteps := 2000000) (disch := omega) only [↓lenV, binV, optV, ↓buildSliceV, ↓sliceV, ↓appendV, ↓srcV, bound, cutTag, hiTag, fillE, GVal.cells, grp, GVal.ofConst, ↓resV, resG, List.map, List.headD, List.take, List.drop, ↓reduceIte, Nat.reduceEqDiff, Nat.reduceAdd, Nat.reduceSub, Nat.reduceLeDiff, reduceCtorEq, implies_true, ne_eq, ↓asrcV, aggV, Tag.cap, List.replicate, allSolid, GVal.solid, Nat.reduceBEq, Nat.reduceMul, Nat.reduceLT, List.length_map, List.length_range, splice, vcA, ↓vcB, vcC, fbFf, e85, segsG_length, segsG_drop, all_segsG, segG, hF]
          refine ⟨by omega, by omega, fun w => ⟨by omega, by omega, by omega, ?_⟩⟩
          refine Into.at ⟨(out ++ [joinI (rest.take n)], rest.drop n, w), fun u hu => ?_, ?_, ?_⟩ ?_ ⟨[], by simp⟩ ?_
          · show UpMx size l (out ++ [joinI (rest.take n)] ++ u)
            rw [List.append_assoc]
            exact h1 _ (.cons rest u n hn (.inl (by omega)) hmx hu)
          · show (out ++ [joinI (rest.take n)]).length + (rest.drop n).length ≤ l.length
            rw [List.length_append, List.length_drop]; simp; omega
          · show sumP (rest.drop n) ≤ 100000
            have := sumP_drop rest n; omega
          · show (rest.drop n).length < rest.length
            rw [List.length_drop]; omega
          · simp [WL, leG_self, leG_any, leG_int, segsG_append, segsG_one, segG]
    · have e : rest = [] := List.length_eq_zero_iff.1 (by omega)
      subst e
      have := h1 [] .nil
      rw [List.append_nil] at this
      exact ⟨_, ⟨3, _, frz_segsS _ 0 _ _, by rw [Tag.frz, leA_slice]⟩, out, rfl, this⟩


theorem rel21x (l : List Seg) (size : Int) (hl : l.length ≤ 1000) (hp : sumP l ≤ 100000) (hs : 2 ≤ size) : GRel Try.prog 63 [.slice (segsG l) .none, .int .i64 size] (fun g => ∃ L, g = .slice (levsG L) .none ∧ LevMx size l L) := by
  refine h63.rel mixS (by simp) ?_
  simp only [gstart, s63, List.cons_append, List.nil_append, List.length_cons, List.length_nil, Nat.reduceAdd, Nat.reduceSub, List.replicate_succ, List.replicate_zero]
  simp +contextual -implicitDefEqProofs (maxSteps := 2000000) (disch := omega) only [↓lenV, binV, optV, ↓loadV, ↓indexAddrV, ↓buildSliceV, ↓sliceV, ↓appendV, ↓srcV, bound, cutTag, hiTag, fillE, GVal.cells, grp, GVal.ofConst, ↓resV, resG, List.map, List.headD, List.take, List.drop, ↓reduceIte, Nat.reduceEqDiff, Nat.reduceAdd, Nat.reduceSub, Nat.reduceLeDiff, reduceCtorEq, implies_true, ne_eq, ↓asrcV, Tag.cap, List.replicate, allSolid, GVal.solid, Nat.reduceBEq, Nat.reduceMul, Nat.reduceLT, List.length_map, List.length_range, splice, vcA, ↓vcB, vcC, fbFf, e63]
  refine (spec44 l (by omega) (fun i => by have := sumP_at l i; omega)).then ?_
  simp +contextual -implicitDefEqProofs (maxSteps := 2000000) (disch := omega) only [↓lenV, binV, optV, ↓loadV, ↓indexAddrV, ↓buildSliceV, ↓sliceV, ↓appendV, ↓srcV, bound, cutTag, hiTag, fillE, GVal.cells, grp, GVal.ofConst, ↓resV, resG, List.map, List.headD, List.take, List.drop, ↓reduceIte, Nat.reduceEqDiff, Nat.reduceAdd, Nat.reduceSub, Nat.reduceLeDiff, reduceCtorEq, implies_true, ne_eq, ↓asrcV, Tag.cap, List.replicate, allSolid, GVal.solid, Nat.reduceBEq, Nat.reduceMul, Nat.reduceLT, List.length_map, List.length_range, splice, vcA, ↓vcB, vcC, fbFf, e63]
  refine vcSLoop_by (ι := { p : List (List Seg) × Nat // LevGo size l p.1 }) (fun p => ⟨[.any, .int .i64 size, .any, .any, .any, .slice (levsG p.1.1) (.tok 0 p.1.2)] ++ List.replicate 31 .any, [.tok p.1.2 1]⟩) (fun p => 4 - p.1.1.length) ?_ ?_
  · refine Into.tok 5 1 [[.slice (segsG l) .none]] rfl rfl ?_
    simp +contextual -implicitDefEqProofs (maxSteps := 2000000) (disch := omega) only [↓lenV, binV, optV, ↓loadV, ↓indexAddrV, ↓buildSliceV, ↓sliceV, ↓appendV, ↓srcV, bound, cutTag, hiTag, fillE, GVal.cells, grp, GVal.ofConst, ↓resV, resG, List.map, List.headD, List.take, List.drop, ↓reduceIte, Nat.reduceEqDiff, Nat.reduceAdd, Nat.reduceSub, Nat.reduceLeDiff, reduceCtorEq, implies_true, ne_eq, ↓asrcV, Tag.cap, List.replicate, allSolid, GVal.solid, Nat.reduceBEq, Nat.reduceMul, Nat.reduceLT, List.length_map, List.length_range, splice, vcA, ↓vcB, vcC, fbFf, e63]
    intro t
    exact Into.first ⟨([l], t), ⟨by simp, by simp, rfl, fun i hi => by simp at hi, fun i => by
      cases i with
      | zero => exact ⟨hl, hp⟩
      | succ i => simp [List.getD, sumP]⟩, fun i hi => by simp at hi⟩ ⟨[], by simp⟩ (by simp [WL, leG_self, leG_any, levsG_one])
  · rintro ⟨⟨L, v⟩, hL⟩
    change LevGo size l L at hL
    have hL' := hL
    obtain ⟨⟨h1, h2, h3, h4, h5⟩, hup⟩ := hL'
    have out : (L.length = 4 ∨ ∀ u, UpMx size (L.getD (L.length - 1) []) u → (L.getD (L.length - 1) []).length ≤ u.length) → ∃ r, frzTo r (.slice (levsG L) (.tok 0 v)) [.tok v 1] ∧ ∃ L, r = .slice (levsG L) .none ∧ LevMx size l L := fun hs => ⟨_, ⟨5, _, frz_levs _ 0 _ _, by rw [Tag.frz, leA_slice]⟩, L, rfl, hL.1, hL.2, hs⟩
    simp +contextual -implicitDefEqProofs (maxSteps := 2000000) (disch := omega) only [↓lenV, binV, optV, ↓loadV, ↓indexAddrV, ↓buildSliceV, ↓sliceV, ↓appendV, ↓srcV, bound, cutTag, hiTag, fillE, GVal.cells, grp, GVal.ofConst, ↓resV, resG, List.map, List.headD, List.take, List.drop, ↓reduceIte, Nat.reduceEqDiff, Nat.reduceAdd, Nat.reduceSub, Nat.reduceLeDiff, reduceCtorEq, implies_true, ne_eq, ↓asrcV, Tag.cap, List.replicate, allSolid, GVal.solid, Nat.reduceBEq, Nat.reduceMul, Nat.reduceLT, List.length_map, List.length_range, splice, vcA, ↓vcB, vcC, fbFf, e63, levsG_length, levsG_at, toNat_pred]
    refine ⟨fun _ => ⟨fun h6 => ⟨by omega, by omega, ?_⟩, fun _ => out (.inl (by omega))⟩, fun h => absurd hs (by omega)⟩
    have hb := h5 (L.length - 1)
    refine (rel20x (L.getD (L.length - 1) []) size hb.1 hb.2 hs).then ?_
    rintro g ⟨u, rfl, hu⟩
    simp +contextual -implicitDefEqProofs (maxSteps := 2000000) (disch := omega) only [↓lenV, binV, optV, ↓loadV, ↓indexAddrV, ↓buildSliceV, ↓sliceV, ↓appendV, ↓srcV, bound, cutTag, hiTag, fillE, GVal.cells, grp, GVal.ofConst, ↓resV, resG, List.map, List.headD, List.take, List.drop, ↓reduceIte, Nat.reduceEqDiff, Nat.reduceAdd, Nat.reduceSub, Nat.reduceLeDiff, reduceCtorEq, implies_true, ne_eq, ↓asrcV, Tag.cap, List.replicate, allSolid, GVal.solid, Nat.reduceBEq, Nat.reduceMul, Nat.reduceLT, List.length_map, List.length_range, splice, vcA, ↓vcB, vcC, fbFf, e63, segsG_length, all_levsG, levsG_length]
    refine ⟨fun h7 => out (.inr fun u2 h8 => by rw [h8.uniq hu]; omega), fun h7 => ⟨by omega, by omega, fun w => ?_⟩⟩
    exact Into.at ⟨(L ++ [u], w), hL.more (by omega) hu (by omega)⟩ (by show 4 - (L ++ [u]).length < 4 - L.length; rw [List.length_append]; simp; omega) ⟨[], by simp⟩ (by simp [WL, leG_self, leG_any, leG_int, levsG_append, levsG_one])


end Gv.Try
/- Contracts: the reference's levels. -/
set_option linter.unusedVariables false
set_option linter.unusedSimpArgs false
set_option maxRecDepth 20000
set_option maxHeartbeats 8000000
namespace Gv.Try
open Go Gv Go.Proofs
theorem anyP_drop (h : Int) (l : List Seg) (k : Nat) (hk : k < l.length) : anyP h (l.drop k) = (decide (h ∈ (l.getD k default).par) || anyP h (l.drop (k + 1))) := by
  rw [List.drop_eq_getElem_cons hk, anyP, List.any_cons]; simp [List.getD, hk, anyP]
theorem refHeads (l : List Seg) (hl : l.length ≤ 1000000) (hp : ∀ i, (l.getD i default).par.length ≤ 17592186044416) : GPure Try.prog 67 [.slice (segsG l) .none] (.int .i64 (headsN l)) := by
  refine h67.pure mixS (by simp) ?_
  simp only [gstart, s67, List.cons_append, List.nil_append, List.length_cons, List.length_nil, Nat.reduceAdd, Nat.reduceSub, List.replicate_succ, List.replicate_zero]
  simp +contextual -implicitDefEqProofs (maxSteps := 2000000) (disch := omega) only [drawC, ↓lenV, binV, ↓loadV, ↓fieldAddrV, ↓indexAddrV, GVal.cells, grp, GVal.ofConst, ↓resV, resG, List.map, List.headD, List.take, List.drop, ↓reduceIte, Nat.reduceEqDiff, Nat.reduceAdd, Nat.reduceSub, Nat.reduceLeDiff, reduceCtorEq, implies_true, ne_eq, Tag.cap, List.replicate, allSolid, GVal.solid, Nat.reduceBEq, Nat.reduceMul, Nat.reduceLT, List.length_map, List.length_range, splice, vcA, ↓vcB, vcC, fbFf, e67, segsG_length]
  refine vcSLoop_by (ι := { p : Nat × Nat // p.1 ≤ l.length ∧ p.2 ≤ p.1 ∧ headsN l = p.2 + headsN (l.drop p.1) }) (fun p => ⟨[.slice (segsG l) .none, .any, .any, .int .i64 (p.1.2 : Nat), .int .i64 (p.1.1 : Nat)] ++ List.replicate 31 .any, []⟩) (fun p => l.length - p.1.1) ?_ ?_
  · exact Into.first ⟨(0, 0), by omega, by omega, by simp⟩ ⟨[], by simp⟩ (by simp [WL, leG_self, leG_any])
  · rintro ⟨⟨k, n⟩, hk, hn, hx⟩
    change k ≤ l.length at hk
    change n ≤ k at hn
    change headsN l = n + headsN (l.drop k) at hx
    simp +contextual -implicitDefEqProofs (maxSteps := 2000000) (disch := omega) only [drawC, ↓lenV, binV, ↓loadV, ↓fieldAddrV, ↓indexAddrV, GVal.cells, grp, GVal.ofConst, ↓resV, resG, List.map, List.headD, List.take, List.drop, ↓reduceIte, Nat.reduceEqDiff, Nat.reduceAdd, Nat.reduceSub, Nat.reduceLeDiff, reduceCtorEq, implies_true, ne_eq, Tag.cap, List.replicate, allSolid, GVal.solid, Nat.reduceBEq, Nat.reduceMul, Nat.reduceLT, List.length_map, List.length_range, splice, vcA, ↓vcB, vcC, fbFf, e67, segsG_length]
    refine ⟨fun h => ?_, fun h => ?_⟩
    · have hkl : k < l.length := by omega
      rw [headsN_drop l k hkl] at hx
      refine vcSLoop_by (ι := { p : Nat × Nat // k < p.1 ∧ p.1 ≤ l.length ∧ p.2 ≤ 1 ∧ (if anyP (l.getD k default).hi (l.drop (k + 1)) = true then 0 else 1) = (if anyP (l.getD k default).hi (l.drop p.1) = true then 0 else p.2) }) (fun p => ⟨[.slice (segsG l) .none, .any, .any, .int .i64 (n : Nat), .int .i64 (k : Nat), .int .i64 (p.1.2 : Nat), .int .i64 (p.1.1 : Nat)] ++ List.replicate 29 .any, []⟩) (fun p => l.length - p.1.1) ?_ ?_
      · exact Into.first ⟨(k + 1, 1), by omega, by omega, by omega, rfl⟩ ⟨[], by simp⟩ (by simp [WL, leG_self, leG_any])
      · rintro ⟨⟨j, b⟩, hj1, hj2, hb, hy⟩
        change k < j at hj1
        change j ≤ l.length at hj2
        change b ≤ 1 at hb
        change _ = (if anyP (l.getD k default).hi (l.drop j) = true then 0 else b) at hy
        have hT : ((j : Int)).toNat = j := by omega
        simp +contextual -implicitDefEqProofs (maxSteps := 2000000) (disch := omega) only [drawC, ↓lenV, binV, ↓loadV, ↓fieldAddrV, ↓indexAddrV, GVal.cells, grp, GVal.ofConst, ↓resV, resG, List.map, List.headD, List.take, List.drop, ↓reduceIte, Nat.reduceEqDiff, Nat.reduceAdd, Nat.reduceSub, Nat.reduceLeDiff, reduceCtorEq, implies_true, ne_eq, Tag.cap, List.replicate, allSolid, GVal.solid, Nat.reduceBEq, Nat.reduceMul, Nat.reduceLT, List.length_map, List.length_range, splice, vcA, ↓vcB, vcC, fbFf, e67, segsG_length, segsG_at, segG, hT]
        refine ⟨fun h2 => ⟨by omega, by omega, by omega, ?_⟩, fun h2 => ?_⟩
        · have hjl : j < l.length := by omega
          rw [anyP_drop _ l j hjl] at hy
          have c62 := spec62 (l.getD j default).par .none (l.getD k default).hi (hp j)
          by_cases hm : (l.getD k default).hi ∈ (l.getD j default).par
          · rw [decide_eq_true hm, Bool.true_or, if_pos rfl] at hy
            rw [decide_eq_true hm] at c62
            refine c62.then ?_
            simp +contextual -implicitDefEqProofs (maxSteps := 2000000) (disch := omega) only [drawC, ↓lenV, binV, ↓loadV, ↓fieldAddrV, ↓indexAddrV, GVal.cells, grp, GVal.ofConst, ↓resV, resG, List.map, List.headD, List.take, List.drop, ↓reduceIte, Nat.reduceEqDiff, Nat.reduceAdd, Nat.reduceSub, Nat.reduceLeDiff, reduceCtorEq, implies_true, ne_eq, Tag.cap, List.replicate, allSolid, GVal.solid, Nat.reduceBEq, Nat.reduceMul, Nat.reduceLT, List.length_map, List.length_range, splice, vcA, ↓vcB, vcC, fbFf, e67]
            exact Into.at ⟨(j + 1, 0), by show k < j + 1; omega, by show j + 1 ≤ _; omega, by show 0 ≤ 1; omega, by show _ = (if anyP (l.getD k default).hi (l.drop (j + 1)) = true then 0 else 0); rw [hy]; split <;> rfl⟩ (by show _ < _; simp; omega) ⟨[], by simp⟩ (by simp [WL, leG_self, leG_any, leG_int])
          · rw [decide_eq_false hm, Bool.false_or] at hy
            rw [decide_eq_false hm] at c62
            refine c62.then ?_
            simp +contextual -implicitDefEqProofs (maxSteps := 2000000) (disch := omega) only [drawC, ↓lenV, binV, ↓loadV, ↓fieldAddrV, ↓indexAddrV, GVal.cells, grp, GVal.ofConst, ↓resV, resG, List.map, List.headD, List.take, List.drop, ↓reduceIte, Nat.reduceEqDiff, Nat.reduceAdd, Nat.reduceSub, Nat.reduceLeDiff, reduceCtorEq, implies_true, ne_eq, Tag.cap, List.replicate, allSolid, GVal.solid, Nat.reduceBEq, Nat.reduceMul, Nat.reduceLT, List.length_map, List.length_range, splice, vcA, ↓vcB, vcC, fbFf, e67]
            exact Into.at ⟨(j + 1, b), by show k < j + 1; omega, by show j + 1 ≤ _; omega, hb, hy⟩ (by show _ < _; simp; omega) ⟨[], by simp⟩ (by simp [WL, leG_self, leG_any, leG_int])
        · have e : j = l.length := by omega
          rw [e, List.drop_eq_nil_of_le (Nat.le_refl _)] at hy
          have e2 : anyP (l.getD k default).hi [] = false := rfl
          rw [e2] at hy
          change _ = b at hy
          exact Into.at ⟨(k + 1, n + b), by show k + 1 ≤ _; omega, by show n + b ≤ k + 1; omega, by show _ = n + b + headsN (l.drop (k + 1)); omega⟩ (by show _ < _; simp; omega) ⟨[], by simp⟩ (by simp [WL, leG_self, leG_any, leG_int])
    · rw [List.drop_eq_nil_of_le (by omega)] at hx
      simp [headsN] at hx
      rw [hx]
end Gv.Try
/- A call that is handed rows of the caller's to read: for the call they are plain lists; behind it they are rows again. What it makes lies behind them. -/
set_option linter.unusedVariables false
namespace Gv
open Go
/-- of such a value nothing is said that lies in memory -/
def plainG : GVal → Bool
  | .any => true
  | .bool _ => true
  | .ubool => true
  | .int _ _ => true
  | .str _ => true
  | .lit _ => true
  | .own _ _ _ _ => true
  | .slice [] .none => true
  | _ => false
theorem VR.plain {E F : Env} {v : Value} {g : GVal} (hl : ∀ s l, E.loc s = some l → F.loc s = some l) (h : VR E v g) (hg : plainG g = true) : VR F v g := by
  cases h with
  | any v => exact .any v
  | bool b => exact .bool b
  | ubool b => exact .ubool b
  | int k n => exact .int k n
  | str s => exact .str s
  | lit v => exact .lit v
  | own a len cap o st i l h1 hcap ha => exact .own a len cap o st i l (hl _ _ h1) hcap ha
  | slice a len cap xs tag sz c hlen hcap hsz ha hc ht =>
    cases xs with
    | cons x r => cases hg
    | nil => cases tag with
      | none => exact .slice a len cap [] .none sz c hlen hcap hsz (fun h => absurd rfl h) (fun j g hj => by simp at hj) trivial
      | _ => cases hg
  | _ => cases hg
def GObj.flat : GObj → Bool
  | .row _ _ xs => xs.all fun r => r.all plainG
  | .dead => true
  | _ => false
/-- the same value, its row so many places on -/
def GVal.shift (k : Nat) : GVal → GVal
  | .own o st i len => .own (o + k) st i len
  | g => g
theorem VR.shift {E : Env} {v : Value} {g : GVal} (k : Nat) (h : VR E v g) : VR E v (g.shift k) := by
  cases h with
  | own a len cap o st i l h1 hcap ha => exact .own a len cap _ st i l h1 hcap ha
  | any v => exact .any v
  | bool b => exact .bool b
  | ubool b => exact .ubool b
  | int k n => exact .int k n
  | str s => exact .str s
  | lit v => exact .lit v
  | slice a len cap xs tag sz c hlen hcap hsz ha hc ht => exact .slice a len cap xs tag sz c hlen hcap hsz ha hc ht
  | agg vs cs hs hc => exact .agg vs cs hs hc
  | tuple vs cs hs hc => exact .tuple vs cs hs hc
  | ref b off cs c ha hc => exact .ref b off cs c ha hc
  | ptr b off o st i j l hl hb ho => exact .ptr b off o st i j l hl hb ho
  | map r o st l hl hb => exact .map r o st l hl hb
  | func fn fs cs gs ks hf hk hfs hcs => exact .func fn fs cs gs ks hf hk hfs hcs
  | iface t v g h => exact .iface t v g h
  | cond c v g h => exact .cond c v g h
open Classical in
theorem GCalls.borrow {P : Program} {f : FuncId} {args args' : List GVal} {O : List GObj} {K : GVal → List GObj → Prop} (n : Nat) (h : GCalls P f args' [] K) (ha' : frzL (Gv.frz O n) args = some args') (hc : clockOf O = none)
    (hK : ∀ g O', K g O' → plainG g = true ∧ ∀ x ∈ O', x.flat = true) : GCalls P f args O (fun g O'' => ∃ g0 O', K g0 O' ∧ g = g0.shift O.length ∧ O'' = O ++ O') := by
  refine ⟨h.1, fun E w vs hs ha => ?_⟩
  obtain ⟨f1, f2⟩ := hs.frz
  have hb : ArgsR (E.frz O w) vs args' := ⟨by rw [ha.1, frzL_len ha'], fun i g hg => by
    obtain ⟨x, q1, q2⟩ := frzL_at ha' i g hg
    exact frz_sound hs n _ x g (ha.2 i x q1) q2⟩
  refine (h.2 _ w vs f1 hb).mono ?_
  rintro e w' ⟨v, E', O', g, rfl, h1, h2, h3, h5⟩
  obtain ⟨hg, hfl⟩ := hK g O' h5
  have hno : ∀ b, ¬ InO (E.frz O w) [] b := fun b ⟨i, x, hx, _⟩ => by simp at hx
  have hold : ∀ b, b < w.heap.size → w'.heap[b]? = w.heap[b]? := fun b hb => h2.heap b hb (hno b)
  have hle : E.le E' := f2.ext.trans h2.ext
  let F : Env := { loc := E'.loc, snap := fun b o => match E.snap b o with
    | some v => some v
    | none => if b < w.heap.size then none else E'.snap b o }
  have hF : E.le F := ⟨fun b o v h => by show (match E.snap b o with | some v => some v | none => _) = _; rw [h], hle.loc⟩
  have hFs : ∀ b o v, F.snap b o = some v → E'.snap b o = some v := by
    intro b o v hv
    change (match E.snap b o with | some v => some v | none => if b < w.heap.size then none else E'.snap b o) = some v at hv
    cases hs : E.snap b o with
    | some u => rw [hs] at hv; cases hv; exact hle.snap _ _ _ hs
    | none =>
      rw [hs] at hv
      simp only at hv
      split at hv
      · cases hv
      · exact hv
  have hFo : ∀ b o v, b < w.heap.size → F.snap b o = some v → E.snap b o = some v := by
    intro b o v hb hv
    change (match E.snap b o with | some v => some v | none => if b < w.heap.size then none else E'.snap b o) = some v at hv
    cases hs : E.snap b o with
    | some u => rw [hs] at hv; exact hv
    | none => rw [hs] at hv; simp only [if_pos hb] at hv; cases hv
  have hFn : ∀ b o, E'.snap b o = none → F.snap b o = none := fun b o hn => by
    cases hq : F.snap b o with
    | none => rfl
    | some v => rw [hFs b o v hq] at hn; cases hn
  have hbk : ∀ x : GObj, x.blk F = x.blk E' := fun x => by cases x <;> rfl
  have hbO : ∀ (i : Nat) x, O[i]? = some x → x.blk F = x.blk E := fun i x hx => GObj.blk_mono hF (hs.real i x hx)
  have hnew : ∀ (i : Nat) x b, O'[i]? = some x → x.blk F = some b → w.heap.size ≤ b := fun i x b hx hb => by
    rcases h2.objs b ⟨i, x, hx, by rw [← hbk]; exact hb⟩ with q | q
    · exact absurd q (hno b)
    · exact q
  have hcl : clockOf (O ++ O') = none := by
    cases O with
    | nil =>
      rw [List.nil_append]
      cases O' with
      | nil => rfl
      | cons x r =>
        have := hfl x (by simp)
        cases x <;> first | rfl | cases this
    | cons x r => cases x <;> first | rfl | cases hc
  have hreal : ∀ (i : Nat) x, (O ++ O')[i]? = some x → Realized F w' x := by
    intro i x hx
    by_cases hi : i < O.length
    · rw [List.getElem?_append_left hi] at hx
      exact (hs.real i x hx).keep hF (fun b hb => hold b ((hs.real i x hx).blk_lt hb)) (fun b o v hb hv => hFo b o v ((hs.real i x hx).blk_lt hb) hv)
    · rw [List.getElem?_append_right (by omega)] at hx
      have hr := h1.real _ x hx
      have hf := hfl x (List.mem_of_getElem? hx)
      cases x with
      | dead => trivial
      | row st sz xs =>
        obtain ⟨l, hl, hls, hsx, hrr⟩ := hr
        refine ⟨l, hl, hls, hsx, ?_⟩
        cases hb : l.block with
        | none => simp only [hb] at hrr; exact hrr
        | some b =>
          simp only [hb] at hrr
          obtain ⟨cur, el, q1, q2, q3, q4, q5⟩ := hrr
          refine ⟨cur, el, q1, q2, q3, fun k c hk => ?_, fun o => hFn _ _ (q5 o)⟩
          obtain ⟨x, z1, z2, z3⟩ := q4 k c hk
          refine ⟨x, z1, z2, z3.plain (E := E') (F := F) (fun s l h => show F.loc s = some l from h) ?_⟩
          have hcm := List.mem_of_getElem? hk
          obtain ⟨r, hr1, hr2⟩ := List.mem_flatten.1 hcm
          simp only [GObj.flat, List.all_eq_true] at hf
          exact hf r hr1 c hr2
      | _ => cases hf
  refine ⟨v, F, O ++ O', g.shift O.length, rfl, ⟨?_, fun b o v hv => h1.sealed b o v (hFs b o v hv), fun b o v hv => h1.one b o v (hFs b o v hv), hreal, ?_, hs.globLe hF⟩, ⟨hF, ?_, ?_, h2.size, fun b hb _ => hold b hb, ?_, ?_, trivial⟩, (h3.plain (E := E') (F := F) (fun s l h => show F.loc s = some l from h) hg).shift _, g, O', h5, rfl, rfl⟩
  · obtain ⟨m, _, q⟩ := h1.fin
    exact ⟨m, fun c e => by rw [hcl] at e; (cases e), q⟩
  · intro i j oi oj b hij hi hj hbi hbj
    by_cases ii : i < O.length
    · rw [List.getElem?_append_left ii] at hi
      rw [hbO i oi hi] at hbi
      by_cases jj : j < O.length
      · rw [List.getElem?_append_left jj] at hj
        rw [hbO j oj hj] at hbj
        exact hs.sep i j oi oj b hij hi hj hbi hbj
      · rw [List.getElem?_append_right (by omega)] at hj
        have h6 := hnew _ oj b hj hbj
        have h7 := (hs.real i oi hi).blk_lt hbi
        omega
    · rw [List.getElem?_append_right (by omega)] at hi
      by_cases jj : j < O.length
      · rw [List.getElem?_append_left jj] at hj
        rw [hbO j oj hj] at hbj
        have h6 := hnew _ oi b hi hbi
        have h7 := (hs.real j oj hj).blk_lt hbj
        omega
      · rw [List.getElem?_append_right (by omega)] at hj
        rw [hbk] at hbi hbj
        exact h1.sep _ _ oi oj b (by omega) hi hj hbi hbj
  · rw [h2.os, f2.os]
  · rw [h2.out, f2.out]
  · intro b o v hv
    by_cases hb : b < w.heap.size
    · exact .inl (hFo b o v hb hv)
    · exact .inr (.inl (by omega))
  · intro b ⟨i, x, hx, hbx⟩
    by_cases hi : i < O.length
    · rw [List.getElem?_append_left hi] at hx
      exact .inl ⟨i, x, hx, by rw [← hbO i x hx]; exact hbx⟩
    · rw [List.getElem?_append_right (by omega)] at hx
      exact .inr (hnew _ x b hx hbx)
end Gv
/- A row at the end of the objects becomes a plain list, in the middle of a walk. -/
set_option linter.unusedVariables false
namespace Gv
open Go
theorem HSim.melt {E : Env} {O : List GObj} {t sz : Nat} {xs : List (List GVal)} {w : World} (h : HSim E (O ++ [.row t sz xs]) w) :
    HSim E [.row t sz xs] w ∧ HSim (E.frz [.row t sz xs] w) O w ∧ Keep E (O ++ [.row t sz xs]) w (E.frz [.row t sz xs] w) O w := by
  have hlast : (O ++ [GObj.row t sz xs])[O.length]? = some (.row t sz xs) := by simp
  have at0 : ∀ (i : Nat) x, [GObj.row t sz xs][i]? = some x → i = 0 ∧ x = .row t sz xs := fun i x hx => by
    cases i with
    | zero => simp at hx; exact ⟨rfl, hx.symm⟩
    | succ i => simp at hx
  have hX : HSim E [.row t sz xs] w := ⟨by obtain ⟨n, _, q⟩ := h.fin; exact ⟨n, (fun c hc => by cases hc), q⟩, h.sealed, h.one, fun i x hx => by
    obtain ⟨rfl, rfl⟩ := at0 i x hx
    exact h.real _ _ hlast, fun i j oi oj b hij hi hj => absurd ((at0 i oi hi).1.trans (at0 j oj hj).1.symm) hij, h.glob⟩
  obtain ⟨f1, f2⟩ := hX.frz
  obtain ⟨d1, d2⟩ := h.drop
  have hbk : ∀ x : GObj, x.blk (E.frz [.row t sz xs] w) = x.blk E := fun x => by cases x <;> rfl
  have hO : ∀ (i : Nat) x, O[i]? = some x → (O ++ [GObj.row t sz xs])[i]? = some x ∧ i < O.length := fun i x hx => by
    have := (List.getElem?_eq_some_iff.1 hx).1
    rw [List.getElem?_append_left this]; exact ⟨hx, this⟩
  have hsn : ∀ (i : Nat) x, O[i]? = some x → ∀ b o v, x.blk E = some b → (E.frz [.row t sz xs] w).snap b o = some v → E.snap b o = some v := by
    intro i x hx b o v hb hv
    rcases f2.snap b o v hv with q | q | ⟨j, y, hy, hyb⟩
    · exact q
    · have := (d1.real i x hx).blk_lt hb; omega
    · obtain ⟨rfl, rfl⟩ := at0 j y hy
      obtain ⟨q, lt⟩ := hO i x hx
      exact absurd hyb (h.sep i O.length x _ b (by omega) q hlast hb)
  refine ⟨hX, ⟨d1.fin, f1.sealed, f1.one, fun i x hx => (d1.real i x hx).keep f2.ext (fun _ _ => rfl) (fun b o v hb hv => hsn i x hx b o v hb hv), fun i j oi oj b hij hi hj hbi hbj => ?_, f1.glob⟩,
    ⟨f2.ext, rfl, rfl, Nat.le_refl _, fun _ _ _ => rfl, fun b o v hv => ?_, fun b ⟨i, x, hx, hb⟩ => .inl ⟨i, x, (hO i x hx).1, by rw [← hbk]; exact hb⟩, trivial⟩⟩
  · rw [hbk] at hbi hbj
    exact d1.sep i j oi oj b hij hi hj hbi hbj
  · rcases f2.snap b o v hv with q | q | ⟨j, y, hy, hyb⟩
    · exact .inl q
    · exact .inr (.inl q)
    · obtain ⟨rfl, rfl⟩ := at0 j y hy
      exact .inr (.inr ⟨O.length, _, hlast, hyb⟩)
/-- a row at the end becomes a plain list in one slot -/
theorem Into.melt {st : GSt} {N : GSt → Prop} {O : List GObj} (i n : Nat) {t sz len : Nat} {xs xs' : List (List GVal)} (ho : st.o = O ++ [.row t sz xs]) (hx : sget st.s i = .own O.length t 0 len) (hl : len = xs.length)
    (hf : frzLL (Gv.frz [.row t sz xs] n) xs = some xs') (h : Into ⟨st.s.set i (.slice xs' .none), O⟩ N) : Into st N := by
  intro E a w hs ha
  rw [ho] at hs
  obtain ⟨h0, h1, h2⟩ := hs.melt
  have ha' : SlotsR (E.frz [.row t sz xs] w) a (st.s.set i (.slice xs' .none)) := by
    refine ⟨by simp [ha.size], ha.defers, fun k g hg => ?_⟩
    rw [List.getElem?_set] at hg
    by_cases hk : i = k
    · subst hk
      rw [if_pos rfl] at hg
      split at hg
      · rename_i hlt
        simp only [Option.some.injEq] at hg
        subst hg
        have := ha.at_ i _ (getD_of (d := GVal.any) hlt)
        have hx' : st.s.getD i .any = .own O.length t 0 len := hx
        rw [hx'] at this
        have q : VR E (a.tmps.getD i undef) (.own 0 t 0 len) := by
          revert this
          generalize a.tmps.getD i undef = tv
          intro this
          cases this with
          | own a len cap o st i l q1 q2 q3 => exact .own a _ cap _ _ _ l q1 q2 q3
        subst hl
        exact frz_sound h0 (n + 1) _ _ _ q (by simp [Gv.frz, hf])
      · cases hg
    · rw [if_neg hk] at hg
      exact (ha.at_ k g hg).mono h2.ext
  obtain ⟨st', E', q1, q2, q3, q4⟩ := h _ a w h1 ha'
  exact ⟨st', E', q1, q2, by rw [ho]; exact h2.trans q3, q4⟩
/-- a call that knows no object: its new objects lie behind those that are there -/
theorem GCalls.newBy (u : GVal → GVal) (hu : ∀ E v g, VR E v g → VR E v (u g)) {P : Program} {f : FuncId} {args : List GVal} {K : GVal → List GObj → Prop} (h : GCalls P f args [] K) {O : List GObj} (hc : clockOf O = none) (hK : ∀ g O', K g O' → clockOf O' = none) :
    GCalls P f args O (fun g O'' => ∃ g0 O', K g0 O' ∧ g = u g0 ∧ O'' = O ++ O') := by
  refine ⟨h.1, fun E w vs hs ha => (h.2 E w vs hs.nil ha).mono ?_⟩
  rintro e w' ⟨v, E', O', g, rfl, h1, h2, h3, h5⟩
  have hno : ∀ b, ¬ InO E [] b := fun b ⟨i, x, hx, _⟩ => by simp at hx
  have hold : ∀ b, b < w.heap.size → w'.heap[b]? = w.heap[b]? := fun b hb => h2.heap b hb (hno b)
  have hsn : ∀ b o v, b < w.heap.size → E'.snap b o = some v → E.snap b o = some v := fun b o v hb hv => by
    rcases h2.snap b o v hv with q | q | q
    · exact q
    · omega
    · exact absurd q (hno b)
  have hb : ∀ (i : Nat) x, O[i]? = some x → x.blk E' = x.blk E := fun i x hx => GObj.blk_mono h2.ext (hs.real i x hx)
  have hnew : ∀ (i : Nat) x b, O'[i]? = some x → x.blk E' = some b → w.heap.size ≤ b := fun i x b hx hb => by
    rcases h2.objs b ⟨i, x, hx, hb⟩ with q | q
    · exact absurd q (hno b)
    · exact q
  have hcl : clockOf (O ++ O') = none := by
    cases O with
    | nil => rw [List.nil_append]; exact hK g O' h5
    | cons x r => cases x <;> first | rfl | cases hc
  have hreal : ∀ (i : Nat) x, (O ++ O')[i]? = some x → Realized E' w' x := by
    intro i x hx
    by_cases hi : i < O.length
    · rw [List.getElem?_append_left hi] at hx
      exact (hs.real i x hx).keep h2.ext (fun b hb => hold b ((hs.real i x hx).blk_lt hb)) (fun b o v hb hv => hsn b o v ((hs.real i x hx).blk_lt hb) hv)
    · rw [List.getElem?_append_right (by omega)] at hx
      exact h1.real _ x hx
  refine ⟨v, E', O ++ O', u g, rfl, ⟨?_, h1.sealed, h1.one, hreal, ?_, h1.glob⟩, ⟨h2.ext, h2.os, h2.out, h2.size, fun b hb _ => hold b hb, ?_, ?_, trivial⟩, hu _ _ _ h3, g, O', h5, rfl, rfl⟩
  · obtain ⟨m, _, q⟩ := h1.fin
    exact ⟨m, fun c e => by rw [hcl] at e; (cases e), q⟩
  · intro i j oi oj b hij hi hj hbi hbj
    by_cases ii : i < O.length
    · rw [List.getElem?_append_left ii] at hi
      rw [hb i oi hi] at hbi
      by_cases jj : j < O.length
      · rw [List.getElem?_append_left jj] at hj
        rw [hb j oj hj] at hbj
        exact hs.sep i j oi oj b hij hi hj hbi hbj
      · rw [List.getElem?_append_right (by omega)] at hj
        have h6 := hnew _ oj b hj hbj
        have h7 := (hs.real i oi hi).blk_lt hbi
        omega
    · rw [List.getElem?_append_right (by omega)] at hi
      by_cases jj : j < O.length
      · rw [List.getElem?_append_left jj] at hj
        rw [hb j oj hj] at hbj
        have h6 := hnew _ oi b hi hbi
        have h7 := (hs.real j oj hj).blk_lt hbj
        omega
      · rw [List.getElem?_append_right (by omega)] at hj
        exact h1.sep _ _ oi oj b (by omega) hi hj hbi hbj
  · intro b o v hv
    rcases h2.snap b o v hv with q | q | q
    · exact .inl q
    · exact .inr (.inl q)
    · exact absurd q (hno b)
  · intro b ⟨i, x, hx, hbx⟩
    by_cases hi : i < O.length
    · rw [List.getElem?_append_left hi] at hx
      rw [hb i x hx] at hbx
      exact .inl ⟨i, x, hx, hbx⟩
    · rw [List.getElem?_append_right (by omega)] at hx
      exact .inr (hnew _ x b hx hbx)
/-- a place further on -/
def GVal.up (k : Nat) : GVal → GVal
  | .own o st i len => .own (o + k) st i len
  | .ptr o st i j => .ptr (o + k) st i j
  | .map o st => .map (o + k) st
  | g => g
theorem VR.up (k : Nat) (E : Env) (v : Value) (g : GVal) (h : VR E v g) : VR E v (g.up k) := by
  cases g with
  | ptr o st a b => cases h; exact .ptr _ _ _ _ _ _ _ (by assumption) (by assumption) (by assumption)
  | own o st a b => cases h; exact .own _ _ _ _ _ _ _ (by assumption) (by assumption) (by assumption)
  | map o st => cases h; exact .map _ _ _ _ (by assumption) (by assumption)
  | _ => exact h
theorem GCalls.new {P : Program} {f : FuncId} {args : List GVal} {K : GVal → List GObj → Prop} (h : GCalls P f args [] K) {O : List GObj} (hc : clockOf O = none) (hK : ∀ g O', K g O' → clockOf O' = none) :
    GCalls P f args O (fun g O'' => ∃ g0 O', K g0 O' ∧ g = g0.shift O.length ∧ O'' = O ++ O') := GCalls.newBy (GVal.shift O.length) (fun _ _ _ h => h.shift _) h hc hK
/-- also where it gives a pointer to one of them -/
theorem GCalls.newUp {P : Program} {f : FuncId} {args : List GVal} {K : GVal → List GObj → Prop} (h : GCalls P f args [] K) {O : List GObj} (hc : clockOf O = none) (hK : ∀ g O', K g O' → clockOf O' = none) :
    GCalls P f args O (fun g O'' => ∃ g0 O', K g0 O' ∧ g = g0.up O.length ∧ O'' = O ++ O') := GCalls.newBy (GVal.up O.length) (VR.up O.length) h hc hK
/-- the last cells of a plain list, less said of them -/
theorem Into.sliceLast {st : GSt} {N : GSt → Prop} (i : Nat) {tag : Tag} (A : List (List GVal)) (c c' : List GVal) (hx : sget st.s i = .slice (A ++ [c]) tag) (hw : WL c c') (h : Into ⟨st.s.set i (.slice (A ++ [c']) tag), st.o⟩ N) : Into st N := by
  intro E a w hs ha
  have hlen := hw.len
  refine h E a w hs ⟨by simp [ha.size], ha.defers, fun k g hg => ?_⟩
  rw [List.getElem?_set] at hg
  by_cases hk : i = k
  · subst hk
    rw [if_pos rfl] at hg
    split at hg
    · rename_i hlt
      simp only [Option.some.injEq] at hg
      subst hg
      have := ha.at_ i _ (getD_of (d := GVal.any) hlt)
      have hx' : st.s.getD i .any = .slice (A ++ [c]) tag := hx
      rw [hx'] at this
      revert this
      generalize a.tmps.getD i undef = tv
      intro this
      cases this with
      | slice a len cap xs tag sz cc q1 q2 q3 q4 q5 q6 =>
        refine .slice a len cap _ _ sz cc (by rw [q1]; simp) q2 (fun y hy => ?_) (fun _ => q4 (by simp)) (fun j g' hj => ?_) q6
        · rcases List.mem_append.1 hy with hy | hy
          · exact q3 y (List.mem_append_left _ hy)
          · simp at hy; rw [hy, ← hlen]; exact q3 c (by simp)
        · simp only [List.flatten_append, List.flatten_cons, List.flatten_nil, List.append_nil] at hj q5
          by_cases e : j < A.flatten.length
          · rw [List.getElem?_append_left e] at hj
            exact q5 j g' (by rw [List.getElem?_append_left e]; exact hj)
          · rw [List.getElem?_append_right (by omega)] at hj
            obtain ⟨x, hx, hl⟩ := hw.at_ _ g' hj
            exact hl.sound (q5 j x (by rw [List.getElem?_append_right (by omega)]; exact hx))
    · cases hg
  · rw [if_neg hk] at hg
    exact ha.at_ k g hg
end Gv
