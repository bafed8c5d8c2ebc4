/- Contracts: copies, runs, joined segments. -/
import Derived.Test.YthidcccnjplafaaGreatP7
import Derived.Test.YthidcccnjplafaaGreatP5
set_option linter.unusedVariables false
set_option linter.unusedSimpArgs false
set_option maxRecDepth 20000
set_option maxHeartbeats 4000000
namespace Gv.Tryz
open Go Gv Go.Proofs

theorem spec62 (l : List Int) (t : Tag) (x : Int) (hl : l.length ≤ 17592186044416) : GPure Tryz.prog 50 [.slice (ints l) t, .int .i64 x] (.bool (decide (x ∈ l))) := by
  refine h50.pure mixS (by simp) ?_
  simp only [gstart, s50, List.cons_append, List.nil_append, List.length_cons, List.length_nil, Nat.reduceAdd, Nat.reduceSub, List.replicate_succ, List.replicate_zero]
  simp +contextual -implicitDefEqProofs (maxSteps := 2000000) (disch := omega) only [↓lenV, binV, ↓loadV, ↓indexAddrV, GVal.cells, grp, GVal.ofConst, ↓resV, resG, List.map, List.headD, List.take, List.drop, ↓reduceIte, Nat.reduceEqDiff, Nat.reduceAdd, Nat.reduceSub, Nat.reduceLeDiff, reduceCtorEq, implies_true, ne_eq, aggV, Tag.cap, List.replicate, allSolid, GVal.solid, Nat.reduceBEq, Nat.reduceMul, Nat.reduceLT, List.length_map, List.length_range, splice, vcA, ↓vcB, vcC, fbFz, e50]
  refine vcSLoop_by (ι := { k : Nat // k ≤ l.length ∧ x ∉ l.take k }) (fun k => ⟨[.slice (ints l) t, .int .i64 x, .any, .any, .any, .int .i64 (k.1 : Nat)] ++ List.replicate 12 .any, []⟩) (fun k => l.length - k.1) ?_ ?_
  · exact Into.first ⟨0, by omega, by simp⟩ ⟨[], by simp⟩ (by simp [WL, leG_self, leG_any])
  · rintro ⟨k, hk, hx⟩
    simp +contextual -implicitDefEqProofs (maxSteps := 2000000) (disch := omega) only [↓lenV, binV, ↓loadV, ↓indexAddrV, GVal.cells, grp, GVal.ofConst, ↓resV, resG, List.map, List.headD, List.take, List.drop, ↓reduceIte, Nat.reduceEqDiff, Nat.reduceAdd, Nat.reduceSub, Nat.reduceLeDiff, reduceCtorEq, implies_true, ne_eq, aggV, Tag.cap, List.replicate, allSolid, GVal.solid, Nat.reduceBEq, Nat.reduceMul, Nat.reduceLT, List.length_map, List.length_range, splice, vcA, ↓vcB, vcC, fbFz, e50]
    refine ⟨fun h => ⟨by omega, fun h2 => ?_, fun h2 => ?_⟩, fun h => ?_⟩
    · have : x ∈ l := by rw [← h2]; exact getD_mem (by omega)
      simp [this]
    · refine Into.at ⟨k + 1, by omega, ?_⟩ (by show _ < _; simp; omega) ⟨[], by simp⟩ (by simp [WL, leG_self, leG_any, leG_int])
      rw [List.take_add_one, List.mem_append]
      intro h3
      rcases h3 with h3 | h3
      · exact hx h3
      · rw [List.getElem?_eq_getElem (by omega)] at h3
        simp [List.getD, List.getElem?_eq_getElem (by omega : k < l.length)] at h2 h3
        exact h2 h3.symm
    · rw [List.take_of_length_le (by omega)] at hx
      simp [hx]

theorem c59 (l : List Seg) (hl : l.length ≤ 1000000) : GCalls Tryz.prog 94 [.slice (segsG l) .none] [] (fun g O' => (∃ st, g = .own 0 st 0 l.length ∧ O' = [.row st 5 (segsG l)]) ∨ (l = [] ∧ g = .slice [] .nil ∧ O' = [])) := by
  refine h94.calls mixS (by simp) ?_
  simp only [gstart, s94, List.cons_append, List.nil_append, List.length_cons, List.length_nil, Nat.reduceAdd, Nat.reduceSub, List.replicate_succ, List.replicate_zero]
  simp +contextual -implicitDefEqProofs (maxSteps := 2000000) (disch := omega) only [binV, optV, ↓buildSliceV, ↓sliceV, ↓appendV, ↓srcV, bound, cutTag, hiTag, fillE, GVal.cells, grp, GVal.ofConst, ↓resV, resG, List.map, List.headD, List.take, List.drop, ↓reduceIte, Nat.reduceEqDiff, Nat.reduceAdd, Nat.reduceSub, Nat.reduceLeDiff, reduceCtorEq, implies_true, ne_eq, ↓asrcV, aggV, Tag.cap, List.replicate, allSolid, GVal.solid, Nat.reduceBEq, Nat.reduceMul, Nat.reduceLT, List.length_map, List.length_range, splice, vcA, ↓vcB, vcC, fbFz, e94, segsG_length, all_segsG]
  have hnil : segsG l = [] → l = [] := fun h => by cases l with
    | nil => rfl
    | cons a r => simp [segsG] at h
  refine ⟨fun h => ⟨.inr (hnil h), by simp, fun st => .inl ⟨st, by rw [hnil h]; exact ⟨rfl, rfl⟩⟩⟩, fun h => ⟨by omega, by omega, by simp, fun st => .inl ⟨st, rfl, rfl⟩⟩⟩

theorem segsG_set_self (l : List Seg) (k : Nat) (h : k < l.length) : (segsG l).set k (segG (l.getD k default)) = segsG l := by
  rw [segsG_set]; congr 1
  apply List.ext_getElem (by simp)
  intro i h1 h2
  rw [List.getElem_set]
  split
  · rename_i e; subst e; simp [List.getD, h]
  · rfl

theorem spec44 (l : List Seg) (hl : l.length ≤ 1000000) (hp : ∀ i, (l.getD i default).par.length ≤ 17592186044416) : GPure Tryz.prog 80 [.slice (segsG l) .none] (.slice (segsG l) .none) := by
  refine h80.pureF mixS (by simp) ?_
  simp only [gstart, s80, List.cons_append, List.nil_append, List.length_cons, List.length_nil, Nat.reduceAdd, Nat.reduceSub, List.replicate_succ, List.replicate_zero]
  simp +contextual -implicitDefEqProofs (maxSteps := 2000000) (disch := omega) only [↓lenV, binV, optV, ↓loadV, ↓storeV, ↓fieldAddrV, ↓indexAddrV, ↓sliceV, bound, cutTag, hiTag, GVal.cells, grp, GVal.ofConst, ↓resV, resG, List.map, List.headD, List.take, List.drop, ↓reduceIte, Nat.reduceEqDiff, Nat.reduceAdd, Nat.reduceSub, Nat.reduceLeDiff, reduceCtorEq, implies_true, ne_eq, Tag.cap, List.replicate, allSolid, GVal.solid, Nat.reduceBEq, Nat.reduceMul, Nat.reduceLT, List.length_map, List.length_range, splice, vcA, ↓vcB, vcC, fbFz, e80]
  refine (c59 l hl).mono ?_
  rintro g O' (⟨st, rfl, rfl⟩ | ⟨rfl, rfl, rfl⟩)
  · simp +contextual -implicitDefEqProofs (maxSteps := 2000000) (disch := omega) only [↓lenV, binV, optV, ↓loadV, ↓storeV, ↓fieldAddrV, ↓indexAddrV, ↓sliceV, bound, cutTag, hiTag, GVal.cells, grp, GVal.ofConst, ↓resV, resG, List.map, List.headD, List.take, List.drop, ↓reduceIte, Nat.reduceEqDiff, Nat.reduceAdd, Nat.reduceSub, Nat.reduceLeDiff, reduceCtorEq, implies_true, ne_eq, Tag.cap, List.replicate, allSolid, GVal.solid, Nat.reduceBEq, Nat.reduceMul, Nat.reduceLT, List.length_map, List.length_range, splice, vcA, ↓vcB, vcC, fbFz, e80, segsG_length]
    refine vcSLoop_by (ι := { k : Nat // k ≤ l.length }) (fun k => ⟨[.any, .any, .any, .own 0 st 0 l.length, .any, .any, .any, .any, .int .i64 l.length, .int .i64 (k.1 : Nat)] ++ List.replicate 14 .any, [.row st 5 (segsG l)]⟩) (fun k => l.length - k.1) ?_ ?_
    · exact Into.first ⟨0, by omega⟩ ⟨[], by simp⟩ (by simp [WL, leG_self, leG_any])
    · rintro ⟨k, hk⟩
      simp +contextual -implicitDefEqProofs (maxSteps := 2000000) (disch := omega) only [↓lenV, binV, optV, ↓loadV, ↓storeV, ↓fieldAddrV, ↓indexAddrV, ↓sliceV, bound, cutTag, hiTag, GVal.cells, grp, GVal.ofConst, ↓resV, resG, List.map, List.headD, List.take, List.drop, ↓reduceIte, Nat.reduceEqDiff, Nat.reduceAdd, Nat.reduceSub, Nat.reduceLeDiff, reduceCtorEq, implies_true, ne_eq, Tag.cap, List.replicate, allSolid, GVal.solid, Nat.reduceBEq, Nat.reduceMul, Nat.reduceLT, List.length_map, List.length_range, splice, vcA, ↓vcB, vcC, fbFz, e80, segsG_length, segsG_at, segG]
      refine ⟨fun h => ⟨by omega, by omega, by omega, (spec58 (l.getD k default).par .none (hp k) (by simp)).then ?_⟩, fun h => ?_⟩
      · simp +contextual -implicitDefEqProofs (maxSteps := 2000000) (disch := omega) only [↓lenV, binV, optV, ↓loadV, ↓storeV, ↓fieldAddrV, ↓indexAddrV, ↓sliceV, bound, cutTag, hiTag, GVal.cells, grp, GVal.ofConst, ↓resV, resG, List.map, List.headD, List.take, List.drop, ↓reduceIte, Nat.reduceEqDiff, Nat.reduceAdd, Nat.reduceSub, Nat.reduceLeDiff, reduceCtorEq, implies_true, ne_eq, Tag.cap, List.replicate, allSolid, GVal.solid, Nat.reduceBEq, Nat.reduceMul, Nat.reduceLT, List.length_map, List.length_range, splice, vcA, ↓vcB, vcC, fbFz, e80, segsG_length, segsG_at, segG]
        refine ⟨by omega, by omega, by omega, by omega, ?_⟩
        refine Into.at ⟨k + 1, by omega⟩ (by show _ < _; simp; omega) ⟨[], ?_⟩ (by simp [WL, leG_self, leG_any, leG_int])
        have := segsG_set_self l k (by omega)
        rw [segG] at this
        simp only [List.append_nil, this]
      · exact ⟨4, .slice (segsG l) .none, frz_own rfl (segsG_length _).symm (frz_segs _ 1 _), by rw [leA_slice]⟩
  · simp +contextual -implicitDefEqProofs (maxSteps := 2000000) (disch := omega) only [↓lenV, binV, optV, ↓loadV, ↓storeV, ↓fieldAddrV, ↓indexAddrV, ↓sliceV, bound, cutTag, hiTag, GVal.cells, grp, GVal.ofConst, ↓resV, resG, List.map, List.headD, List.take, List.drop, ↓reduceIte, Nat.reduceEqDiff, Nat.reduceAdd, Nat.reduceSub, Nat.reduceLeDiff, reduceCtorEq, implies_true, ne_eq, Tag.cap, List.replicate, allSolid, GVal.solid, Nat.reduceBEq, Nat.reduceMul, Nat.reduceLT, List.length_map, List.length_range, splice, vcA, ↓vcB, vcC, fbFz, e80]
    refine vcSLoop_by (ι := Unit) (fun _ => ⟨[.any, .any, .any, .slice [] .nil, .any, .any, .any, .any, .int .i64 0, .int .i64 0] ++ List.replicate 14 .any, []⟩) (fun _ => 0) ?_ ?_
    · exact Into.first () ⟨[], by simp⟩ (by simp [WL, leG_self, leG_any])
    · rintro ⟨⟩
      simp +contextual -implicitDefEqProofs (maxSteps := 2000000) (disch := omega) only [↓lenV, binV, optV, ↓loadV, ↓storeV, ↓fieldAddrV, ↓indexAddrV, ↓sliceV, bound, cutTag, hiTag, GVal.cells, grp, GVal.ofConst, ↓resV, resG, List.map, List.headD, List.take, List.drop, ↓reduceIte, Nat.reduceEqDiff, Nat.reduceAdd, Nat.reduceSub, Nat.reduceLeDiff, reduceCtorEq, implies_true, ne_eq, Tag.cap, List.replicate, allSolid, GVal.solid, Nat.reduceBEq, Nat.reduceMul, Nat.reduceLT, List.length_map, List.length_range, splice, vcA, ↓vcB, vcC, fbFz, e80]
      exact ⟨fun h => absurd h (by omega), fun _ => ⟨2, .slice [] .nil, rfl, by rw [leA_slice]; rfl⟩⟩

def sameG (a b : Seg) : Bool := decide (a.lo < 1099511627776) == decide (b.lo < 1099511627776)
def runOK (l : List Seg) (size : Int) (n : Nat) : Prop := 1 ≤ n ∧ (n : Int) ≤ size ∧ n ≤ l.length ∧ ∀ i, i < n → sameG (l.getD i default) (l.getD 0 default) = true

theorem rel42 (l : List Seg) (size : Int) (t : Tag) (hl : l.length ≤ 17592186044416) (h0 : l ≠ []) (hs : 2 ≤ size) : GRel Tryz.prog 95 [.slice (segsG l) t, .int .i64 size] (fun g => ∃ n, g = .int .i64 (n : Nat) ∧ runOK l size n) := by
  have hpos : 0 < l.length := List.length_pos_iff.2 h0
  refine h95.rel mixS (by simp) ?_
  simp only [gstart, s95, List.cons_append, List.nil_append, List.length_cons, List.length_nil, Nat.reduceAdd, Nat.reduceSub, List.replicate_succ, List.replicate_zero]
  simp +contextual -implicitDefEqProofs (maxSteps := 2000000) (disch := omega) only [drawC, drawK, keepT, ↓lenV, binV, ↓loadV, ↓fieldAddrV, ↓indexAddrV, ↓minV, GVal.cells, grp, GVal.ofConst, ↓resV, resG, List.map, List.headD, List.take, List.drop, ↓reduceIte, Nat.reduceEqDiff, Nat.reduceAdd, Nat.reduceSub, Nat.reduceLeDiff, reduceCtorEq, implies_true, ne_eq, aggV, Tag.cap, List.replicate, allSolid, GVal.solid, Nat.reduceBEq, Nat.reduceMul, Nat.reduceLT, List.length_map, List.length_range, splice, vcA, ↓vcB, vcC, fbFz, e95, segsG_length]
  refine vcSLoop_by (ι := { n : Nat // runOK l size n }) (fun n => ⟨[.slice (segsG l) t, .int .i64 size, .any, .any, .any, .int .i64 (n.1 : Nat)] ++ List.replicate 23 .any, []⟩) (fun n => l.length - n.1) ?_ ?_
  · exact Into.first ⟨1, by omega, by omega, by omega, fun i hi => by rw [show i = 0 by omega]; simp [sameG]⟩ ⟨[], by simp⟩ (by simp [WL, leG_self, leG_any])
  · rintro ⟨n, hn⟩
    have hn' := hn
    obtain ⟨n1, n2, n3, n4⟩ := hn
    have out : ∃ r, frzTo r (.int .i64 (n : Nat)) [] ∧ ∃ n, r = .int .i64 (n : Nat) ∧ runOK l size n := ⟨_, ⟨1, _, rfl, by rw [leA_int]; exact ⟨rfl, rfl⟩⟩, n, rfl, hn'⟩
    have more : (n : Int) < min (l.length : Int) size → sameG (l.getD n default) (l.getD 0 default) = true → runOK l size (n + 1) := fun h1 h2 => by
      refine ⟨by omega, by omega, by omega, fun i hi => ?_⟩
      by_cases e : i = n
      · rw [e]; exact h2
      · exact n4 i (by omega)
    simp +contextual -implicitDefEqProofs (maxSteps := 2000000) (disch := omega) only [drawC, drawK, keepT, ↓lenV, binV, ↓loadV, ↓fieldAddrV, ↓indexAddrV, ↓minV, GVal.cells, grp, GVal.ofConst, ↓resV, resG, List.map, List.headD, List.take, List.drop, ↓reduceIte, Nat.reduceEqDiff, Nat.reduceAdd, Nat.reduceSub, Nat.reduceLeDiff, reduceCtorEq, implies_true, ne_eq, aggV, Tag.cap, List.replicate, allSolid, GVal.solid, Nat.reduceBEq, Nat.reduceMul, Nat.reduceLT, List.length_map, List.length_range, splice, vcA, ↓vcB, vcC, fbFz, e95, segsG_length, segsG_at, segG, Int.toNat_zero]
    refine ⟨fun h1 => ⟨by omega, by omega, by omega, by omega, fun h2 => ⟨fun h3 => ?_, fun h3 => out⟩, fun h2 => ⟨fun h3 => out, fun h3 => ?_⟩⟩, fun h1 => out⟩
    · exact Into.at ⟨n + 1, more h1 (by unfold sameG; rw [decide_eq_true h2, decide_eq_true h3]; rfl)⟩ (by show _ < _; simp; omega) ⟨[], by simp⟩ (by simp [WL, leG_self, leG_any, leG_int])
    · exact Into.at ⟨n + 1, more h1 (by unfold sameG; rw [decide_eq_false (by omega), decide_eq_false (by omega)]; rfl)⟩ (by show _ < _; simp; omega) ⟨[], by simp⟩ (by simp [WL, leG_self, leG_any, leG_int])

end Gv.Tryz
/- Contracts: joined segments. -/
set_option linter.unusedVariables false
set_option linter.unusedSimpArgs false
set_option maxRecDepth 20000
set_option maxHeartbeats 4000000
namespace Gv.Tryz
open Go Gv Go.Proofs

def jpar (lo : Int) : List Int → List Int → List Int
  | acc, [] => acc
  | acc, p :: r => jpar lo (if p < lo ∧ p ∉ acc then acc ++ [p] else acc) r
theorem jpar_app (lo : Int) : ∀ (a b acc : List Int), jpar lo acc (a ++ b) = jpar lo (jpar lo acc a) b
  | [], b, acc => rfl
  | p :: a, b, acc => jpar_app lo a b _
theorem jpar_len (lo : Int) : ∀ (a acc : List Int), (jpar lo acc a).length ≤ acc.length + a.length
  | [], acc => by simp [jpar]
  | p :: a, acc => by
    have := jpar_len lo a (if p < lo ∧ p ∉ acc then acc ++ [p] else acc)
    rw [jpar]
    have h2 : (if p < lo ∧ p ∉ acc then acc ++ [p] else acc).length ≤ acc.length + 1 := by split <;> simp
    simp only [List.length_cons]
    omega
theorem jpar_take (lo : Int) (acc q : List Int) (i : Nat) (h : i < q.length) : jpar lo acc (q.take (i + 1)) = if q.getD i 0 < lo ∧ q.getD i 0 ∉ jpar lo acc (q.take i) then jpar lo acc (q.take i) ++ [q.getD i 0] else jpar lo acc (q.take i) := by
  rw [List.take_add_one, jpar_app]
  simp [List.getElem?_eq_getElem h, jpar, List.getD]
def jall (lo : Int) (l : List Seg) : List Int := l.foldl (fun acc s => jpar lo acc s.par) []
def sumP : List Seg → Nat
  | [] => 0
  | s :: r => s.par.length + sumP r
theorem sumP_app (a b : List Seg) : sumP (a ++ b) = sumP a + sumP b := by
  induction a with
  | nil => simp [sumP]
  | cons s r ih => simp [sumP, ih, Nat.add_assoc]
theorem sumP_take (l : List Seg) (k : Nat) : sumP (l.take k) ≤ sumP l := by
  have := sumP_app (l.take k) (l.drop k)
  rw [List.take_append_drop] at this
  omega
theorem take_succ' (l : List Seg) (k : Nat) (h : k < l.length) : l.take (k + 1) = l.take k ++ [l.getD k default] := by
  rw [List.take_add_one]; simp [List.getElem?_eq_getElem h, List.getD]
theorem jall_take (lo : Int) (l : List Seg) (k : Nat) (h : k < l.length) : jall lo (l.take (k + 1)) = jpar lo (jall lo (l.take k)) (l.getD k default).par := by
  rw [take_succ' l k h, jall, List.foldl_append]; rfl
theorem jall_len (lo : Int) (l : List Seg) : ∀ k, (jall lo (l.take k)).length ≤ sumP (l.take k)
  | 0 => by simp [jall]
  | k + 1 => by
    by_cases h : k < l.length
    · rw [jall_take lo l k h, take_succ' l k h, sumP_app]
      have h1 := jpar_len lo (l.getD k default).par (jall lo (l.take k))
      have h2 := jall_len lo l k
      simp only [sumP]; omega
    · rw [List.take_of_length_le (by omega), ← List.take_of_length_le (l := l) (i := k) (by omega)]
      exact jall_len lo l k
def anyR (l : List Seg) : Bool := l.any (·.root)
theorem anyR_take (l : List Seg) (k : Nat) (h : k < l.length) : anyR (l.take (k + 1)) = (anyR (l.take k) || (l.getD k default).root) := by
  rw [take_succ' l k h, anyR, List.any_append]; simp [anyR]
def joinI (l : List Seg) : Seg := ⟨(l.getD 0 default).lo, (l.getD (l.length - 1) default).hi, jall (l.getD 0 default).lo l, anyR l, (l.getD (l.length - 1) default).head⟩
theorem sumP_at (l : List Seg) (i : Nat) : (l.getD i default).par.length ≤ sumP l := by
  by_cases h : i < l.length
  · have h1 := sumP_take l (i + 1)
    rw [take_succ' l i h, sumP_app] at h1
    simp only [sumP] at h1
    omega
  · rw [List.getD_eq_getElem?_getD, List.getElem?_eq_none (by omega)]; simp [show (default : Seg).par = [] from rfl]

theorem frz_seg (O : List GObj) (a b : Int) (p : List Int) (t : Tag) (r h : Bool) : Gv.frz O 4 (.agg [.int .i64 a, .int .i64 b, .slice (ints p) t, .bool r, .bool h]) = some (.agg [.int .i64 a, .int .i64 b, .slice (ints p) t.frz, .bool r, .bool h]) := by
  rw [Gv.frz]; simp only [frzL, frz_intsS]; simp [Gv.frz]

theorem spec43 (l : List Seg) (hl : l.length ≤ 1000000) (h0 : l ≠ []) (hp : sumP l ≤ 100000) : GPure Tryz.prog 97 [.slice (segsG l) .none] (.agg (segG (joinI l))) := by
  have hpos : 0 < l.length := List.length_pos_iff.2 h0
  refine h97.pureF mixS (by simp) ?_
  simp only [gstart, s97, List.cons_append, List.nil_append, List.length_cons, List.length_nil, Nat.reduceAdd, Nat.reduceSub, List.replicate_succ, List.replicate_zero]
  simp +contextual -implicitDefEqProofs (maxSteps := 2000000) (disch := omega) only [drawC, drawK, keepT, ↓lenV, binV, ↓unV, ↓loadV, ↓storeV, ↓fieldAddrV, ↓indexAddrV, ↓allocV, ↓buildV, ↓buildSliceV, ↓appendV, ↓srcV, fillG, fillE, place, GVal.cells, grp, GVal.ofConst, ↓resV, resG, List.map, List.headD, List.take, List.drop, ↓reduceIte, Nat.reduceEqDiff, Nat.reduceAdd, Nat.reduceSub, Nat.reduceLeDiff, reduceCtorEq, implies_true, ne_eq, ↓asrcV, Tag.cap, List.replicate, allSolid, GVal.solid, Nat.reduceBEq, Nat.reduceMul, Nat.reduceLT, List.length_map, List.length_range, splice, vcA, ↓vcB, vcC, fbFz, e97, segsG_length, segsG_at, segG, toNat_pred, Int.toNat_zero]
  intro st0
  refine ⟨by omega, by omega, fun st1 => ⟨by omega, by omega, fun st2 => ⟨⟨_, rfl⟩, ?_⟩⟩⟩
  have hla : l.getD (l.length - 1) default = l.getD (l.length - 1) default := rfl
  have hlo : (l.getD 0 default).lo = (l.getD 0 default).lo := rfl
  have hj : joinI l = ⟨(l.getD 0 default).lo, (l.getD (l.length - 1) default).hi, jall (l.getD 0 default).lo l, anyR l, (l.getD (l.length - 1) default).head⟩ := rfl
  revert hj
  generalize l.getD (l.length - 1) default = la
  generalize (l.getD 0 default).lo = lo
  intro hj
  have jl : ∀ k, (jall lo (l.take k)).length ≤ 100000 := fun k => Nat.le_trans (jall_len lo l k) (Nat.le_trans (sumP_take l k) hp)
  refine vcSLoop_by (ι := { p : Nat × Nat // p.1 ≤ l.length }) (fun p => ⟨[.slice (segsG l) .none, .any, .ptr 0 st0 0 0, .any, .ptr 2 st2 0 0] ++ List.replicate 19 .any ++ [.slice (segsG l) .none, .int .i64 l.length, .int .i64 (p.1.1 : Nat)] ++ List.replicate 37 .any, [.row st0 5 [[.int .i64 0, .int .i64 0, .slice [] .nil, .bool false, .bool false]], .row st1 5 [[.int .i64 la.lo, .int .i64 la.hi, .slice (ints la.par) .none, .bool la.root, .bool la.head]], .row st2 5 [[.int .i64 lo, .int .i64 la.hi, .slice (ints (jall lo (l.take p.1.1))) (.tok 3 p.1.2), .bool (anyR (l.take p.1.1)), .bool la.head]], .tok p.1.2 1]⟩) (fun p => l.length - p.1.1) ?_ ?_
  · refine Into.cellTok 2 2 1 [] rfl rfl rfl rfl ?_
    simp +contextual -implicitDefEqProofs (maxSteps := 2000000) (disch := omega) only [drawC, drawK, keepT, ↓lenV, binV, ↓unV, ↓loadV, ↓storeV, ↓fieldAddrV, ↓indexAddrV, ↓allocV, ↓buildV, ↓buildSliceV, ↓appendV, ↓srcV, fillG, fillE, place, GVal.cells, grp, GVal.ofConst, ↓resV, resG, List.map, List.headD, List.take, List.drop, ↓reduceIte, Nat.reduceEqDiff, Nat.reduceAdd, Nat.reduceSub, Nat.reduceLeDiff, reduceCtorEq, implies_true, ne_eq, ↓asrcV, Tag.cap, List.replicate, allSolid, GVal.solid, Nat.reduceBEq, Nat.reduceMul, Nat.reduceLT, List.length_map, List.length_range, splice, vcA, ↓vcB, vcC, fbFz, e97, List.set_cons_succ, List.set_cons_zero]
    intro t
    exact Into.first ⟨(0, t), by omega⟩ ⟨[], by simp [jall, anyR, ints]⟩ (by simp [WL, leG_self, leG_any])
  · rintro ⟨⟨k, u⟩, hk⟩
    cases hb : anyR (l.take k)
    · simp +contextual -implicitDefEqProofs (maxSteps := 2000000) (disch := omega) only [drawC, drawK, keepT, ↓lenV, binV, ↓unV, ↓loadV, ↓storeV, ↓fieldAddrV, ↓indexAddrV, ↓allocV, ↓buildV, ↓buildSliceV, ↓appendV, ↓srcV, fillG, fillE, place, GVal.cells, grp, GVal.ofConst, ↓resV, resG, List.map, List.headD, List.take, List.drop, ↓reduceIte, Nat.reduceEqDiff, Nat.reduceAdd, Nat.reduceSub, Nat.reduceLeDiff, reduceCtorEq, implies_true, ne_eq, ↓asrcV, Tag.cap, List.replicate, allSolid, GVal.solid, Nat.reduceBEq, Nat.reduceMul, Nat.reduceLT, List.length_map, List.length_range, splice, vcA, ↓vcB, vcC, fbFz, e97, segsG_length, segsG_at, segG, toNat_pred, Int.toNat_zero, List.set_cons_succ, List.set_cons_zero, hb]
      refine ⟨fun h => ⟨by omega, fun st => ?_⟩, fun h => ?_⟩
      · have hkl : k < l.length := by omega
        have eR := anyR_take l k hkl
        have eJ := jall_take lo l k hkl
        have jl1 := jl k
        have hps := sumP_at l k
        have jl2 : ∀ i, (jpar lo (jall lo (l.take k)) ((l.getD k default).par.take i)).length ≤ 1000000 := fun i => by
          have h1 := jpar_len lo ((l.getD k default).par.take i) (jall lo (l.take k))
          have h2 : ((l.getD k default).par.take i).length ≤ (l.getD k default).par.length := by rw [List.length_take]; omega
          omega
        rw [hb] at eR
        refine vcSLoop_by (ι := { p : Nat × Nat // p.1 ≤ (l.getD k default).par.length }) (fun p => ⟨[.slice (segsG l) .none, .any, .ptr 0 st0 0 0, .any, .ptr 2 st2 0 0, .any, .any] ++ List.replicate 17 .any ++ [.slice (segsG l) .none, .int .i64 l.length, .int .i64 (k : Nat)] ++ List.replicate 11 .any ++ [.slice (ints (l.getD k default).par) .none, .int .i64 (l.getD k default).par.length, .int .i64 (p.1.1 : Nat)] ++ List.replicate 23 .any, [.row st0 5 [[.int .i64 0, .int .i64 0, .slice [] .nil, .bool false, .bool false]], .row st1 5 [[.int .i64 la.lo, .int .i64 la.hi, .slice (ints la.par) .none, .bool la.root, .bool la.head]], .row st2 5 [[.int .i64 lo, .int .i64 la.hi, .slice (ints (jpar lo (jall lo (l.take k)) ((l.getD k default).par.take p.1.1))) (.tok 3 p.1.2), .bool (anyR (l.take (k + 1))), .bool la.head]], .tok p.1.2 1]⟩) (fun p => (l.getD k default).par.length - p.1.1) ?_ ?_
        · exact Into.first ⟨(0, u), by omega⟩ ⟨_, by simp [jpar, eR]; rfl⟩ (by simp [WL, leG_self, leG_any])
        · rintro ⟨⟨i, v⟩, hi⟩
          change i ≤ (l.getD k default).par.length at hi
          have jl3 := jl2 i
          simp +contextual -implicitDefEqProofs (maxSteps := 2000000) (disch := omega) only [drawC, drawK, keepT, ↓lenV, binV, ↓unV, ↓loadV, ↓storeV, ↓fieldAddrV, ↓indexAddrV, ↓allocV, ↓buildV, ↓buildSliceV, ↓appendV, ↓srcV, fillG, fillE, place, GVal.cells, grp, GVal.ofConst, ↓resV, resG, List.map, List.headD, List.take, List.drop, ↓reduceIte, Nat.reduceEqDiff, Nat.reduceAdd, Nat.reduceSub, Nat.reduceLeDiff, reduceCtorEq, implies_true, ne_eq, ↓asrcV, Tag.cap, List.replicate, allSolid, GVal.solid, Nat.reduceBEq, Nat.reduceMul, Nat.reduceLT, List.length_map, List.length_range, splice, vcA, ↓vcB, vcC, fbFz, e97, Int.toNat_zero, List.set_cons_succ, List.set_cons_zero]
          have eT := fun h => jpar_take lo (jall lo (l.take k)) (l.getD k default).par i h
          refine ⟨fun h2 => ⟨by omega, fun h3 => ?_, fun h3 => ?_⟩, fun h2 => ?_⟩
          · have c47 := spec47 (jpar lo (jall lo (l.take k)) ((l.getD k default).par.take i)) (.tok 3 v) ((l.getD k default).par.getD i 0) (by omega)
            by_cases hm : (l.getD k default).par.getD i 0 ∈ jpar lo (jall lo (l.take k)) ((l.getD k default).par.take i)
            · rw [decide_eq_true hm] at c47
              have eT' := (eT (by omega)).trans (if_neg (fun h => h.2 hm))
              refine c47.then ?_
              simp +contextual -implicitDefEqProofs (maxSteps := 2000000) (disch := omega) only [drawC, drawK, keepT, ↓lenV, binV, ↓unV, ↓loadV, ↓storeV, ↓fieldAddrV, ↓indexAddrV, ↓allocV, ↓buildV, ↓buildSliceV, ↓appendV, ↓srcV, fillG, fillE, place, GVal.cells, grp, GVal.ofConst, ↓resV, resG, List.map, List.headD, List.take, List.drop, ↓reduceIte, Nat.reduceEqDiff, Nat.reduceAdd, Nat.reduceSub, Nat.reduceLeDiff, reduceCtorEq, implies_true, ne_eq, ↓asrcV, Tag.cap, List.replicate, allSolid, GVal.solid, Nat.reduceBEq, Nat.reduceMul, Nat.reduceLT, List.length_map, List.length_range, splice, vcA, ↓vcB, vcC, fbFz, e97, Int.toNat_zero, List.set_cons_succ, List.set_cons_zero]
              exact Into.at ⟨(i + 1, v), by show i + 1 ≤ _; omega⟩ (by show (l.getD k default).par.length - (i + 1) < (l.getD k default).par.length - i; omega) ⟨[], by simp only [eT', List.append_nil]⟩ (by simp [WL, leG_self, leG_any, leG_int])
            · rw [decide_eq_false hm] at c47
              have eT' := (eT (by omega)).trans (if_pos ⟨h3, hm⟩)
              refine c47.then ?_
              simp +contextual -implicitDefEqProofs (maxSteps := 2000000) (disch := omega) only [drawC, drawK, keepT, ↓lenV, binV, ↓unV, ↓loadV, ↓storeV, ↓fieldAddrV, ↓indexAddrV, ↓allocV, ↓buildV, ↓buildSliceV, ↓appendV, ↓srcV, fillG, fillE, place, GVal.cells, grp, GVal.ofConst, ↓resV, resG, List.map, List.headD, List.take, List.drop, ↓reduceIte, Nat.reduceEqDiff, Nat.reduceAdd, Nat.reduceSub, Nat.reduceLeDiff, reduceCtorEq, implies_true, ne_eq, ↓asrcV, Tag.cap, List.replicate, allSolid, GVal.solid, Nat.reduceBEq, Nat.reduceMul, Nat.reduceLT, List.length_map, List.length_range, splice, vcA, ↓vcB, vcC, fbFz, e97, Int.toNat_zero, List.set_cons_succ, List.set_cons_zero]
              refine ⟨by omega, by omega, fun w => ?_⟩
              exact Into.at ⟨(i + 1, w), by show i + 1 ≤ _; omega⟩ (by show (l.getD k default).par.length - (i + 1) < (l.getD k default).par.length - i; omega) ⟨[], by simp only [eT', List.append_nil, ints_append, ints_one]⟩ (by simp [WL, leG_self, leG_any, leG_int])
          · have eT' := (eT (by omega)).trans (if_neg (fun h => absurd h.1 (by omega)))
            exact Into.at ⟨(i + 1, v), by show i + 1 ≤ _; omega⟩ (by show (l.getD k default).par.length - (i + 1) < (l.getD k default).par.length - i; omega) ⟨[], by simp only [eT', List.append_nil]⟩ (by simp [WL, leG_self, leG_any, leG_int])
          · rw [List.take_of_length_le (i := i) (l := (l.getD k default).par) (by omega)]
            exact Into.at ⟨(k + 1, v), by show k + 1 ≤ _; omega⟩ (by show _ < _; simp; omega) ⟨[], by simp only [eJ, List.append_nil]⟩ (by simp [WL, leG_self, leG_any, leG_int])
      · have ek : l.take k = l := List.take_of_length_le (by omega)
        rw [ek] at hb
        rw [hj, ek, ← hb]
        exact ⟨4, _, frz_seg _ _ _ _ _ _ _, by rw [leA_agg]; simp [WL, leG_self, leG_none, Tag.frz, leG_bool]⟩
    · simp +contextual -implicitDefEqProofs (maxSteps := 2000000) (disch := omega) only [drawC, drawK, keepT, ↓lenV, binV, ↓unV, ↓loadV, ↓storeV, ↓fieldAddrV, ↓indexAddrV, ↓allocV, ↓buildV, ↓buildSliceV, ↓appendV, ↓srcV, fillG, fillE, place, GVal.cells, grp, GVal.ofConst, ↓resV, resG, List.map, List.headD, List.take, List.drop, ↓reduceIte, Nat.reduceEqDiff, Nat.reduceAdd, Nat.reduceSub, Nat.reduceLeDiff, reduceCtorEq, implies_true, ne_eq, ↓asrcV, Tag.cap, List.replicate, allSolid, GVal.solid, Nat.reduceBEq, Nat.reduceMul, Nat.reduceLT, List.length_map, List.length_range, splice, vcA, ↓vcB, vcC, fbFz, e97, segsG_length, segsG_at, segG, toNat_pred, Int.toNat_zero, List.set_cons_succ, List.set_cons_zero, hb]
      refine ⟨fun h => ⟨by omega, fun st => ?_⟩, fun h => ?_⟩
      · have hkl : k < l.length := by omega
        have eR := anyR_take l k hkl
        have eJ := jall_take lo l k hkl
        have jl1 := jl k
        have hps := sumP_at l k
        have jl2 : ∀ i, (jpar lo (jall lo (l.take k)) ((l.getD k default).par.take i)).length ≤ 1000000 := fun i => by
          have h1 := jpar_len lo ((l.getD k default).par.take i) (jall lo (l.take k))
          have h2 : ((l.getD k default).par.take i).length ≤ (l.getD k default).par.length := by rw [List.length_take]; omega
          omega
        rw [hb] at eR
        refine vcSLoop_by (ι := { p : Nat × Nat // p.1 ≤ (l.getD k default).par.length }) (fun p => ⟨[.slice (segsG l) .none, .any, .ptr 0 st0 0 0, .any, .ptr 2 st2 0 0, .any, .any] ++ List.replicate 17 .any ++ [.slice (segsG l) .none, .int .i64 l.length, .int .i64 (k : Nat)] ++ List.replicate 11 .any ++ [.slice (ints (l.getD k default).par) .none, .int .i64 (l.getD k default).par.length, .int .i64 (p.1.1 : Nat)] ++ List.replicate 23 .any, [.row st0 5 [[.int .i64 0, .int .i64 0, .slice [] .nil, .bool false, .bool false]], .row st1 5 [[.int .i64 la.lo, .int .i64 la.hi, .slice (ints la.par) .none, .bool la.root, .bool la.head]], .row st2 5 [[.int .i64 lo, .int .i64 la.hi, .slice (ints (jpar lo (jall lo (l.take k)) ((l.getD k default).par.take p.1.1))) (.tok 3 p.1.2), .bool (anyR (l.take (k + 1))), .bool la.head]], .tok p.1.2 1]⟩) (fun p => (l.getD k default).par.length - p.1.1) ?_ ?_
        · exact Into.first ⟨(0, u), by omega⟩ ⟨_, by simp [jpar, eR]; rfl⟩ (by simp [WL, leG_self, leG_any])
        · rintro ⟨⟨i, v⟩, hi⟩
          change i ≤ (l.getD k default).par.length at hi
          have jl3 := jl2 i
          simp +contextual -implicitDefEqProofs (maxSteps := 2000000) (disch := omega) only [drawC, drawK, keepT, ↓lenV, binV, ↓unV, ↓loadV, ↓storeV, ↓fieldAddrV, ↓indexAddrV, ↓allocV, ↓buildV, ↓buildSliceV, ↓appendV, ↓srcV, fillG, fillE, place, GVal.cells, grp, GVal.ofConst, ↓resV, resG, List.map, List.headD, List.take, List.drop, ↓reduceIte, Nat.reduceEqDiff, Nat.reduceAdd, Nat.reduceSub, Nat.reduceLeDiff, reduceCtorEq, implies_true, ne_eq, ↓asrcV, Tag.cap, List.replicate, allSolid, GVal.solid, Nat.reduceBEq, Nat.reduceMul, Nat.reduceLT, List.length_map, List.length_range, splice, vcA, ↓vcB, vcC, fbFz, e97, Int.toNat_zero, List.set_cons_succ, List.set_cons_zero]
          have eT := fun h => jpar_take lo (jall lo (l.take k)) (l.getD k default).par i h
          refine ⟨fun h2 => ⟨by omega, fun h3 => ?_, fun h3 => ?_⟩, fun h2 => ?_⟩
          · have c47 := spec47 (jpar lo (jall lo (l.take k)) ((l.getD k default).par.take i)) (.tok 3 v) ((l.getD k default).par.getD i 0) (by omega)
            by_cases hm : (l.getD k default).par.getD i 0 ∈ jpar lo (jall lo (l.take k)) ((l.getD k default).par.take i)
            · rw [decide_eq_true hm] at c47
              have eT' := (eT (by omega)).trans (if_neg (fun h => h.2 hm))
              refine c47.then ?_
              simp +contextual -implicitDefEqProofs (maxSteps := 2000000) (disch := omega) only [drawC, drawK, keepT, ↓lenV, binV, ↓unV, ↓loadV, ↓storeV, ↓fieldAddrV, ↓indexAddrV, ↓allocV, ↓buildV, ↓buildSliceV, ↓appendV, ↓srcV, fillG, fillE, place, GVal.cells, grp, GVal.ofConst, ↓resV, resG, List.map, List.headD, List.take, List.drop, ↓reduceIte, Nat.reduceEqDiff, Nat.reduceAdd, Nat.reduceSub, Nat.reduceLeDiff, reduceCtorEq, implies_true, ne_eq, ↓asrcV, Tag.cap, List.replicate, allSolid, GVal.solid, Nat.reduceBEq, Nat.reduceMul, Nat.reduceLT, List.length_map, List.length_range, splice, vcA, ↓vcB, vcC, fbFz, e97, Int.toNat_zero, List.set_cons_succ, List.set_cons_zero]
              exact Into.at ⟨(i + 1, v), by show i + 1 ≤ _; omega⟩ (by show (l.getD k default).par.length - (i + 1) < (l.getD k default).par.length - i; omega) ⟨[], by simp only [eT', List.append_nil]⟩ (by simp [WL, leG_self, leG_any, leG_int])
            · rw [decide_eq_false hm] at c47
              have eT' := (eT (by omega)).trans (if_pos ⟨h3, hm⟩)
              refine c47.then ?_
              simp +contextual -implicitDefEqProofs (maxSteps := 2000000) (disch := omega) only [drawC, drawK, keepT, ↓lenV, binV, ↓unV, ↓loadV, ↓storeV, ↓fieldAddrV, ↓indexAddrV, ↓allocV, ↓buildV, ↓buildSliceV, ↓appendV, ↓srcV, fillG, fillE, place, GVal.cells, grp, GVal.ofConst, ↓resV, resG, List.map, List.headD, List.take, List.drop, ↓reduceIte, Nat.reduceEqDiff, Nat.reduceAdd, Nat.reduceSub, Nat.reduceLeDiff, reduceCtorEq, implies_true, ne_eq, ↓asrcV, Tag.cap, List.replicate, allSolid, GVal.solid, Nat.reduceBEq, Nat.reduceMul, Nat.reduceLT, List.length_map, List.length_range, splice, vcA, ↓vcB, vcC, fbFz, e97, Int.toNat_zero, List.set_cons_succ, List.set_cons_zero]
              refine ⟨by omega, by omega, fun w => ?_⟩
              exact Into.at ⟨(i + 1, w), by show i + 1 ≤ _; omega⟩ (by show (l.getD k default).par.length - (i + 1) < (l.getD k default).par.length - i; omega) ⟨[], by simp only [eT', List.append_nil, ints_append, ints_one]⟩ (by simp [WL, leG_self, leG_any, leG_int])
          · have eT' := (eT (by omega)).trans (if_neg (fun h => absurd h.1 (by omega)))
            exact Into.at ⟨(i + 1, v), by show i + 1 ≤ _; omega⟩ (by show (l.getD k default).par.length - (i + 1) < (l.getD k default).par.length - i; omega) ⟨[], by simp only [eT', List.append_nil]⟩ (by simp [WL, leG_self, leG_any, leG_int])
          · rw [List.take_of_length_le (i := i) (l := (l.getD k default).par) (by omega)]
            exact Into.at ⟨(k + 1, v), by show k + 1 ≤ _; omega⟩ (by show _ < _; simp; omega) ⟨[], by simp only [eJ, List.append_nil]⟩ (by simp [WL, leG_self, leG_any, leG_int])
      · have ek : l.take k = l := List.take_of_length_le (by omega)
        rw [ek] at hb
        rw [hj, ek, ← hb]
        exact ⟨4, _, frz_seg _ _ _ _ _ _ _, by rw [leA_agg]; simp [WL, leG_self, leG_none, Tag.frz, leG_bool]⟩

end Gv.Tryz
/- Contracts: one level more; all levels. -/
set_option linter.unusedVariables false
set_option linter.unusedSimpArgs false
set_option maxRecDepth 20000
set_option maxHeartbeats 4000000
namespace Gv.Tryz
open Go Gv Go.Proofs

inductive UpOK (size : Int) : List Seg → List Seg → Prop
  | nil : UpOK size [] []
  | cons (l u : List Seg) (n : Nat) : runOK l size n → (n = 1 ∨ headsN (l.take n) = 1) → UpOK size (l.drop n) u → UpOK size l (joinI (l.take n) :: u)
theorem runOK.down {l : List Seg} {size : Int} {n m : Nat} (h : runOK l size n) (h1 : 1 ≤ m) (h2 : m ≤ n) : runOK l size m := by
  obtain ⟨a, b, c, d⟩ := h
  exact ⟨h1, by omega, by omega, fun i hi => d i (by omega)⟩
theorem frz_segsS (O : List GObj) (n : Nat) (l : List Seg) (t : Tag) : Gv.frz O (n + 3) (.slice (segsG l) t) = some (.slice (segsG l) t.frz) := by
  rw [Gv.frz, frz_segs]
theorem sumP_drop (l : List Seg) (k : Nat) : sumP (l.drop k) ≤ sumP l := by
  have := sumP_app (l.take k) (l.drop k)
  rw [List.take_append_drop] at this
  omega
theorem segsG_nil : segsG [] = [] := rfl

theorem rel20 (l : List Seg) (size : Int) (hl : l.length ≤ 1000) (hp : sumP l ≤ 100000) (hs : 2 ≤ size) : GRel Tryz.prog 81 [.slice (segsG l) .none, .int .i64 size] (fun g => ∃ u, g = .slice (segsG u) .none ∧ UpOK size l u) := by
  refine h81.rel mixS (by simp) ?_
  simp only [gstart, s81, List.cons_append, List.nil_append, List.length_cons, List.length_nil, Nat.reduceAdd, Nat.reduceSub, List.replicate_succ, List.replicate_zero]
  simp +contextual -implicitDefEqProofs (maxSteps := 2000000) (disch := omega) only [↓lenV, binV, optV, ↓buildSliceV, ↓sliceV, ↓appendV, ↓srcV, bound, cutTag, hiTag, fillE, GVal.cells, grp, GVal.ofConst, ↓resV, resG, List.map, List.headD, List.take, List.drop, ↓reduceIte, Nat.reduceEqDiff, Nat.reduceAdd, Nat.reduceSub, Nat.reduceLeDiff, reduceCtorEq, implies_true, ne_eq, ↓asrcV, aggV, Tag.cap, List.replicate, allSolid, GVal.solid, Nat.reduceBEq, Nat.reduceMul, Nat.reduceLT, List.length_map, List.length_range, splice, vcA, ↓vcB, vcC, fbFz, e81]
  refine ⟨fun h => absurd h (by omega), fun _ => ?_⟩
  refine vcSLoop_by (ι := { p : List Seg × List Seg × Nat // (∀ u, UpOK size p.2.1 u → UpOK size l (p.1 ++ u)) ∧ p.1.length + p.2.1.length ≤ l.length ∧ sumP p.2.1 ≤ 100000 }) (fun p => ⟨[.slice (segsG p.1.2.1) .none, .int .i64 size, .any, .any, .any, .slice (segsG p.1.1) (.tok 0 p.1.2.2)] ++ List.replicate 31 .any, [.tok p.1.2.2 5]⟩) (fun p => p.1.2.1.length) ?_ ?_
  · refine Into.tok 5 5 [] rfl rfl ?_
    simp +contextual -implicitDefEqProofs (maxSteps := 2000000) (disch := omega) only [↓lenV, binV, optV, ↓buildSliceV, ↓sliceV, ↓appendV, ↓srcV, bound, cutTag, hiTag, fillE, GVal.cells, grp, GVal.ofConst, ↓resV, resG, List.map, List.headD, List.take, List.drop, ↓reduceIte, Nat.reduceEqDiff, Nat.reduceAdd, Nat.reduceSub, Nat.reduceLeDiff, reduceCtorEq, implies_true, ne_eq, ↓asrcV, aggV, Tag.cap, List.replicate, allSolid, GVal.solid, Nat.reduceBEq, Nat.reduceMul, Nat.reduceLT, List.length_map, List.length_range, splice, vcA, ↓vcB, vcC, fbFz, e81]
    intro t
    exact Into.first ⟨([], l, t), fun u h => h, by simp, hp⟩ ⟨[], by simp⟩ (by simp [WL, leG_self, leG_any, segsG_nil])
  · rintro ⟨⟨out, rest, v⟩, h1, h2, h3⟩
    change ∀ u, UpOK size rest u → UpOK size l (out ++ u) at h1
    change out.length + rest.length ≤ l.length at h2
    change sumP rest ≤ 100000 at h3
    simp +contextual -implicitDefEqProofs (maxSteps := 2000000) (disch := omega) only [↓lenV, binV, optV, ↓buildSliceV, ↓sliceV, ↓appendV, ↓srcV, bound, cutTag, hiTag, fillE, GVal.cells, grp, GVal.ofConst, ↓resV, resG, List.map, List.headD, List.take, List.drop, ↓reduceIte, Nat.reduceEqDiff, Nat.reduceAdd, Nat.reduceSub, Nat.reduceLeDiff, reduceCtorEq, implies_true, ne_eq, ↓asrcV, aggV, Tag.cap, List.replicate, allSolid, GVal.solid, Nat.reduceBEq, Nat.reduceMul, Nat.reduceLT, List.length_map, List.length_range, splice, vcA, ↓vcB, vcC, fbFz, e81, segsG_length]
    refine ⟨fun h => ?_, fun h => ?_⟩
    · have hne : rest ≠ [] := fun e => by subst e; simp at h
      refine (rel42 rest size .none (by omega) hne hs).then ?_
      rintro g ⟨n0, rfl, hn0⟩
      simp +contextual -implicitDefEqProofs (maxSteps := 2000000) (disch := omega) only [↓lenV, binV, optV, ↓buildSliceV, ↓sliceV, ↓appendV, ↓srcV, bound, cutTag, hiTag, fillE, GVal.cells, grp, GVal.ofConst, ↓resV, resG, List.map, List.headD, List.take, List.drop, ↓reduceIte, Nat.reduceEqDiff, Nat.reduceAdd, Nat.reduceSub, Nat.reduceLeDiff, reduceCtorEq, implies_true, ne_eq, ↓asrcV, aggV, Tag.cap, List.replicate, allSolid, GVal.solid, Nat.reduceBEq, Nat.reduceMul, Nat.reduceLT, List.length_map, List.length_range, splice, vcA, ↓vcB, vcC, fbFz, e81]
      refine vcSLoop_by (ι := { n : Nat // runOK rest size n }) (fun n => ⟨[.slice (segsG rest) .none, .int .i64 size, .any, .any, .any, .slice (segsG out) (.tok 0 v), .int .i64 (n.1 : Nat)] ++ List.replicate 30 .any, [.tok v 5]⟩) (fun n => n.1) ?_ ?_
      · exact Into.first ⟨n0, hn0⟩ ⟨[], by simp⟩ (by simp [WL, leG_self, leG_any])
      · rintro ⟨n, hn⟩
        have hn' := hn
        obtain ⟨n1, n2, n3, n4⟩ := hn'
        have hF : (segsG rest).take rest.length = segsG rest := List.take_of_length_le (by rw [segsG_length]; omega)
        have hlen : (rest.take n).length = n := by rw [List.length_take]; omega
        simp +contextual -implicitDefEqProofs (maxSteps := 2000000) (disch := omega) only [↓lenV, binV, optV, ↓buildSliceV, ↓sliceV, ↓appendV, ↓srcV, bound, cutTag, hiTag, fillE, GVal.cells, grp, GVal.ofConst, ↓resV, resG, List.map, List.headD, List.take, List.drop, ↓reduceIte, Nat.reduceEqDiff, Nat.reduceAdd, Nat.reduceSub, Nat.reduceLeDiff, reduceCtorEq, implies_true, ne_eq, ↓asrcV, aggV, Tag.cap, List.replicate, allSolid, GVal.solid, Nat.reduceBEq, Nat.reduceMul, Nat.reduceLT, List.length_map, List.length_range, splice, vcA, ↓vcB, vcC, fbFz, e81, segsG_length, segsG_take, Int.toNat_zero, all_segsG]
        refine ⟨fun h4 => ⟨by omega, by omega, by omega, ?_⟩, fun h4 => ⟨by omega, by omega, by omega, ?_⟩⟩
        · refine (spec23 (rest.take n) (by omega) (fun i => by have := sumP_at (rest.take n) i; have := sumP_take rest n; omega)).then ?_
          by_cases h5 : headsN (rest.take n) = 1
          · have h6 : ((headsN (rest.take n) : Nat) : Int) = 1 := by omega
            simp +contextual -implicitDefEqProofs (maxSteps := 2000000) (disch := omega) only [↓lenV, binV, optV, ↓buildSliceV, ↓sliceV, ↓appendV, ↓srcV, bound, cutTag, hiTag, fillE, GVal.cells, grp, GVal.ofConst, ↓resV, resG, List.map, List.headD, List.take, List.drop, ↓reduceIte, Nat.reduceEqDiff, Nat.reduceAdd, Nat.reduceSub, Nat.reduceLeDiff, reduceCtorEq, implies_true, ne_eq, ↓asrcV, aggV, Tag.cap, List.replicate, allSolid, GVal.solid, Nat.reduceBEq, Nat.reduceMul, Nat.reduceLT, List.length_map, List.length_range, splice, vcA, ↓vcB, vcC, fbFz, e81, segsG_length, segsG_take, Int.toNat_zero, all_segsG]
            refine ⟨fun h7 => absurd h6 h7, fun _ => ⟨by omega, by omega, by omega, ?_⟩⟩
            refine (spec43 (rest.take n) (by rw [List.length_take]; omega) (fun e => by rw [e] at hlen; simp at hlen; omega) (by have := sumP_take rest n; omega)).then ?_
            simp +contextual -implicitDefEqProofs (maxSteps := 2000000) (disch := omega) only [↓lenV, binV, optV, ↓buildSliceV, ↓sliceV, ↓appendV, ↓srcV, bound, cutTag, hiTag, fillE, GVal.cells, grp, GVal.ofConst, ↓resV, resG, List.map, List.headD, List.take, List.drop, ↓reduceIte, Nat.reduceEqDiff, Nat.reduceAdd, Nat.reduceSub, Nat.reduceLeDiff, reduceCtorEq, implies_true, ne_eq, ↓asrcV, aggV, Tag.cap, List.replicate, allSolid, GVal.solid, Nat.reduceBEq, Nat.reduceMul, Nat.reduceLT, List.length_map, List.length_range, splice, vcA, ↓vcB, vcC, fbFz, e81, segsG_length, segsG_drop, all_segsG, segG, hF]
            refine ⟨by omega, by omega, fun w => ⟨by omega, by omega, by omega, ?_⟩⟩
            refine Into.at ⟨(out ++ [joinI (rest.take n)], rest.drop n, w), fun u hu => ?_, ?_, ?_⟩ ?_ ⟨[], by simp⟩ ?_
            · show UpOK size l (out ++ [joinI (rest.take n)] ++ u)
              rw [List.append_assoc]
              exact h1 _ (.cons rest u n hn (.inr h5) hu)
            · show (out ++ [joinI (rest.take n)]).length + (rest.drop n).length ≤ l.length
              rw [List.length_append, List.length_drop]; simp; omega
            · show sumP (rest.drop n) ≤ 100000
              have := sumP_drop rest n; omega
            · show (rest.drop n).length < rest.length
              rw [List.length_drop]; omega
            · simp [WL, leG_self, leG_any, leG_int, segsG_append, segsG_one, segG]

          · have h6 : ((headsN (rest.take n) : Nat) : Int) ≠ 1 := by omega
            simp +contextual -implicitDefEqProofs (maxSteps := 2000000) (disch := omega) only [↓lenV, binV, optV, ↓buildSliceV, ↓sliceV, ↓appendV, ↓srcV, bound, cutTag, hiTag, fillE, GVal.cells, grp, GVal.ofConst, ↓resV, resG, List.map, List.headD, List.take, List.drop, ↓reduceIte, Nat.reduceEqDiff, Nat.reduceAdd, Nat.reduceSub, Nat.reduceLeDiff, reduceCtorEq, implies_true, ne_eq, ↓asrcV, aggV, Tag.cap, List.replicate, allSolid, GVal.solid, Nat.reduceBEq, Nat.reduceMul, Nat.reduceLT, List.length_map, List.length_range, splice, vcA, ↓vcB, vcC, fbFz, e81, segsG_length]
            refine ⟨fun _ => ?_, fun h7 => absurd h7 h6⟩
            exact Into.at ⟨n - 1, hn.down (by omega) (by omega)⟩ (by show n - 1 < n; omega) ⟨[], by simp⟩ (by simp [WL, leG_self, leG_any, leG_int] <;> omega)
        · skip
          refine (spec43 (rest.take n) (by rw [List.length_take]; omega) (fun e => by rw [e] at hlen; simp at hlen; omega) (by have := sumP_take rest n; omega)).then ?_
          simp +contextual -implicitDefEqProofs (maxSteps := 2000000) (disch := omega) only [↓lenV, binV, optV, ↓buildSliceV, ↓sliceV, ↓appendV, ↓srcV, bound, cutTag, hiTag, fillE, GVal.cells, grp, GVal.ofConst, ↓resV, resG, List.map, List.headD, List.take, List.drop, ↓reduceIte, Nat.reduceEqDiff, Nat.reduceAdd, Nat.reduceSub, Nat.reduceLeDiff, reduceCtorEq, implies_true, ne_eq, ↓asrcV, aggV, Tag.cap, List.replicate, allSolid, GVal.solid, Nat.reduceBEq, Nat.reduceMul, Nat.reduceLT, List.length_map, List.length_range, splice, vcA, ↓vcB, vcC, fbFz, e81, segsG_length, segsG_drop, all_segsG, segG, hF]
          refine ⟨by omega, by omega, fun w => ⟨by omega, by omega, by omega, ?_⟩⟩
          refine Into.at ⟨(out ++ [joinI (rest.take n)], rest.drop n, w), fun u hu => ?_, ?_, ?_⟩ ?_ ⟨[], by simp⟩ ?_
          · show UpOK size l (out ++ [joinI (rest.take n)] ++ u)
            rw [List.append_assoc]
            exact h1 _ (.cons rest u n hn (.inl (by omega)) hu)
          · show (out ++ [joinI (rest.take n)]).length + (rest.drop n).length ≤ l.length
            rw [List.length_append, List.length_drop]; simp; omega
          · show sumP (rest.drop n) ≤ 100000
            have := sumP_drop rest n; omega
          · show (rest.drop n).length < rest.length
            rw [List.length_drop]; omega
          · simp [WL, leG_self, leG_any, leG_int, segsG_append, segsG_one, segG]
    · have e : rest = [] := List.length_eq_zero_iff.1 (by omega)
      subst e
      have := h1 [] .nil
      rw [List.append_nil] at this
      exact ⟨_, ⟨3, _, frz_segsS _ 0 _ _, by rw [Tag.frz, leA_slice]⟩, out, rfl, this⟩

end Gv.Tryz
/- Contracts: all levels. -/
set_option linter.unusedVariables false
set_option linter.unusedSimpArgs false
set_option maxRecDepth 20000
set_option maxHeartbeats 4000000
namespace Gv.Tryz
open Go Gv Go.Proofs

def levsG (L : List (List Seg)) : List (List GVal) := L.map fun s => [.slice (segsG s) .none]
theorem levsG_length (L : List (List Seg)) : (levsG L).length = L.length := by simp [levsG]
theorem levsG_at (L : List (List Seg)) (i : Nat) (h : i < L.length) : (levsG L).getD i [] = [.slice (segsG (L.getD i [])) .none] := by simp [levsG, List.getD, h]
theorem levsG_append (a b : List (List Seg)) : levsG (a ++ b) = levsG a ++ levsG b := by simp [levsG]
theorem levsG_one (s : List Seg) : levsG [s] = [[.slice (segsG s) .none]] := rfl
theorem all_levsG (L : List (List Seg)) : (∀ x ∈ levsG L, x.length = 1) = True := by simp [levsG]
theorem frz_levs (O : List GObj) (n : Nat) (L : List (List Seg)) (t : Tag) : Gv.frz O (n + 5) (.slice (levsG L) t) = some (.slice (levsG L) t.frz) := by
  rw [Gv.frz, frzLL_same]
  intro x hx
  obtain ⟨s, _, rfl⟩ := List.mem_map.1 hx
  simp only [frzL, frz_segsS _ (n + 1), Tag.frz]
theorem joinI_par (l : List Seg) : (joinI l).par.length ≤ sumP l := by
  have := jall_len (l.getD 0 default).lo l l.length
  rw [List.take_of_length_le (Nat.le_refl _)] at this
  exact this
theorem UpOK.bound {size : Int} {l u : List Seg} (h : UpOK size l u) : u.length ≤ l.length ∧ sumP u ≤ sumP l := by
  induction h with
  | nil => simp
  | cons l u n h1 h2 h3 ih =>
    obtain ⟨a, b, c, d⟩ := h1
    have e := sumP_app (l.take n) (l.drop n)
    rw [List.take_append_drop] at e
    have := joinI_par (l.take n)
    simp only [List.length_cons, sumP]
    rw [List.length_drop] at ih
    omega
def LevOK (size : Int) (l : List Seg) (L : List (List Seg)) : Prop :=
  1 ≤ L.length ∧ L.length ≤ 4 ∧ L.getD 0 [] = l ∧ (∀ i, i + 1 < L.length → UpOK size (L.getD i []) (L.getD (i + 1) []) ∧ (L.getD (i + 1) []).length < (L.getD i []).length) ∧ ∀ i, (L.getD i []).length ≤ 1000 ∧ sumP (L.getD i []) ≤ 100000
theorem LevOK.more {size : Int} {l : List Seg} {L : List (List Seg)} (h : LevOK size l L) {u : List Seg} (hl : L.length < 4) (hu : UpOK size (L.getD (L.length - 1) []) u) (hlt : u.length < (L.getD (L.length - 1) []).length) : LevOK size l (L ++ [u]) := by
  obtain ⟨h1, h2, h3, h4, h5⟩ := h
  have hb := hu.bound
  have at_ : ∀ i, (L ++ [u]).getD i [] = if i < L.length then L.getD i [] else if i = L.length then u else [] := by
    intro i
    split
    · rename_i h; rw [List.getD_eq_getElem?_getD, List.getD_eq_getElem?_getD, List.getElem?_append_left h]
    · split
      · rename_i h; subst h; simp [List.getD]
      · rw [List.getD_eq_getElem?_getD, List.getElem?_eq_none (by simp; omega)]; rfl
  refine ⟨by simp, by simp; omega, by rw [at_, if_pos (by omega)]; exact h3, fun i hi => ?_, fun i => ?_⟩
  · simp at hi
    rw [at_, at_, if_pos (by omega)]
    by_cases e : i + 1 < L.length
    · rw [if_pos e]; exact h4 i e
    · have : i = L.length - 1 := by omega
      rw [if_neg e, if_pos (by omega), this]
      exact ⟨hu, hlt⟩
  · rw [at_]
    split
    · exact h5 i
    · split
      · have := h5 (L.length - 1); omega
      · simp [sumP]

theorem rel21 (l : List Seg) (size : Int) (hl : l.length ≤ 1000) (hp : sumP l ≤ 100000) (hs : 2 ≤ size) : GRel Tryz.prog 60 [.slice (segsG l) .none, .int .i64 size] (fun g => ∃ L, g = .slice (levsG L) .none ∧ LevOK size l L) := by
  refine h60.rel mixS (by simp) ?_
  simp only [gstart, s60, List.cons_append, List.nil_append, List.length_cons, List.length_nil, Nat.reduceAdd, Nat.reduceSub, List.replicate_succ, List.replicate_zero]
  simp +contextual -implicitDefEqProofs (maxSteps := 2000000) (disch := omega) only [↓lenV, binV, optV, ↓loadV, ↓indexAddrV, ↓buildSliceV, ↓sliceV, ↓appendV, ↓srcV, bound, cutTag, hiTag, fillE, GVal.cells, grp, GVal.ofConst, ↓resV, resG, List.map, List.headD, List.take, List.drop, ↓reduceIte, Nat.reduceEqDiff, Nat.reduceAdd, Nat.reduceSub, Nat.reduceLeDiff, reduceCtorEq, implies_true, ne_eq, ↓asrcV, Tag.cap, List.replicate, allSolid, GVal.solid, Nat.reduceBEq, Nat.reduceMul, Nat.reduceLT, List.length_map, List.length_range, splice, vcA, ↓vcB, vcC, fbFz, e60]
  refine (spec44 l (by omega) (fun i => by have := sumP_at l i; omega)).then ?_
  simp +contextual -implicitDefEqProofs (maxSteps := 2000000) (disch := omega) only [↓lenV, binV, optV, ↓loadV, ↓indexAddrV, ↓buildSliceV, ↓sliceV, ↓appendV, ↓srcV, bound, cutTag, hiTag, fillE, GVal.cells, grp, GVal.ofConst, ↓resV, resG, List.map, List.headD, List.take, List.drop, ↓reduceIte, Nat.reduceEqDiff, Nat.reduceAdd, Nat.reduceSub, Nat.reduceLeDiff, reduceCtorEq, implies_true, ne_eq, ↓asrcV, Tag.cap, List.replicate, allSolid, GVal.solid, Nat.reduceBEq, Nat.reduceMul, Nat.reduceLT, List.length_map, List.length_range, splice, vcA, ↓vcB, vcC, fbFz, e60]
  refine vcSLoop_by (ι := { p : List (List Seg) × Nat // LevOK size l p.1 }) (fun p => ⟨[.any, .int .i64 size, .any, .any, .any, .slice (levsG p.1.1) (.tok 0 p.1.2)] ++ List.replicate 31 .any, [.tok p.1.2 1]⟩) (fun p => 4 - p.1.1.length) ?_ ?_
  · refine Into.tok 5 1 [[.slice (segsG l) .none]] rfl rfl ?_
    simp +contextual -implicitDefEqProofs (maxSteps := 2000000) (disch := omega) only [↓lenV, binV, optV, ↓loadV, ↓indexAddrV, ↓buildSliceV, ↓sliceV, ↓appendV, ↓srcV, bound, cutTag, hiTag, fillE, GVal.cells, grp, GVal.ofConst, ↓resV, resG, List.map, List.headD, List.take, List.drop, ↓reduceIte, Nat.reduceEqDiff, Nat.reduceAdd, Nat.reduceSub, Nat.reduceLeDiff, reduceCtorEq, implies_true, ne_eq, ↓asrcV, Tag.cap, List.replicate, allSolid, GVal.solid, Nat.reduceBEq, Nat.reduceMul, Nat.reduceLT, List.length_map, List.length_range, splice, vcA, ↓vcB, vcC, fbFz, e60]
    intro t
    exact Into.first ⟨([l], t), by simp, by simp, rfl, fun i hi => by simp at hi, fun i => by
      cases i with
      | zero => exact ⟨hl, hp⟩
      | succ i => simp [List.getD, sumP]⟩ ⟨[], by simp⟩ (by simp [WL, leG_self, leG_any, levsG_one])
  · rintro ⟨⟨L, v⟩, hL⟩
    change LevOK size l L at hL
    have hL' := hL
    obtain ⟨h1, h2, h3, h4, h5⟩ := hL'
    have out : ∃ r, frzTo r (.slice (levsG L) (.tok 0 v)) [.tok v 1] ∧ ∃ L, r = .slice (levsG L) .none ∧ LevOK size l L := ⟨_, ⟨5, _, frz_levs _ 0 _ _, by rw [Tag.frz, leA_slice]⟩, L, rfl, hL⟩
    simp +contextual -implicitDefEqProofs (maxSteps := 2000000) (disch := omega) only [↓lenV, binV, optV, ↓loadV, ↓indexAddrV, ↓buildSliceV, ↓sliceV, ↓appendV, ↓srcV, bound, cutTag, hiTag, fillE, GVal.cells, grp, GVal.ofConst, ↓resV, resG, List.map, List.headD, List.take, List.drop, ↓reduceIte, Nat.reduceEqDiff, Nat.reduceAdd, Nat.reduceSub, Nat.reduceLeDiff, reduceCtorEq, implies_true, ne_eq, ↓asrcV, Tag.cap, List.replicate, allSolid, GVal.solid, Nat.reduceBEq, Nat.reduceMul, Nat.reduceLT, List.length_map, List.length_range, splice, vcA, ↓vcB, vcC, fbFz, e60, levsG_length, levsG_at, toNat_pred]
    refine ⟨fun _ => ⟨fun h6 => ⟨by omega, by omega, ?_⟩, fun _ => out⟩, fun h => absurd hs (by omega)⟩
    have hb := h5 (L.length - 1)
    refine (rel20 (L.getD (L.length - 1) []) size hb.1 hb.2 hs).then ?_
    rintro g ⟨u, rfl, hu⟩
    simp +contextual -implicitDefEqProofs (maxSteps := 2000000) (disch := omega) only [↓lenV, binV, optV, ↓loadV, ↓indexAddrV, ↓buildSliceV, ↓sliceV, ↓appendV, ↓srcV, bound, cutTag, hiTag, fillE, GVal.cells, grp, GVal.ofConst, ↓resV, resG, List.map, List.headD, List.take, List.drop, ↓reduceIte, Nat.reduceEqDiff, Nat.reduceAdd, Nat.reduceSub, Nat.reduceLeDiff, reduceCtorEq, implies_true, ne_eq, ↓asrcV, Tag.cap, List.replicate, allSolid, GVal.solid, Nat.reduceBEq, Nat.reduceMul, Nat.reduceLT, List.length_map, List.length_range, splice, vcA, ↓vcB, vcC, fbFz, e60, segsG_length, all_levsG, levsG_length]
    refine ⟨fun h7 => out, fun h7 => ⟨by omega, by omega, fun w => ?_⟩⟩
    exact Into.at ⟨(L ++ [u], w), hL.more (by omega) hu (by omega)⟩ (by show 4 - (L ++ [u]).length < 4 - L.length; rw [List.length_append]; simp; omega) ⟨[], by simp⟩ (by simp [WL, leG_self, leG_any, leG_int, levsG_append, levsG_one])

end Gv.Tryz
/- Contracts: all that some IDs stand on. -/
set_option linter.unusedVariables false
set_option linter.unusedSimpArgs false
set_option maxRecDepth 20000
set_option maxHeartbeats 4000000
namespace Gv.Tryz
open Go Gv Go.Proofs

theorem nodup_len : ∀ (l A : List Int), l.Nodup → (∀ x ∈ l, x ∈ A) → l.length ≤ A.length
  | [], A, _, _ => by simp
  | a :: r, A, hn, h => by
    rw [List.nodup_cons] at hn
    have ha := h a (by simp)
    have := nodup_len r (A.erase a) hn.2 fun x hx => (List.mem_erase_of_ne (fun e => hn.1 (by rw [← e]; exact hx))).2 (h x (by simp [hx]))
    rw [List.length_erase_of_mem ha] at this
    have h2 : 0 < A.length := List.length_pos_of_mem ha
    simp only [List.length_cons]; omega

structure UpInv (m o : List (List Int)) (ids out todo : List Int) : Prop where
  nodup : out.Nodup
  has : ∀ x ∈ out, hasI m.length o.length x = true
  start : ∀ x ∈ ids, hasI m.length o.length x = true → x ∈ out ∨ x ∈ todo
  step : ∀ x ∈ out, ∀ p ∈ parI m o x, hasI m.length o.length p = true → p ∈ out ∨ p ∈ todo
  least : ∀ S : Int → Prop, (∀ x ∈ ids, S x) → (∀ x, S x → ∀ p ∈ parI m o x, S p) → ∀ x, x ∈ out ∨ x ∈ todo → S x
  len : todo.length ≤ ids.length + 4 * out.length
theorem UpInv.out_len {m o : List (List Int)} {ids out todo : List Int} (h : UpInv m o ids out todo) : out.length ≤ m.length + o.length := by
  have := nodup_len out (allI m.length o.length) h.nodup fun x hx => (allI_hasI _ _ _).2 (h.has x hx)
  rwa [allI_len] at this
theorem UpInv.skip {m o : List (List Int)} {ids out t : List Int} {x : Int} (h : UpInv m o ids out (t ++ [x])) (hx : hasI m.length o.length x = false ∨ x ∈ out) : UpInv m o ids out t := by
  have key : ∀ y, hasI m.length o.length y = true → y ∈ out ∨ y ∈ t ++ [x] → y ∈ out ∨ y ∈ t := fun y hy hh => by
    rcases hh with hh | hh
    · exact .inl hh
    · rcases List.mem_append.1 hh with hh | hh
      · exact .inr hh
      · simp at hh; subst hh
        rcases hx with hx | hx
        · rw [hy] at hx; cases hx
        · exact .inl hx
  refine ⟨h.nodup, h.has, fun y hy hh => key y hh (h.start y hy hh), fun y hy p hp hh => key p hh (h.step y hy p hp hh), fun S h1 h2 y hy => h.least S h1 h2 y (hy.imp id fun hy => by simp [hy]), ?_⟩
  have := h.len; simp at this; omega
theorem UpInv.go {m o : List (List Int)} {ids out t : List Int} {x : Int} (h : UpInv m o ids out (t ++ [x])) (hx : hasI m.length o.length x = true) (hn : x ∉ out) (hp : (parI m o x).length ≤ 4) : UpInv m o ids (out ++ [x]) (t ++ parI m o x) := by
  have key : ∀ y, y ∈ out ∨ y ∈ t ++ [x] → y ∈ out ++ [x] ∨ y ∈ t ++ parI m o x := fun y hh => by
    rcases hh with hh | hh
    · exact .inl (by simp [hh])
    · rcases List.mem_append.1 hh with hh | hh
      · exact .inr (by simp [hh])
      · simp at hh; exact .inl (by simp [hh])
  refine ⟨?_, fun y hy => ?_, fun y hy hh => key y (h.start y hy hh), fun y hy p hp hh => ?_, fun S h1 h2 y hy => ?_, ?_⟩
  · rw [List.nodup_append]
    exact ⟨h.nodup, by simp, fun a ha b hb => by simp at hb; subst hb; exact fun e => hn (by rw [← e]; exact ha)⟩
  · rcases List.mem_append.1 hy with hy | hy
    · exact h.has y hy
    · simp at hy; rw [hy]; exact hx
  · rcases List.mem_append.1 hy with hy | hy
    · exact key p (h.step y hy p hp hh)
    · simp at hy; subst hy; exact .inr (List.mem_append_right _ (by assumption))
  · have hSx : S x := h.least S h1 h2 x (.inr (by simp))
    rcases hy with hy | hy
    · rcases List.mem_append.1 hy with hy | hy
      · exact h.least S h1 h2 y (.inl hy)
      · simp at hy; rw [hy]; exact hSx
    · rcases List.mem_append.1 hy with hy | hy
      · exact h.least S h1 h2 y (.inr (by simp [hy]))
      · exact h2 x hSx y hy
  · have := h.len; simp at this ⊢; omega
def UpSet (m o : List (List Int)) (ids l : List Int) : Prop := UpInv m o ids l []

def upMu (N : Nat) (out todo : List Int) : Nat := 5 * (N - out.length) + todo.length

theorem rel48 (m o : List (List Int)) (tm to ti : Tag) (ids : List Int) (hm : m.length ≤ 1000) (ho : o.length ≤ 1000) (hi : ids.length ≤ 100000) (hr : ∀ x, (parI m o x).length ≤ 4) :
    GRel Tryz.prog 36 [.agg [.slice (tabG m) tm, .slice (tabG o) to], .slice (ints ids) ti] (fun g => ∃ l, g = .slice (ints l) .none ∧ UpSet m o ids l) := by
  refine h36.rel mixS (by simp) ?_
  simp only [gstart, s36, List.cons_append, List.nil_append, List.length_cons, List.length_nil, Nat.reduceAdd, Nat.reduceSub, List.replicate_succ, List.replicate_zero]
  simp +contextual -implicitDefEqProofs (maxSteps := 2000000) (disch := omega) only [↓lenV, binV, ↓unV, optV, ↓loadV, ↓indexAddrV, ↓boxV, ↓buildSliceV, ↓sliceV, ↓appendV, ↓srcV, bound, cutTag, hiTag, fillE, GVal.cells, grp, GVal.ofConst, ↓resV, resG, List.map, List.headD, List.take, List.drop, ↓reduceIte, Nat.reduceEqDiff, Nat.reduceAdd, Nat.reduceSub, Nat.reduceLeDiff, reduceCtorEq, implies_true, ne_eq, ↓asrcV, Tag.cap, List.replicate, allSolid, GVal.solid, Nat.reduceBEq, Nat.reduceMul, Nat.reduceLT, List.length_map, List.length_range, splice, vcA, ↓vcB, vcC, fbFz, e36]
  refine ⟨by omega, by omega, fun a => ?_⟩
  refine vcSLoop_by (ι := { p : List Int × List Int × Nat // UpInv m o ids p.1 p.2.1 }) (fun p => ⟨[.any, .any, .ref [.slice (tabG m) tm, .slice (tabG o) to], .any, .any, .slice (ints p.1.1) (.tok 1 p.1.2.2), .slice (ints p.1.2.1) .none] ++ List.replicate 43 .any, [.tok a 1, .tok p.1.2.2 1]⟩) (fun p => upMu (m.length + o.length) p.1.1 p.1.2.1) ?_ ?_
  · refine Into.tok 5 1 [] rfl rfl ?_
    simp +contextual -implicitDefEqProofs (maxSteps := 2000000) (disch := omega) only [↓lenV, binV, ↓unV, optV, ↓loadV, ↓indexAddrV, ↓boxV, ↓buildSliceV, ↓sliceV, ↓appendV, ↓srcV, bound, cutTag, hiTag, fillE, GVal.cells, grp, GVal.ofConst, ↓resV, resG, List.map, List.headD, List.take, List.drop, ↓reduceIte, Nat.reduceEqDiff, Nat.reduceAdd, Nat.reduceSub, Nat.reduceLeDiff, reduceCtorEq, implies_true, ne_eq, ↓asrcV, Tag.cap, List.replicate, allSolid, GVal.solid, Nat.reduceBEq, Nat.reduceMul, Nat.reduceLT, List.length_map, List.length_range, splice, vcA, ↓vcB, vcC, fbFz, e36]
    intro t
    exact Into.first ⟨([], ids, t), by simp, by simp, fun x hx _ => .inr hx, by simp, fun S h1 h2 x hx => h1 x (by simpa using hx), by simp⟩ ⟨[], by simp⟩ (by simp [WL, leG_self, leG_any, ints_nil, leG_none])
  · rintro ⟨⟨out, todo, v⟩, inv⟩
    change UpInv m o ids out todo at inv
    have hol := inv.out_len
    have htl := inv.len
    have fin : todo = [] → ∃ r, frzTo r (.slice (ints out) (.tok 1 v)) [.tok a 1, .tok v 1] ∧ ∃ l, r = .slice (ints l) .none ∧ UpSet m o ids l := fun e => by
      subst e
      exact ⟨_, ⟨2, _, frz_intsS _ 0 _ _, by rw [Tag.frz, leA_slice]⟩, out, rfl, inv⟩
    simp +contextual -implicitDefEqProofs (maxSteps := 2000000) (disch := omega) only [↓lenV, binV, ↓unV, optV, ↓loadV, ↓indexAddrV, ↓boxV, ↓buildSliceV, ↓sliceV, ↓appendV, ↓srcV, bound, cutTag, hiTag, fillE, GVal.cells, grp, GVal.ofConst, ↓resV, resG, List.map, List.headD, List.take, List.drop, ↓reduceIte, Nat.reduceEqDiff, Nat.reduceAdd, Nat.reduceSub, Nat.reduceLeDiff, reduceCtorEq, implies_true, ne_eq, ↓asrcV, Tag.cap, List.replicate, allSolid, GVal.solid, Nat.reduceBEq, Nat.reduceMul, Nat.reduceLT, List.length_map, List.length_range, splice, vcA, ↓vcB, vcC, fbFz, e36, toNat_pred, ints_take, Int.toNat_zero]
    refine ⟨fun h => ⟨by omega, by omega, by omega, by omega, by omega, ?_⟩, fun h => fin (List.length_eq_zero_iff.1 (by omega))⟩
    have hlast : todo = todo.take (todo.length - 1) ++ [todo.getD (todo.length - 1) 0] := by
      have h1 : todo.length - 1 < todo.length := by omega
      have := List.take_add_one (l := todo) (i := todo.length - 1)
      rw [List.take_of_length_le (by omega), List.getElem?_eq_getElem h1] at this
      simpa [List.getD, h1] using this
    have hl2 : (todo.take (todo.length - 1)).length = todo.length - 1 := by rw [List.length_take]; omega
    generalize todo.getD (todo.length - 1) 0 = x at *
    generalize todo.take (todo.length - 1) = t at *
    rw [hlast] at inv
    have c16 := spec16 m o tm to x hm ho
    have hp := hr x
    cases hh : hasI m.length o.length x
    · rw [hh] at c16
      refine c16.then ?_
      simp +contextual -implicitDefEqProofs (maxSteps := 2000000) (disch := omega) only [↓lenV, binV, ↓unV, optV, ↓loadV, ↓indexAddrV, ↓boxV, ↓buildSliceV, ↓sliceV, ↓appendV, ↓srcV, bound, cutTag, hiTag, fillE, GVal.cells, grp, GVal.ofConst, ↓resV, resG, List.map, List.headD, List.take, List.drop, ↓reduceIte, Nat.reduceEqDiff, Nat.reduceAdd, Nat.reduceSub, Nat.reduceLeDiff, reduceCtorEq, implies_true, ne_eq, ↓asrcV, Tag.cap, List.replicate, allSolid, GVal.solid, Nat.reduceBEq, Nat.reduceMul, Nat.reduceLT, List.length_map, List.length_range, splice, vcA, ↓vcB, vcC, fbFz, e36]
      exact Into.at ⟨(out, t, v), inv.skip (.inl hh)⟩ (by show upMu _ out t < upMu _ out todo; unfold upMu; omega) ⟨[], by simp⟩ (by simp [WL, leG_self, leG_any])
    · rw [hh] at c16
      refine c16.then ?_
      simp +contextual -implicitDefEqProofs (maxSteps := 2000000) (disch := omega) only [↓lenV, binV, ↓unV, optV, ↓loadV, ↓indexAddrV, ↓boxV, ↓buildSliceV, ↓sliceV, ↓appendV, ↓srcV, bound, cutTag, hiTag, fillE, GVal.cells, grp, GVal.ofConst, ↓resV, resG, List.map, List.headD, List.take, List.drop, ↓reduceIte, Nat.reduceEqDiff, Nat.reduceAdd, Nat.reduceSub, Nat.reduceLeDiff, reduceCtorEq, implies_true, ne_eq, ↓asrcV, Tag.cap, List.replicate, allSolid, GVal.solid, Nat.reduceBEq, Nat.reduceMul, Nat.reduceLT, List.length_map, List.length_range, splice, vcA, ↓vcB, vcC, fbFz, e36]
      have c62 := spec62 out (.tok 1 v) x (by omega)
      by_cases hm2 : x ∈ out
      · rw [decide_eq_true hm2] at c62
        refine c62.then ?_
        simp +contextual -implicitDefEqProofs (maxSteps := 2000000) (disch := omega) only [↓lenV, binV, ↓unV, optV, ↓loadV, ↓indexAddrV, ↓boxV, ↓buildSliceV, ↓sliceV, ↓appendV, ↓srcV, bound, cutTag, hiTag, fillE, GVal.cells, grp, GVal.ofConst, ↓resV, resG, List.map, List.headD, List.take, List.drop, ↓reduceIte, Nat.reduceEqDiff, Nat.reduceAdd, Nat.reduceSub, Nat.reduceLeDiff, reduceCtorEq, implies_true, ne_eq, ↓asrcV, Tag.cap, List.replicate, allSolid, GVal.solid, Nat.reduceBEq, Nat.reduceMul, Nat.reduceLT, List.length_map, List.length_range, splice, vcA, ↓vcB, vcC, fbFz, e36]
        exact Into.at ⟨(out, t, v), inv.skip (.inr hm2)⟩ (by show upMu _ out t < upMu _ out todo; unfold upMu; omega) ⟨[], by simp⟩ (by simp [WL, leG_self, leG_any])
      · rw [decide_eq_false hm2] at c62
        refine c62.then ?_
        have inv2 := inv.go hh hm2 hp
        have hol2 := inv2.out_len
        simp only [List.length_append, List.length_singleton] at hol2
        simp +contextual -implicitDefEqProofs (maxSteps := 2000000) (disch := omega) only [↓lenV, binV, ↓unV, optV, ↓loadV, ↓indexAddrV, ↓boxV, ↓buildSliceV, ↓sliceV, ↓appendV, ↓srcV, bound, cutTag, hiTag, fillE, GVal.cells, grp, GVal.ofConst, ↓resV, resG, List.map, List.headD, List.take, List.drop, ↓reduceIte, Nat.reduceEqDiff, Nat.reduceAdd, Nat.reduceSub, Nat.reduceLeDiff, reduceCtorEq, implies_true, ne_eq, ↓asrcV, Tag.cap, List.replicate, allSolid, GVal.solid, Nat.reduceBEq, Nat.reduceMul, Nat.reduceLT, List.length_map, List.length_range, splice, vcA, ↓vcB, vcC, fbFz, e36]
        have ht : t.length + 1 = todo.length := by omega
        refine ⟨by omega, by omega, fun st1 => ⟨by omega, by omega, fun st2 => ⟨by omega, by omega, fun st3 => ?_⟩⟩⟩
        exact Into.at ⟨(out ++ [x], t ++ parI m o x, st1), inv2⟩ (by show upMu _ (out ++ [x]) (t ++ parI m o x) < upMu _ out todo; unfold upMu; simp only [List.length_append, List.length_singleton]; omega) ⟨[.tok st3 1], by simp⟩ (by simp [WL, leG_self, leG_any, ints_append, ints_one, leG_none])

end Gv.Tryz
/- Contracts: the document's segments. -/
set_option linter.unusedVariables false
set_option linter.unusedSimpArgs false
set_option maxRecDepth 20000
set_option maxHeartbeats 8000000
namespace Gv.Tryz
open Go Gv Go.Proofs

def spansOf (l : List Seg) : List (Int × Int) := l.map fun s => (s.lo, s.hi)
def okP (p : Int × Int) : Prop := 0 ≤ p.1 ∧ p.1 ≤ p.2 ∧ p.2 ≤ split + 1000 ∧ (p.1 < split ↔ p.2 < split)
def SegsOK (l : List Seg) : Prop := (∀ p ∈ spansOf l, okP p) ∧ (spansOf l).Pairwise (fun a b => a.2 < b.1)
theorem sumP_set : ∀ (l : List Seg) (i : Nat) (s : Seg), s.par = (l.getD i default).par → sumP (l.set i s) = sumP l
  | [], i, s, h => rfl
  | a :: l, 0, s, h => by simp at h; simp [sumP, h]
  | a :: l, i + 1, s, h => by
    simp only [List.getD_cons_succ] at h
    simp [sumP, sumP_set l i s h]
theorem SegsOK.snoc {l : List Seg} {s : Seg} (h : SegsOK l) (hs : okP (s.lo, s.hi)) (hl : ∀ x ∈ l, x.hi < s.lo) : SegsOK (l ++ [s]) := by
  obtain ⟨h1, h2⟩ := h
  refine ⟨fun p hp => ?_, ?_⟩
  · simp only [spansOf, List.map_append, List.map_cons, List.map_nil, List.mem_append, List.mem_singleton] at hp
    rcases hp with hp | rfl
    · exact h1 p hp
    · exact hs
  · simp only [spansOf, List.map_append, List.map_cons, List.map_nil, List.pairwise_append]
    refine ⟨h2, by simp, fun a ha b hb => ?_⟩
    simp at hb
    subst hb
    obtain ⟨x, hx, rfl⟩ := List.mem_map.1 ha
    exact hl x hx
theorem SegsOK.init {l : List Seg} {s : Seg} (h : SegsOK (l ++ [s])) : SegsOK l ∧ okP (s.lo, s.hi) ∧ ∀ x ∈ l, x.hi < s.lo := by
  obtain ⟨h1, h2⟩ := h
  simp only [spansOf, List.map_append, List.map_cons, List.map_nil, List.pairwise_append] at h1 h2
  refine ⟨⟨fun p hp => h1 p (by simp only [List.mem_append]; exact .inl hp), h2.1⟩, h1 _ (by simp), fun x hx => ?_⟩
  exact h2.2.2 (x.lo, x.hi) (List.mem_map.2 ⟨x, hx, rfl⟩) (s.lo, s.hi) (by simp)

structure FlatInv (m o : List (List Int)) (k : Nat) (out : List Seg) : Prop where
  ok : SegsOK out
  mem : ∀ s ∈ out, ∃ j, j < k ∧ s.hi = (allI m.length o.length).getD j 0
  len : out.length ≤ k
  sum : sumP out ≤ 4 * k

theorem allI_at (m o k : Nat) (h : k < m + o) : (allI m o).getD k 0 = if k < m then (k : Int) else split + ((k - m : Nat) : Int) := by
  split
  · rename_i e; exact allI_getD1 m o k e
  · exact allI_getD2 m o k (by omega) h
theorem FlatInv.new {m o : List (List Int)} {k : Nat} {out : List Seg} (h : FlatInv m o k out) (hm : m.length + o.length ≤ 500) (hk : k < m.length + o.length) {p : List Int} (hp : p.length ≤ 4) {r b : Bool} :
    FlatInv m o (k + 1) (out ++ [⟨(allI m.length o.length).getD k 0, (allI m.length o.length).getD k 0, p, r, b⟩]) := by
  have hs : split = 1099511627776 := rfl
  have ek := allI_at m.length o.length k hk
  refine ⟨h.ok.snoc ?_ fun x hx => ?_, fun s hs => ?_, ?_, ?_⟩
  · show okP ((allI m.length o.length).getD k 0, (allI m.length o.length).getD k 0)
    unfold okP
    refine ⟨?_, ?_, ?_, Iff.rfl⟩ <;> simp only <;> split at ek <;> omega
  · obtain ⟨j, hj, e⟩ := h.mem x hx
    have ej := allI_at m.length o.length j (by omega)
    show x.hi < (allI m.length o.length).getD k 0
    split at ek <;> split at ej <;> omega
  · rcases List.mem_append.1 hs with hs | hs
    · obtain ⟨j, hj, e⟩ := h.mem s hs
      exact ⟨j, by omega, e⟩
    · simp at hs; subst hs; exact ⟨k, by omega, rfl⟩
  · have := h.len; simp; omega
  · have := h.sum; rw [sumP_app]; simp only [sumP]; omega
theorem FlatInv.more {m o : List (List Int)} {k : Nat} {out : List Seg} (h : FlatInv m o k out) (hm : m.length + o.length ≤ 500) (hk : k < m.length + o.length) (hne : out ≠ []) (he : (out.getD (out.length - 1) default).hi = (allI m.length o.length).getD k 0 - 1) :
    FlatInv m o (k + 1) (out.set (out.length - 1) { out.getD (out.length - 1) default with hi := (allI m.length o.length).getD k 0 }) := by
  have hs : split = 1099511627776 := rfl
  have ek := allI_at m.length o.length k hk
  obtain ⟨e1, e2⟩ := set_last out hne default { out.getD (out.length - 1) default with hi := (allI m.length o.length).getD k 0 }
  have hlast : out.getD (out.length - 1) default ∈ out := by
    have : out.length - 1 < out.length := by have := List.length_pos_iff.2 hne; omega
    rw [List.getD_eq_getElem?_getD, List.getElem?_eq_getElem this]; exact List.getElem_mem this
  obtain ⟨j, hj, ej⟩ := h.mem _ hlast
  have ej2 := allI_at m.length o.length j (by omega)
  have hsum := sumP_set out (out.length - 1) { out.getD (out.length - 1) default with hi := (allI m.length o.length).getD k 0 } rfl
  have hok := h.ok
  rw [e1] at hok
  obtain ⟨i1, i2, i3⟩ := hok.init
  refine ⟨?_, fun s hs => ?_, ?_, ?_⟩
  · rw [e2]
    refine i1.snoc ?_ i3
    show okP ((out.getD (out.length - 1) default).lo, (allI m.length o.length).getD k 0)
    unfold okP at i2 ⊢
    simp only at i2 ⊢
    split at ek <;> split at ej2 <;> omega
  · rw [e2] at hs
    rcases List.mem_append.1 hs with hs | hs
    · obtain ⟨j, hj, e⟩ := h.mem s (by rw [e1]; exact List.mem_append_left _ hs)
      exact ⟨j, by omega, e⟩
    · simp at hs; subst hs; exact ⟨k, by omega, rfl⟩
  · have := h.len; rw [List.length_set]; omega
  · have := h.sum; rw [hsum]; omega

end Gv.Tryz
/- The plain law of levels. -/
set_option linter.unusedVariables false
set_option maxRecDepth 20000
set_option linter.unusedSimpArgs false
namespace Gv.Tryz
open Go Gv Go.Proofs

theorem okP_at {l : List Seg} (h : SegsOK l) {s : Seg} (hs : s ∈ l) : okP (s.lo, s.hi) := h.1 _ (List.mem_map.2 ⟨s, hs, rfl⟩)
theorem SegsOK.app {a b : List Seg} (h : SegsOK (a ++ b)) : SegsOK a ∧ SegsOK b ∧ ∀ x ∈ a, ∀ y ∈ b, x.hi < y.lo := by
  obtain ⟨h1, h2⟩ := h
  simp only [spansOf, List.map_append, List.pairwise_append, List.mem_append] at h1 h2
  refine ⟨⟨fun p hp => h1 p (.inl hp), h2.1⟩, ⟨fun p hp => h1 p (.inr hp), h2.2.1⟩, fun x hx y hy => ?_⟩
  exact h2.2.2 (x.lo, x.hi) (List.mem_map.2 ⟨x, hx, rfl⟩) (y.lo, y.hi) (List.mem_map.2 ⟨y, hy, rfl⟩)
theorem SegsOK.lt {l : List Seg} (h : SegsOK l) {i j : Nat} (hij : i < j) (hj : j < l.length) : (l.getD i default).hi < (l.getD j default).lo := by
  have h2 := h.2
  rw [List.pairwise_iff_getElem] at h2
  have := h2 i j (by simp [spansOf]; omega) (by simp [spansOf]; omega) hij
  simpa [spansOf, List.getD, hj, show i < l.length by omega] using this
theorem SegsOK.okAt {l : List Seg} (h : SegsOK l) {i : Nat} (hi : i < l.length) : okP ((l.getD i default).lo, (l.getD i default).hi) := by
  have : l.getD i default = l[i] := by simp [List.getD, hi]
  rw [this]; exact okP_at h (List.getElem_mem hi)

theorem join_ok {l : List Seg} {size : Int} {n : Nat} (h : SegsOK (l.take n)) (hr : runOK l size n) : okP ((joinI (l.take n)).lo, (joinI (l.take n)).hi) ∧ (joinI (l.take n)).lo = (l.getD 0 default).lo ∧ (joinI (l.take n)).hi = (l.getD (n - 1) default).hi ∧ (joinI (l.take n)).head = (l.getD (n - 1) default).head := by
  obtain ⟨a, b, c, d⟩ := hr
  have hlen : (l.take n).length = n := by rw [List.length_take]; omega
  have at_ : ∀ i, i < n → (l.take n).getD i default = l.getD i default := fun i hi => by
    simp only [List.getD_eq_getElem?_getD]; rw [List.getElem?_take_of_lt hi]
  have e0 := at_ 0 (by omega)
  have e1 := at_ (n - 1) (by omega)
  have k0 := h.okAt (i := 0) (by omega)
  have k1 := h.okAt (i := n - 1) (by omega)
  rw [e0] at k0; rw [e1] at k1
  have hg := d (n - 1) (by omega)
  have elo : (joinI (l.take n)).lo = (l.getD 0 default).lo := by show ((l.take n).getD 0 default).lo = _; rw [e0]
  have ehi : (joinI (l.take n)).hi = (l.getD (n - 1) default).hi := by show ((l.take n).getD ((l.take n).length - 1) default).hi = _; rw [hlen, e1]
  have ehd : (joinI (l.take n)).head = (l.getD (n - 1) default).head := by show ((l.take n).getD ((l.take n).length - 1) default).head = _; rw [hlen, e1]
  refine ⟨?_, elo, ehi, ehd⟩
  rw [elo, ehi]
  have hs : split = 1099511627776 := rfl
  unfold sameG at hg
  rw [beq_iff_eq, Bool.eq_iff_iff, decide_eq_true_iff, decide_eq_true_iff] at hg
  unfold okP at *
  simp only at *
  have hle : (l.getD 0 default).lo ≤ (l.getD (n - 1) default).hi := by
    by_cases e : n = 1
    · subst e; exact k0.2.1
    · have := h.lt (i := 0) (j := n - 1) (by omega) (by omega)
      rw [e0, e1] at this
      omega
  omega
theorem UpOK.segs {size : Int} {l u : List Seg} (h : UpOK size l u) : SegsOK l → SegsOK u ∧ ∀ b : Int, (∀ s ∈ l, b < s.lo) → ∀ s ∈ u, b < s.lo := by
  induction h with
  | nil => exact fun h => ⟨h, fun b hb => hb⟩
  | cons l u n h1 h2 h3 ih =>
    intro h
    have h' := h
    rw [← List.take_append_drop n l] at h'
    obtain ⟨ha, hb, hc⟩ := h'.app
    obtain ⟨i1, i2⟩ := ih hb
    obtain ⟨j1, j2, j3, _⟩ := join_ok ha h1
    obtain ⟨n1, n2, n3, n4⟩ := h1
    have mem : ∀ i, i < n → l.getD i default ∈ l.take n := fun i hi => by
      have hlt : i < (l.take n).length := by rw [List.length_take]; omega
      have : l.getD i default = (l.take n)[i] := by simp [List.getD, show i < l.length by omega]
      rw [this]; exact List.getElem_mem hlt
    have hu : ∀ x ∈ u, (joinI (l.take n)).hi < x.lo := i2 _ fun s hs => by rw [j3]; exact hc _ (mem (n - 1) (by omega)) s hs
    refine ⟨⟨fun p hp => ?_, ?_⟩, fun b hbb s hs => ?_⟩
    · simp only [spansOf, List.map_cons, List.mem_cons] at hp
      rcases hp with rfl | hp
      · exact j1
      · exact i1.1 p hp
    · simp only [spansOf, List.map_cons, List.pairwise_cons]
      refine ⟨fun p hp => ?_, i1.2⟩
      obtain ⟨x, hx, rfl⟩ := List.mem_map.1 hp
      exact hu x hx
    · rcases List.mem_cons.1 hs with rfl | hs
      · rw [j2]; exact hbb _ (List.mem_of_mem_take (mem 0 (by omega)))
      · exact i2 b (fun x hx => hbb x (List.mem_of_mem_drop hx)) s hs
theorem UpOK.at_ {size : Int} {l u : List Seg} {j k : Nat} (hl : SegsOK l) (h : UpOK size (l.drop k) (u.drop j)) (hj : j < u.length) : ∃ n : Nat, 1 ≤ n ∧ (n : Int) ≤ size ∧ k + n ≤ l.length ∧ (u.getD j default).lo = (l.getD k default).lo ∧ (u.getD j default).hi = (l.getD (k + n - 1) default).hi ∧
    (u.getD j default).head = (l.getD (k + n - 1) default).head ∧ (u.getD j default).root = anyR ((l.drop k).take n) ∧ ((u.getD j default).lo < split ↔ (u.getD j default).hi < split) ∧ UpOK size (l.drop (k + n)) (u.drop (j + 1)) := by
  have eu : u.drop j = u.getD j default :: u.drop (j + 1) := by rw [List.drop_eq_getElem_cons hj]; simp [List.getD, hj]
  rw [eu] at h
  generalize hl2 : l.drop k = l2 at h
  generalize hu2 : u.getD j default :: u.drop (j + 1) = u2 at h
  cases h with
  | nil => cases hu2
  | cons _ u' n h1 h2 h3 =>
    have e1 : u.getD j default = joinI (l2.take n) := by injection hu2
    have e2 : u.drop (j + 1) = u' := by injection hu2
    have hs : SegsOK (l2.take n) := by
      have h' := hl
      rw [← List.take_append_drop k l] at h'
      have := h'.app.2.1
      rw [hl2, ← List.take_append_drop n l2] at this
      exact this.app.1
    obtain ⟨j1, j2, j3, j4⟩ := join_ok hs h1
    obtain ⟨n1, n2, n3, n4⟩ := h1
    have hlen : l2.length = l.length - k := by rw [← hl2, List.length_drop]
    have at2 : ∀ i, l2.getD i default = l.getD (k + i) default := fun i => by rw [← hl2]; simp [List.getD]
    have e3 : k + (n - 1) = k + n - 1 := by omega
    refine ⟨n, n1, n2, by omega, ?_, ?_, ?_, ?_, ?_, ?_⟩
    · rw [e1, j2, at2]; rfl
    · rw [e1, j3, at2, e3]
    · rw [e1, j4, at2, e3]
    · rw [e1]; rfl
    · rw [e1]; exact j1.2.2.2
    · rw [e2, ← List.drop_drop, hl2]; exact h3
theorem LevOK.segs {size : Int} {l : List Seg} {L : List (List Seg)} (h : LevOK size l L) (hl : SegsOK l) : ∀ i, i < L.length → SegsOK (L.getD i [])
  | 0, _ => by rw [h.2.2.1]; exact hl
  | i + 1, hi => ((h.2.2.2.1 i hi).1.segs (LevOK.segs h hl i (by omega))).1

end Gv.Tryz
/- The plain law of what levels hold. -/
set_option linter.unusedVariables false
set_option maxRecDepth 20000
set_option linter.unusedSimpArgs false
namespace Gv.Tryz
open Go Gv Go.Proofs

def clos (m o : List (List Int)) (l : List Int) : Prop := ∀ x ∈ l, ∀ p ∈ parI m o x, hasI m.length o.length p = true → p ∈ l
def Leads (m o : List (List Int)) (a b : Int) : Prop := ∀ l : List Int, b ∈ l → clos m o l → a ∈ l
theorem Leads.refl (m o : List (List Int)) (a : Int) : Leads m o a a := fun l h _ => h
theorem Leads.trans {m o : List (List Int)} {a b c : Int} (h : Leads m o a b) (k : Leads m o b c) : Leads m o a c := fun l hl hc => h l (k l hl hc) hc
theorem Leads.par {m o : List (List Int)} {a b : Int} (h : a ∈ parI m o b) (ha : hasI m.length o.length a = true) : Leads m o a b := fun l hl hc => hc b hl a h ha
structure SegH (m o : List (List Int)) (s : Seg) : Prop where
  le : s.lo ≤ s.hi
  lead : ∀ id, s.lo ≤ id → id ≤ s.hi → Leads m o id s.hi
  has : ∀ id, s.lo ≤ id → id ≤ s.hi → hasI m.length o.length id = true
  all : ∀ id, s.lo ≤ id → id ≤ s.hi → ∀ p ∈ parI m o id, p < s.lo → p ∈ s.par
  from_ : ∀ p ∈ s.par, p < s.lo ∧ ∃ id, s.lo ≤ id ∧ id ≤ s.hi ∧ p ∈ parI m o id
  nodup : s.par.Nodup
def okC (m o : List (List Int)) : Nat → List Seg → Nat → Prop
  | n, [], n' => n = n'
  | n, s :: r, n' => SegH m o s ∧ (∀ d : Nat, s.lo + d ≤ s.hi → n + d < m.length + o.length ∧ (allI m.length o.length).getD (n + d) 0 = s.lo + d) ∧ okC m o (n + (s.hi - s.lo + 1).toNat) r n'
theorem okC_append (m o : List (List Int)) : ∀ (a b : List Seg) (n n' : Nat), okC m o n (a ++ b) n' ↔ ∃ k, okC m o n a k ∧ okC m o k b n'
  | [], b, n, n' => by simp [okC]
  | s :: a, b, n, n' => by
    simp only [List.cons_append, okC, okC_append m o a b]
    constructor
    · rintro ⟨h1, h2, k, h3, h4⟩; exact ⟨k, ⟨h1, h2, h3⟩, h4⟩
    · rintro ⟨k, ⟨h1, h2, h3⟩, h4⟩; exact ⟨h1, h2, k, h3, h4⟩
theorem okC_le (m o : List (List Int)) : ∀ (l : List Seg) (n n' : Nat), okC m o n l n' → n ≤ n' ∧ (l ≠ [] → n < n') ∧ (∀ s ∈ l, SegH m o s)
  | [], n, n', h => by simp only [okC] at h; subst h; simp
  | s :: r, n, n', h => by
    simp only [okC] at h
    obtain ⟨h1, h2, h3⟩ := h
    have := okC_le m o r _ _ h3
    have hle := h1.le
    refine ⟨by omega, fun _ => by omega, fun x hx => ?_⟩
    rcases List.mem_cons.1 hx with rfl | hx
    · exact h1
    · exact this.2.2 x hx
theorem okC_in (m o : List (List Int)) : ∀ (l : List Seg) (n n' : Nat), okC m o n l n' → ∀ i, n ≤ i → i < n' → ∃ s ∈ l, s.lo ≤ (allI m.length o.length).getD i 0 ∧ (allI m.length o.length).getD i 0 ≤ s.hi
  | [], n, n', h, i, h1, h2 => by simp only [okC] at h; omega
  | s :: r, n, n', h, i, h1, h2 => by
    simp only [okC] at h
    obtain ⟨k1, k2, k3⟩ := h
    by_cases e : i < n + (s.hi - s.lo + 1).toNat
    · have := k2 (i - n) (by have := k1.le; omega)
      rw [show n + (i - n) = i by omega] at this
      exact ⟨s, by simp, by omega, by have := k1.le; omega⟩
    · obtain ⟨x, hx, hh⟩ := okC_in m o r _ _ k3 i (by omega) h2
      exact ⟨x, by simp [hx], hh⟩
theorem okC_ends (m o : List (List Int)) : ∀ (l : List Seg) (n n' : Nat), okC m o n l n' → l ≠ [] → n' ≤ m.length + o.length ∧ (l.getD 0 default).lo = (allI m.length o.length).getD n 0 ∧ (l.getD (l.length - 1) default).hi = (allI m.length o.length).getD (n' - 1) 0
  | [], n, n', h, hne => absurd rfl hne
  | s :: r, n, n', h, _ => by
    simp only [okC] at h
    obtain ⟨k1, k2, k3⟩ := h
    have hle := k1.le
    have e0 := k2 0 (by omega)
    have e1 := k2 (s.hi - s.lo).toNat (by omega)
    have e2 : n + (s.hi - s.lo + 1).toNat - 1 = n + (s.hi - s.lo).toNat := by omega
    refine ⟨?_, by simp; simp at e0; omega, ?_⟩
    · by_cases hr : r = []
      · subst hr; simp only [okC] at k3; omega
      · exact (okC_ends m o r _ _ k3 hr).1
    · by_cases hr : r = []
      · subst hr; simp only [okC] at k3
        rw [← k3, e2, e1.2]
        show s.hi = _
        omega
      · have := (okC_ends m o r _ _ k3 hr).2.2
        rw [← this]
        have hpos : 0 < r.length := List.length_pos_iff.2 hr
        simp only [List.length_cons, Nat.add_sub_cancel]
        congr 1
        obtain ⟨j, hj⟩ : ∃ j, r.length = j + 1 := ⟨r.length - 1, by omega⟩
        rw [hj]; simp

theorem jpar_mem (lo : Int) : ∀ (q acc : List Int) (p : Int), p ∈ jpar lo acc q ↔ p ∈ acc ∨ (p ∈ q ∧ p < lo)
  | [], acc, p => by simp [jpar]
  | a :: q, acc, p => by
    rw [jpar, jpar_mem lo q]
    split
    · rename_i h
      simp only [List.mem_append, List.mem_cons, List.mem_nil_iff, or_false]
      constructor
      · rintro ((h1 | h1) | h1)
        · exact .inl h1
        · subst h1; exact .inr ⟨.inl rfl, h.1⟩
        · exact .inr ⟨.inr h1.1, h1.2⟩
      · rintro (h1 | ⟨h1 | h1, h2⟩)
        · exact .inl (.inl h1)
        · exact .inl (.inr h1)
        · exact .inr ⟨h1, h2⟩
    · rename_i h
      simp only [List.mem_cons]
      constructor
      · rintro (h1 | h1)
        · exact .inl h1
        · exact .inr ⟨.inr h1.1, h1.2⟩
      · rintro (h1 | ⟨h1 | h1, h2⟩)
        · exact .inl h1
        · subst h1
          by_cases hm : p ∈ acc
          · exact .inl hm
          · exact absurd ⟨h2, hm⟩ h
        · exact .inr ⟨h1, h2⟩
theorem jpar_nodup (lo : Int) : ∀ (q acc : List Int), acc.Nodup → (jpar lo acc q).Nodup
  | [], acc, h => h
  | a :: q, acc, h => by
    rw [jpar]
    refine jpar_nodup lo q _ ?_
    split
    · rename_i h2
      rw [List.nodup_append]
      exact ⟨h, by simp, fun x hx y hy => by simp at hy; subst hy; exact fun e => h2.2 (by rw [← e]; exact hx)⟩
    · exact h
theorem jall_mem' (lo : Int) (p : Int) : ∀ (l : List Seg) (acc : List Int), p ∈ l.foldl (fun acc s => jpar lo acc s.par) acc ↔ p ∈ acc ∨ ∃ s ∈ l, p ∈ s.par ∧ p < lo
  | [], acc => by simp
  | a :: l, acc => by
    rw [List.foldl_cons, jall_mem' lo p l, jpar_mem]
    simp only [List.mem_cons, exists_eq_or_imp]
    constructor
    · rintro ((h | h) | h)
      · exact .inl h
      · exact .inr (.inl h)
      · exact .inr (.inr h)
    · rintro (h | h | h)
      · exact .inl (.inl h)
      · exact .inl (.inr h)
      · exact .inr h
theorem jall_mem (lo : Int) (p : Int) (l : List Seg) : p ∈ jall lo l ↔ ∃ s ∈ l, p ∈ s.par ∧ p < lo := by
  rw [jall, jall_mem']; simp
theorem jall_nodup (lo : Int) : ∀ (l : List Seg) (acc : List Int), acc.Nodup → (l.foldl (fun acc s => jpar lo acc s.par) acc).Nodup
  | [], acc, h => h
  | a :: l, acc, h => jall_nodup lo l _ (jpar_nodup lo _ _ h)
theorem headsN_pos : ∀ (l : List Seg), l ≠ [] → 1 ≤ headsN l
  | [s], _ => by simp [headsN, anyP]
  | s :: x :: r, _ => by
    have := headsN_pos (x :: r) (by simp)
    rw [headsN]; omega
theorem leads_last (m o : List (List Int)) : ∀ (l : List Seg), (∀ s ∈ l, SegH m o s) → headsN l = 1 → ∀ s ∈ l, Leads m o s.hi (l.getD (l.length - 1) default).hi
  | [], _, h, s, hs => by simp at hs
  | [a], _, h, s, hs => by simp at hs; subst hs; simp; exact Leads.refl _ _ _
  | a :: x :: r, hh, h, s, hs => by
    have hp := headsN_pos (x :: r) (by simp)
    rw [headsN] at h
    have h1 : anyP a.hi (x :: r) = true := by
      by_cases e : anyP a.hi (x :: r) = true
      · exact e
      · rw [if_neg e] at h; omega
    rw [if_pos h1] at h
    have ih := leads_last m o (x :: r) (fun s hs => hh s (by simp at hs ⊢; right; exact hs)) (by omega)
    have el : (a :: x :: r).getD ((a :: x :: r).length - 1) default = (x :: r).getD ((x :: r).length - 1) default := by simp
    rw [el]
    rcases List.mem_cons.1 hs with rfl | hs
    · simp only [anyP, List.any_eq_true, decide_eq_true_eq] at h1
      obtain ⟨y, hy, hm⟩ := h1
      have hy' := hh y (by simp at hy ⊢; right; exact hy)
      obtain ⟨_, id, i1, i2, i3⟩ := hy'.from_ _ hm
      have hs' := hh s (by simp)
      exact ((Leads.par i3 (hs'.has _ hs'.le (Int.le_refl _))).trans (hy'.lead id i1 i2)).trans (ih y hy)
    · exact ih s hs
theorem allI_run {m o i j : Nat} (h : i ≤ j) (hj : j < m + o) (hm : m + o ≤ 1000) (hg : (allI m o).getD i 0 < split ↔ (allI m o).getD j 0 < split) : (allI m o).getD j 0 = (allI m o).getD i 0 + ((j - i : Nat) : Int) := by
  have hs : split = 1099511627776 := rfl
  have e1 := allI_at m o i (by omega)
  have e2 := allI_at m o j hj
  split at e1 <;> split at e2 <;> omega

theorem okC_join {m o : List (List Int)} (hm : m.length + o.length ≤ 1000) {l : List Seg} {n n' : Nat} (h : okC m o n l n') (hne : l ≠ []) (hs : SegsOK l) (hg : (joinI l).lo < split ↔ (joinI l).hi < split) (hh : l.length = 1 ∨ headsN l = 1) : okC m o n [joinI l] n' := by
  obtain ⟨h1, h2, h3⟩ := okC_le m o l n n' h
  obtain ⟨k1, k2, k3⟩ := okC_ends m o l n n' h hne
  have hlt := h2 hne
  have hpos : 0 < l.length := List.length_pos_iff.2 hne
  have elo : (joinI l).lo = (allI m.length o.length).getD n 0 := k2
  have ehi : (joinI l).hi = (allI m.length o.length).getD (n' - 1) 0 := k3
  have hrun := allI_run (m := m.length) (o := o.length) (i := n) (j := n' - 1) (by omega) (by omega) hm (by rw [← elo, ← ehi]; exact hg)
  have hlast : ∀ s ∈ l, Leads m o s.hi (joinI l).hi := by
    rcases hh with hh | hh
    · intro s hs
      have : l = [s] := by
        match l, hh with
        | [a], _ => simp at hs; rw [hs]
      rw [this]
      exact Leads.refl _ _ _
    · exact leads_last m o l h3 hh
  have hin : ∀ id, (joinI l).lo ≤ id → id ≤ (joinI l).hi → ∃ s ∈ l, s.lo ≤ id ∧ id ≤ s.hi := fun id q1 q2 => by
    have hi : (allI m.length o.length).getD (n + (id - (joinI l).lo).toNat) 0 = id := by
      have hb : n + (id - (joinI l).lo).toNat ≤ n' - 1 := by omega
      have hs : split = 1099511627776 := rfl
      have e0 := allI_at m.length o.length n (by omega)
      have e1 := allI_at m.length o.length (n' - 1) (by omega)
      have e2 := allI_at m.length o.length (n + (id - (joinI l).lo).toNat) (by omega)
      split at e0 <;> split at e1 <;> split at e2 <;> omega
    obtain ⟨s, q3, q4⟩ := okC_in m o l n n' h (n + (id - (joinI l).lo).toNat) (by omega) (by omega)
    rw [hi] at q4
    exact ⟨s, q3, q4⟩
  have hb : ∀ s ∈ l, (joinI l).lo ≤ s.lo ∧ s.hi ≤ (joinI l).hi := fun s hs2 => by
    obtain ⟨i, hi⟩ := List.getElem?_of_mem hs2
    have hil := (List.getElem?_eq_some_iff.1 hi).1
    have ei : l.getD i default = s := by simp [List.getD, hi]
    have s0 := (h3 _ (show l.getD 0 default ∈ l by rw [List.getD_eq_getElem?_getD, List.getElem?_eq_getElem hpos]; exact List.getElem_mem hpos)).le
    have sl := (h3 _ (show l.getD (l.length - 1) default ∈ l by rw [List.getD_eq_getElem?_getD, List.getElem?_eq_getElem (by omega)]; exact List.getElem_mem _)).le
    have ss := (h3 s hs2).le
    constructor
    · show (l.getD 0 default).lo ≤ s.lo
      by_cases e : i = 0
      · subst e; rw [ei]; exact Int.le_refl _
      · have := hs.lt (i := 0) (j := i) (by omega) hil
        rw [ei] at this; omega
    · show s.hi ≤ (l.getD (l.length - 1) default).hi
      by_cases e : i = l.length - 1
      · rw [← e, ei]; exact Int.le_refl _
      · have := hs.lt (i := i) (j := l.length - 1) (by omega) (by omega)
        rw [ei] at this; omega
  refine ⟨⟨by omega, fun id q1 q2 => ?_, fun id q1 q2 => ?_, fun id q1 q2 p hp hlt2 => ?_, fun p hp => ?_, jall_nodup _ _ _ (by simp)⟩, fun d hd => ?_, ?_⟩
  · obtain ⟨s, q3, q4, q5⟩ := hin id q1 q2
    exact ((h3 s q3).lead id q4 q5).trans (hlast s q3)
  · obtain ⟨s, q3, q4, q5⟩ := hin id q1 q2
    exact (h3 s q3).has id q4 q5
  · obtain ⟨s, q3, q4, q5⟩ := hin id q1 q2
    refine (jall_mem _ _ _).2 ⟨s, q3, (h3 s q3).all id q4 q5 p hp ?_, hlt2⟩
    have := (hb s q3).1; omega
  · obtain ⟨s, q3, q4, q5⟩ := (jall_mem _ _ _).1 hp
    obtain ⟨_, id, i1, i2, i3⟩ := (h3 s q3).from_ p q4
    have := hb s q3
    exact ⟨q5, id, by omega, by omega, i3⟩
  · have hb : n + d ≤ n' - 1 := by omega
    have hs : split = 1099511627776 := rfl
    have e0 := allI_at m.length o.length n (by omega)
    have e1 := allI_at m.length o.length (n' - 1) (by omega)
    have e2 := allI_at m.length o.length (n + d) (by omega)
    refine ⟨by omega, ?_⟩
    split at e0 <;> split at e1 <;> split at e2 <;> omega
  · show n + ((joinI l).hi - (joinI l).lo + 1).toNat = n'
    omega

theorem UpOK.okC {m o : List (List Int)} (hm : m.length + o.length ≤ 1000) {size : Int} {l u : List Seg} (h : UpOK size l u) : ∀ n n', SegsOK l → okC m o n l n' → okC m o n u n' := by
  induction h with
  | nil => exact fun n n' _ h => h
  | cons l u n0 h1 h2 h3 ih =>
    intro n n' hs hc
    rw [← List.take_append_drop n0 l, okC_append] at hc
    obtain ⟨k, c1, c2⟩ := hc
    have hs' := hs
    rw [← List.take_append_drop n0 l] at hs'
    obtain ⟨sa, sb, _⟩ := hs'.app
    obtain ⟨j1, _, _, _⟩ := join_ok sa h1
    obtain ⟨n1, n2, n3, n4⟩ := h1
    have hlen : (l.take n0).length = n0 := by rw [List.length_take]; omega
    have hne : l.take n0 ≠ [] := fun e => by rw [e] at hlen; simp at hlen; omega
    have := okC_join hm c1 hne sa j1.2.2.2 (by rw [hlen]; exact h2)
    rw [show joinI (l.take n0) :: u = [joinI (l.take n0)] ++ u from rfl, okC_append]
    exact ⟨k, this, ih k n' sb c2⟩

theorem okRow_nodup {m o : Nat} {lim most : Int} : ∀ {q seen : List Int}, okRow m o lim most seen q = true → seen.Nodup → (seen ++ q).Nodup
  | [], seen, _, h => by simpa using h
  | a :: r, seen, h, hs => by
    simp only [okRow, Bool.and_eq_true, Bool.not_eq_true', Bool.or_eq_false_iff, decide_eq_false_iff_not] at h
    have := okRow_nodup h.2 (by rw [List.nodup_append]; exact ⟨hs, by simp, fun x hx y hy => by simp at hy; subst hy; exact fun e => h.1.2 (by rw [← e]; exact hx)⟩)
    simpa using this
theorem okG_at {m o : Nat} {most : Int} : ∀ {l : List (List Int)} {frm : Int}, okG m o most frm l = true → ∀ k, k < l.length → (∀ p ∈ l.getD k [], p < frm + k ∧ hasI m o p = true) ∧ (l.getD k []).Nodup
  | [], _, _, k, hk => by simp at hk
  | a :: l, frm, h, 0, hk => by
    simp only [okG, Bool.and_eq_true] at h
    refine ⟨fun p hp => ?_, ?_⟩
    · have := okRow_at h.1.1 p (by simpa using hp)
      exact ⟨by simp; omega, this.2.2⟩
    · have := okRow_nodup h.1.1 (by simp)
      simpa using this
  | a :: l, frm, h, k + 1, hk => by
    simp only [okG, Bool.and_eq_true] at h
    have := okG_at h.2 k (by simpa using hk)
    simp only [List.getD_cons_succ]
    refine ⟨fun p hp => ?_, this.2⟩
    have := this.1 p hp
    exact ⟨by omega, this.2⟩
theorem parI_props {m o : List (List Int)} (hm : m.length + o.length ≤ 1000) (hr : rightI m o = true) (id : Int) : (∀ p ∈ parI m o id, p < id ∧ hasI m.length o.length p = true) ∧ (parI m o id).Nodup := by
  rw [rightI, Bool.and_eq_true] at hr
  unfold parI
  split
  · rename_i h
    have := okG_at hr.1 id.toNat (by omega)
    refine ⟨fun p hp => ?_, this.2⟩
    have := this.1 p hp
    exact ⟨by omega, this.2⟩
  · split
    · rename_i h
      have := okG_at hr.2 (id - split).toNat (by omega)
      refine ⟨fun p hp => ?_, this.2⟩
      have := this.1 p hp
      exact ⟨by omega, this.2⟩
    · simp
theorem okS_C {m o : List (List Int)} (hm : m.length + o.length ≤ 1000) (hr : rightI m o = true) : ∀ (l : List Seg) (n : Nat), okS m o n l → okC m o n l (m.length + o.length)
  | [], n, h => by simp only [okS] at h; exact h
  | s :: r, n, h => by
    simp only [okS] at h
    obtain ⟨⟨h1, h2, h3⟩, h4, h5, h6, h7, h8⟩ := h
    have inA : ∀ id, s.lo ≤ id → id ≤ s.hi → hasI m.length o.length id = true := fun id q1 q2 => by
      obtain ⟨a, b, _⟩ := h4 (id - s.lo).toNat (by omega)
      rw [← allI_hasI, show id = s.lo + ((id - s.lo).toNat : Int) by omega, ← b, List.getD_eq_getElem?_getD, List.getElem?_eq_getElem (by rw [allI_len]; exact a)]
      exact List.getElem_mem _
    have lead : ∀ k : Nat, s.lo + k ≤ s.hi → Leads m o (s.hi - k) s.hi := by
      intro k
      induction k with
      | zero => intro _; simp; exact Leads.refl _ _ _
      | succ k ih =>
        intro hk
        refine Leads.trans ?_ (ih (by omega))
        obtain ⟨_, _, c⟩ := h4 (s.hi - (k : Int) - s.lo).toNat (by omega)
        have c := c (by omega)
        rw [show s.lo + ((s.hi - (k : Int) - s.lo).toNat : Int) = s.hi - k by omega] at c
        refine Leads.par ?_ (inA _ (by omega) (by omega))
        rw [c]; simp; omega
    refine ⟨⟨h2, fun id q1 q2 => ?_, inA, fun id q1 q2 p hp hlt => ?_, fun p hp => ?_, ?_⟩, fun d hd => ⟨(h4 d hd).1, (h4 d hd).2.1⟩, okS_C hm hr r _ h8⟩
    · have := lead (s.hi - id).toNat (by omega)
      rwa [show s.hi - ((s.hi - id).toNat : Int) = id by omega] at this
    · by_cases e : id = s.lo
      · rw [e, h5] at hp; exact hp
      · obtain ⟨_, _, c⟩ := h4 (id - s.lo).toNat (by omega)
        have c := c (by omega)
        rw [show s.lo + ((id - s.lo).toNat : Int) = id by omega] at c
        rw [c] at hp; simp at hp; omega
    · rw [← h5] at hp
      exact ⟨((parI_props hm hr s.lo).1 p hp).1, s.lo, Int.le_refl _, h2, hp⟩
    · rw [← h5]; exact (parI_props hm hr s.lo).2

theorem okS_segs {m o : List (List Int)} (hm : m.length + o.length ≤ 1000) : ∀ (l : List Seg) (n : Nat), okS m o n l → SegsOK l ∧ ∀ s ∈ l, (allI m.length o.length).getD n 0 ≤ s.lo
  | [], n, h => ⟨⟨by simp [spansOf], by simp [spansOf]⟩, by simp⟩
  | s :: r, n, h => by
    simp only [okS] at h
    obtain ⟨⟨h1, h2, h3⟩, h4, h5, h6, h7, h8⟩ := h
    obtain ⟨i1, i2⟩ := okS_segs hm r _ h8
    have hs : split = 1099511627776 := rfl
    obtain ⟨a0, b0, _⟩ := h4 0 (by omega)
    obtain ⟨a1, b1, _⟩ := h4 (s.hi - s.lo).toNat (by omega)
    have e0 := allI_at m.length o.length (n + 0) a0
    have e1 := allI_at m.length o.length (n + (s.hi - s.lo).toNat) a1
    have key : ∀ x ∈ r, s.hi < x.lo := fun x hx => by
      have := i2 x hx
      by_cases e : n + (s.hi - s.lo + 1).toNat < m.length + o.length
      · have e2 := allI_at m.length o.length (n + (s.hi - s.lo + 1).toNat) e
        split at e1 <;> split at e2 <;> omega
      · exfalso
        match r, h8, hx with
        | y :: r', h8, _ =>
          simp only [okS] at h8
          obtain ⟨⟨_, y2, _⟩, y4, _⟩ := h8
          have := (y4 0 (by omega)).1
          omega
    have okp : okP (s.lo, s.hi) := by
      unfold okP
      simp only
      split at e0 <;> split at e1 <;> omega
    refine ⟨⟨fun p hp => ?_, ?_⟩, fun x hx => ?_⟩
    · simp only [spansOf, List.map_cons, List.mem_cons] at hp
      rcases hp with rfl | hp
      · exact okp
      · exact i1.1 p hp
    · simp only [spansOf, List.map_cons, List.pairwise_cons]
      refine ⟨fun p hp => ?_, i1.2⟩
      obtain ⟨x, hx, rfl⟩ := List.mem_map.1 hp
      exact key x hx
    · rcases List.mem_cons.1 hx with rfl | hx
      · simp at b0; simp; omega
      · have := key x hx
        simp at b0
        have : (allI m.length o.length).getD n 0 = s.lo := by simpa using b0
        omega
end Gv.Tryz
