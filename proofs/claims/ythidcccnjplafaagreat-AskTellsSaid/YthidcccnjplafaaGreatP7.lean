import Derived.Test.YthidcccnjplafaaGreatSlimFz
import Derived.Test.YthidcccnjplafaaGreatP6
import Derived.Test.YthidcccnjplafaaGreatP5


/- Small functions' contracts. -/
set_option linter.unusedVariables false
set_option maxRecDepth 20000
set_option linter.unusedSimpArgs false
namespace Gv.Tryz
open Go Gv Go.Proofs


theorem spec25 (n m : Int) (hm : 0 < m) (hm2 : m ≤ 1000000000) : GPure Tryz.prog 5 [.int .i64 n, .int .i64 m] (.int .i64 (n % m)) := by
  refine h5.pure mixS (by simp) ?_
  simp only [gstart, s5, List.cons_append, List.nil_append, List.length_cons, List.length_nil, Nat.reduceAdd, Nat.reduceSub, List.replicate_succ, List.replicate_zero]
  simp +contextual -implicitDefEqProofs (maxSteps := 2000000) (disch := omega) only [binV, GVal.cells, grp, GVal.ofConst, ↓resV, resG, List.map, List.headD, List.take, List.drop, ↓reduceIte, Nat.reduceEqDiff, Nat.reduceAdd, Nat.reduceSub, Nat.reduceLeDiff, reduceCtorEq, implies_true, ne_eq, Tag.cap, List.replicate, allSolid, GVal.solid, Nat.reduceBEq, Nat.reduceMul, Nat.reduceLT, List.length_map, List.length_range, splice, vcA, ↓vcB, vcC, fbFz, e5]
  obtain ⟨h1, h2⟩ := tmod_pick n m hm
  have h3 := Int.emod_nonneg n (by omega : m ≠ 0)
  have h4 := Int.emod_lt_of_pos n hm
  exact ⟨by omega, fun h => by rw [h1 h, norm_i64 (by omega)], h2⟩

def split : Int := 1099511627776
def ups (a : Int) (k : Nat) : List Int := (List.range k).map fun i : Nat => a + (i : Int)
theorem ups_length (a : Int) (k : Nat) : (ups a k).length = k := by simp [ups]
theorem ups_succ (a : Int) (k : Nat) : ups a (k + 1) = ups a k ++ [a + (k : Int)] := by simp [ups, List.range_succ]
theorem ups_zero (a : Int) : ups a 0 = [] := rfl
def allI (m o : Nat) : List Int := ups 0 m ++ ups split o

theorem spec14 (m o : List (List Int)) (tm to : Tag) (hm : m.length ≤ 1000) (ho : o.length ≤ 1000) :
    GPure Tryz.prog 30 [.agg [.slice (tabG m) tm, .slice (tabG o) to]] (.slice (ints (allI m.length o.length)) .none) := by
  refine h30.pure mixS (by simp) ?_
  simp only [gstart, s30, List.cons_append, List.nil_append, List.length_cons, List.length_nil, Nat.reduceAdd, Nat.reduceSub, List.replicate_succ, List.replicate_zero]
  simp +contextual -implicitDefEqProofs (maxSteps := 2000000) (disch := omega) only [↓lenV, binV, optV, ↓loadV, ↓fieldAddrV, ↓boxV, ↓buildSliceV, ↓sliceV, ↓appendV, ↓srcV, bound, cutTag, hiTag, fillE, GVal.cells, grp, GVal.ofConst, ↓resV, resG, List.map, List.headD, List.take, List.drop, ↓reduceIte, Nat.reduceEqDiff, Nat.reduceAdd, Nat.reduceSub, Nat.reduceLeDiff, reduceCtorEq, implies_true, ne_eq, ↓asrcV, Tag.cap, List.replicate, allSolid, GVal.solid, Nat.reduceBEq, Nat.reduceMul, Nat.reduceLT, List.length_map, List.length_range, splice, vcA, ↓vcB, vcC, fbFz, e30]
  refine vcSLoop_by (ι := { p : Nat × Nat // p.1 ≤ m.length }) (fun p => ⟨[.any, .ref [.slice (tabG m) tm, .slice (tabG o) to], .any, .slice (ints (ups 0 p.1.1)) (.tok 0 p.1.2), .int .i64 (p.1.1 : Nat)] ++ List.replicate 25 .any, [.tok p.1.2 1]⟩) (fun p => m.length - p.1.1) ?_ ?_
  · refine Into.tok 3 1 [] rfl rfl ?_
    simp +contextual -implicitDefEqProofs (maxSteps := 2000000) (disch := omega) only [↓lenV, binV, optV, ↓loadV, ↓fieldAddrV, ↓boxV, ↓buildSliceV, ↓sliceV, ↓appendV, ↓srcV, bound, cutTag, hiTag, fillE, GVal.cells, grp, GVal.ofConst, ↓resV, resG, List.map, List.headD, List.take, List.drop, ↓reduceIte, Nat.reduceEqDiff, Nat.reduceAdd, Nat.reduceSub, Nat.reduceLeDiff, reduceCtorEq, implies_true, ne_eq, ↓asrcV, Tag.cap, List.replicate, allSolid, GVal.solid, Nat.reduceBEq, Nat.reduceMul, Nat.reduceLT, List.length_map, List.length_range, splice, vcA, ↓vcB, vcC, fbFz, e30]
    intro t
    exact Into.first ⟨(0, t), by omega⟩ ⟨[], by simp⟩ (by simp [WL, leG_self, leG_any, ints, ups_zero])
  · rintro ⟨⟨k, t⟩, hk⟩
    simp +contextual -implicitDefEqProofs (maxSteps := 2000000) (disch := omega) only [↓lenV, binV, optV, ↓loadV, ↓fieldAddrV, ↓boxV, ↓buildSliceV, ↓sliceV, ↓appendV, ↓srcV, bound, cutTag, hiTag, fillE, GVal.cells, grp, GVal.ofConst, ↓resV, resG, List.map, List.headD, List.take, List.drop, ↓reduceIte, Nat.reduceEqDiff, Nat.reduceAdd, Nat.reduceSub, Nat.reduceLeDiff, reduceCtorEq, implies_true, ne_eq, ↓asrcV, Tag.cap, List.replicate, allSolid, GVal.solid, Nat.reduceBEq, Nat.reduceMul, Nat.reduceLT, List.length_map, List.length_range, splice, vcA, ↓vcB, vcC, fbFz, e30, ups_length]
    refine ⟨fun h => ⟨by omega, by omega, fun st => ?_⟩, fun h => ?_⟩
    · exact Into.at ⟨(k + 1, st), by show k + 1 ≤ _; omega⟩ (by show _ < _; simp; omega) ⟨[], by simp⟩ (by simp [WL, leG_self, leG_any, leG_tok, leG_int, ups_succ, ints_append, ints_one])
    · have hk' : k = m.length := by simp at hk; omega
      subst hk'
      refine vcSLoop_by (ι := { p : Nat × Nat // p.1 ≤ o.length }) (fun p => ⟨[.any, .ref [.slice (tabG m) tm, .slice (tabG o) to], .any, .slice (ints (allI m.length p.1.1)) (.tok 0 p.1.2), .any, .int .i64 (p.1.1 : Nat)] ++ List.replicate 24 .any, [.tok p.1.2 1]⟩) (fun p => o.length - p.1.1) ?_ ?_
      · exact Into.first ⟨(0, t), by omega⟩ ⟨[], by simp⟩ (by simp [WL, leG_self, leG_any, leG_tok, allI, ups_zero])
      · rintro ⟨⟨k, t⟩, hk⟩
        have hl : (allI m.length k).length = m.length + k := by simp [allI, ups_length]
        simp +contextual -implicitDefEqProofs (maxSteps := 2000000) (disch := omega) only [↓lenV, binV, optV, ↓loadV, ↓fieldAddrV, ↓boxV, ↓buildSliceV, ↓sliceV, ↓appendV, ↓srcV, bound, cutTag, hiTag, fillE, GVal.cells, grp, GVal.ofConst, ↓resV, resG, List.map, List.headD, List.take, List.drop, ↓reduceIte, Nat.reduceEqDiff, Nat.reduceAdd, Nat.reduceSub, Nat.reduceLeDiff, reduceCtorEq, implies_true, ne_eq, ↓asrcV, Tag.cap, List.replicate, allSolid, GVal.solid, Nat.reduceBEq, Nat.reduceMul, Nat.reduceLT, List.length_map, List.length_range, splice, vcA, ↓vcB, vcC, fbFz, e30, hl]
        refine ⟨fun h => ⟨by omega, by omega, fun st => ?_⟩, fun h => ?_⟩
        · exact Into.at ⟨(k + 1, st), by show k + 1 ≤ _; omega⟩ (by show _ < _; simp; omega) ⟨[], by simp⟩ (by simp [WL, leG_self, leG_any, leG_tok, leG_int, ups_succ, ints_append, ints_one, allI, split])
        · have hk' : k = o.length := by simp at hk; omega
          subst hk'
          rfl
end Gv.Tryz
/- Contracts: tables, lists. -/
set_option linter.unusedVariables false
set_option maxRecDepth 20000
set_option linter.unusedSimpArgs false
namespace Gv.Tryz
open Go Gv Go.Proofs

theorem spec13 (M O : List (List GVal)) (tm to : Tag) : GPure Tryz.prog 7 [.agg [.slice M tm, .slice O to]] (.agg [.slice M tm, .slice O to]) := by
  refine h7.pure mixS (by simp) ?_
  simp only [gstart, s7, List.cons_append, List.nil_append, List.length_cons, List.length_nil, Nat.reduceAdd, Nat.reduceSub, List.replicate_succ, List.replicate_zero]
  simp +contextual -implicitDefEqProofs (maxSteps := 2000000) (disch := omega) only [↓loadV, ↓storeV, ↓fieldAddrV, ↓allocV, ↓boxV, ↓buildV, fillG, place, GVal.cells, grp, GVal.ofConst, ↓resV, resG, List.map, List.headD, List.take, List.drop, ↓reduceIte, Nat.reduceEqDiff, Nat.reduceAdd, Nat.reduceSub, Nat.reduceLeDiff, reduceCtorEq, implies_true, ne_eq, Tag.cap, List.replicate, allSolid, GVal.solid, Nat.reduceBEq, Nat.reduceMul, Nat.reduceLT, List.length_map, List.length_range, splice, vcA, ↓vcB, vcC, fbFz, e7]

def parI (m o : List (List Int)) (id : Int) : List Int :=
  if 0 ≤ id ∧ id < m.length then m.getD id.toNat [] else if split ≤ id ∧ id < split + o.length then o.getD (id - split).toNat [] else []
def hasI (m o : Nat) (id : Int) : Bool := decide ((0 ≤ id ∧ id < m) ∨ (split ≤ id ∧ id < split + o))

theorem spec65 (m o : List (List GVal)) (tm to : Tag) (id : Int) (hm : m.length ≤ 1000) (ho : o.length ≤ 1000) (hid : id ≤ 4611686018427387904) :
    GPure Tryz.prog 78 [.agg [.slice m tm, .slice o to], .int .i64 id] (.bool (hasI m.length o.length id)) := by
  refine h78.pure mixS (by simp) ?_
  simp only [gstart, s78, List.cons_append, List.nil_append, List.length_cons, List.length_nil, Nat.reduceAdd, Nat.reduceSub, List.replicate_succ, List.replicate_zero]
  simp +contextual -implicitDefEqProofs (maxSteps := 2000000) (disch := omega) only [↓lenV, binV, ↓loadV, ↓fieldAddrV, ↓boxV, GVal.cells, grp, GVal.ofConst, ↓resV, resG, List.map, List.headD, List.take, List.drop, ↓reduceIte, Nat.reduceEqDiff, Nat.reduceAdd, Nat.reduceSub, Nat.reduceLeDiff, reduceCtorEq, implies_true, ne_eq, Tag.cap, List.replicate, allSolid, GVal.solid, Nat.reduceBEq, Nat.reduceMul, Nat.reduceLT, List.length_map, List.length_range, splice, vcA, ↓vcB, vcC, fbFz, e78]
  have e : ∀ b : Bool, ((0 ≤ id ∧ id < m.length) ∨ (split ≤ id ∧ id < split + o.length) ↔ b = true) → b = hasI m.length o.length id := by
    intro b hb
    rw [Bool.eq_iff_iff, ← hb]; simp [hasI]
  refine ⟨fun h0 => ⟨fun h1 => e _ (by simp; omega), fun h1 => ⟨fun h2 => e _ ?_, fun h2 => e _ (by simp [split]; omega)⟩⟩, fun h0 => ⟨fun h2 => by omega, fun h2 => e _ (by simp [split]; omega)⟩⟩
  rw [decide_eq_true_iff]; simp only [split]; omega

theorem ints_congr {a b : List Int} (h : a = b) (t : Tag) : leG (.slice (ints a) t) (.slice (ints b) .none) := by rw [leG_none, h]
theorem spec16 (m o : List (List Int)) (tm to : Tag) (id : Int) (hm : m.length ≤ 1000) (ho : o.length ≤ 1000) :
    GPure Tryz.prog 35 [.agg [.slice (tabG m) tm, .slice (tabG o) to], .int .i64 id] (.tuple [.slice (ints (parI m o id)) .none, .bool (hasI m.length o.length id)]) := by
  refine h35.pure mixS (by simp) ?_
  simp only [gstart, s35, List.cons_append, List.nil_append, List.length_cons, List.length_nil, Nat.reduceAdd, Nat.reduceSub, List.replicate_succ, List.replicate_zero]
  simp +contextual -implicitDefEqProofs (maxSteps := 2000000) (disch := omega) only [↓lenV, binV, optV, ↓loadV, ↓fieldAddrV, ↓indexAddrV, ↓boxV, ↓sliceV, bound, cutTag, hiTag, GVal.cells, grp, GVal.ofConst, ↓resV, resG, List.map, List.headD, List.take, List.drop, ↓reduceIte, Nat.reduceEqDiff, Nat.reduceAdd, Nat.reduceSub, Nat.reduceLeDiff, reduceCtorEq, implies_true, ne_eq, Tag.cap, List.replicate, allSolid, GVal.solid, Nat.reduceBEq, Nat.reduceMul, Nat.reduceLT, List.length_map, List.length_range, splice, vcA, ↓vcB, vcC, fbFz, e35]
  have e : ∀ b : Bool, ((0 ≤ id ∧ id < m.length) ∨ (split ≤ id ∧ id < split + o.length) ↔ b = true) → b = hasI m.length o.length id := by
    intro b hb
    rw [Bool.eq_iff_iff, ← hb]; simp [hasI]
  have n1 : ∀ l : List Int, l = parI m o id → leG (.slice (ints l) .none) (.slice (ints (parI m o id)) .none) := fun l h => ints_congr h _
  have n2 : [] = parI m o id → leG (.slice [] .nil) (.slice (ints (parI m o id)) .none) := fun h => ints_congr (a := []) h _
  refine ⟨fun h0 => ⟨fun h1 => ⟨n1 _ ?_, e _ (by simp; omega)⟩, fun h1 => ⟨fun h2 => ⟨fun h3 => ⟨by omega, by omega, n1 _ ?_, e _ (by simp [split]; omega)⟩, fun h3 => ⟨n2 ?_, e _ (by simp [split]; omega)⟩⟩, fun h2 => ⟨n2 ?_, e _ (by simp [split]; omega)⟩⟩⟩,
    fun h0 => ⟨fun h2 => by omega, fun h2 => ⟨n2 ?_, e _ (by simp [split]; omega)⟩⟩⟩
  · rw [parI, if_pos ⟨h0, h1⟩]
  · rw [parI, if_neg (by omega), if_pos (by simp only [split]; omega)]; rfl
  · rw [parI, if_neg (by omega), if_neg (by simp only [split]; omega)]
  · rw [parI, if_neg (by omega), if_neg (by simp only [split]; omega)]
  · rw [parI, if_neg (by omega), if_neg (by simp only [split]; omega)]

theorem spec58 (l : List Int) (t : Tag) (hl : l.length ≤ 17592186044416) (ht : t = .nil → l = []) : GPure Tryz.prog 82 [.slice (ints l) t] (.slice (ints l) .none) := by
  refine h82.pure mixS (by simp) ?_
  simp only [gstart, s82, List.cons_append, List.nil_append, List.length_cons, List.length_nil, Nat.reduceAdd, Nat.reduceSub, List.replicate_succ, List.replicate_zero]
  simp +contextual -implicitDefEqProofs (maxSteps := 2000000) (disch := omega) only [binV, optV, ↓buildSliceV, ↓sliceV, ↓appendV, ↓srcV, bound, cutTag, hiTag, fillE, GVal.cells, grp, GVal.ofConst, ↓resV, resG, List.map, List.headD, List.take, List.drop, ↓reduceIte, Nat.reduceEqDiff, Nat.reduceAdd, Nat.reduceSub, Nat.reduceLeDiff, reduceCtorEq, implies_true, ne_eq, ↓asrcV, aggV, Tag.cap, List.replicate, allSolid, GVal.solid, Nat.reduceBEq, Nat.reduceMul, Nat.reduceLT, List.length_map, List.length_range, splice, vcA, ↓vcB, vcC, fbFz, e82]
  exact ⟨fun h => by rw [ht h]; rfl, fun h h2 => ⟨by omega, by omega⟩⟩

def idxI : List Int → Int → Int → Int
  | [], _, _ => -1
  | a :: l, x, k => if x = a then k else idxI l x (k + 1)
theorem idxI_drop (l : List Int) (x : Int) (k : Nat) (h : k < l.length) : idxI (l.drop k) x k = if x = l.getD k 0 then (k : Int) else idxI (l.drop (k + 1)) x ((k : Int) + 1) := by
  rw [List.drop_eq_getElem_cons h, idxI]
  simp [List.getD, h]
theorem idxI_neg : ∀ (l : List Int) (x k : Int), 0 ≤ k → (0 ≤ idxI l x k ↔ x ∈ l)
  | [], x, k, h => by simp [idxI]
  | a :: l, x, k, h => by
    unfold idxI
    split
    · rename_i e; subst e; simp [h]
    · rename_i e; rw [idxI_neg l x (k + 1) (by omega)]; simp [e]

theorem spec61 (l : List Int) (t : Tag) (x : Int) (hl : l.length ≤ 17592186044416) : GPure Tryz.prog 93 [.slice (ints l) t, .int .i64 x] (.int .i64 (idxI l x 0)) := by
  refine h93.pure mixS (by simp) ?_
  simp only [gstart, s93, List.cons_append, List.nil_append, List.length_cons, List.length_nil, Nat.reduceAdd, Nat.reduceSub, List.replicate_succ, List.replicate_zero]
  simp +contextual -implicitDefEqProofs (maxSteps := 2000000) (disch := omega) only [↓lenV, binV, ↓loadV, ↓indexAddrV, GVal.cells, grp, GVal.ofConst, ↓resV, resG, List.map, List.headD, List.take, List.drop, ↓reduceIte, Nat.reduceEqDiff, Nat.reduceAdd, Nat.reduceSub, Nat.reduceLeDiff, reduceCtorEq, implies_true, ne_eq, aggV, Tag.cap, List.replicate, allSolid, GVal.solid, Nat.reduceBEq, Nat.reduceMul, Nat.reduceLT, List.length_map, List.length_range, splice, vcA, ↓vcB, vcC, fbFz, e93]
  refine vcSLoop_by (ι := { k : Nat // k ≤ l.length ∧ idxI l x 0 = idxI (l.drop k) x k }) (fun k => ⟨[.slice (ints l) t, .int .i64 x, .any, .any, .any, .any, .any, .int .i64 l.length, .int .i64 (k.1 : Nat)] ++ List.replicate 10 .any, []⟩) (fun k => l.length - k.1) ?_ ?_
  · exact Into.first ⟨0, by omega, by simp⟩ ⟨[], by simp⟩ (by simp [WL, leG_self, leG_any])
  · rintro ⟨k, hk, hx⟩
    simp +contextual -implicitDefEqProofs (maxSteps := 2000000) (disch := omega) only [↓lenV, binV, ↓loadV, ↓indexAddrV, GVal.cells, grp, GVal.ofConst, ↓resV, resG, List.map, List.headD, List.take, List.drop, ↓reduceIte, Nat.reduceEqDiff, Nat.reduceAdd, Nat.reduceSub, Nat.reduceLeDiff, reduceCtorEq, implies_true, ne_eq, aggV, Tag.cap, List.replicate, allSolid, GVal.solid, Nat.reduceBEq, Nat.reduceMul, Nat.reduceLT, List.length_map, List.length_range, splice, vcA, ↓vcB, vcC, fbFz, e93]
    refine ⟨fun h => ⟨by omega, fun h2 => ?_, fun h2 => ?_⟩, fun h => ?_⟩
    · have := hx
      rw [idxI_drop l x k (by omega), if_pos h2] at this
      rw [← h2, this]
    · refine Into.at ⟨k + 1, by omega, ?_⟩ (by show _ < _; simp; omega) ⟨[], by simp⟩ (by simp [WL, leG_self, leG_any, leG_int])
      rw [hx, idxI_drop l x k (by omega), if_neg h2]; rfl
    · rw [hx, List.drop_eq_nil_of_le (by omega)]; rfl

theorem spec47 (l : List Int) (t : Tag) (x : Int) (hl : l.length ≤ 17592186044416) : GPure Tryz.prog 79 [.slice (ints l) t, .int .i64 x] (.bool (decide (x ∈ l))) := by
  refine h79.pure mixS (by simp) ?_
  simp only [gstart, s79, List.cons_append, List.nil_append, List.length_cons, List.length_nil, Nat.reduceAdd, Nat.reduceSub, List.replicate_succ, List.replicate_zero]
  simp +contextual -implicitDefEqProofs (maxSteps := 2000000) (disch := omega) only [binV, GVal.cells, grp, GVal.ofConst, ↓resV, resG, List.map, List.headD, List.take, List.drop, ↓reduceIte, Nat.reduceEqDiff, Nat.reduceAdd, Nat.reduceSub, Nat.reduceLeDiff, reduceCtorEq, implies_true, ne_eq, Tag.cap, List.replicate, allSolid, GVal.solid, Nat.reduceBEq, Nat.reduceMul, Nat.reduceLT, List.length_map, List.length_range, splice, vcA, ↓vcB, vcC, fbFz, e79]
  refine (spec61 l t x hl).then ?_
  simp +contextual -implicitDefEqProofs (maxSteps := 2000000) (disch := omega) only [binV, GVal.cells, grp, GVal.ofConst, ↓resV, resG, List.map, List.headD, List.take, List.drop, ↓reduceIte, Nat.reduceEqDiff, Nat.reduceAdd, Nat.reduceSub, Nat.reduceLeDiff, reduceCtorEq, implies_true, ne_eq, Tag.cap, List.replicate, allSolid, GVal.solid, Nat.reduceBEq, Nat.reduceMul, Nat.reduceLT, List.length_map, List.length_range, splice, vcA, ↓vcB, vcC, fbFz, e79]
  rw [eq_comm, Bool.eq_iff_iff, decide_eq_true_iff, decide_eq_true_iff, idxI_neg l x 0 (by omega)]

end Gv.Tryz
/- Contracts: equal lists, parents, what may be. -/
set_option linter.unusedVariables false
set_option maxRecDepth 20000
set_option linter.unusedSimpArgs false
namespace Gv.Tryz
open Go Gv Go.Proofs

def atI (n k : Int) (ids : List Int) : Int := ids.getD ((norm .i64 (n.tdiv k)) % (ids.length : Int)).toNat 0
def lastI (ids : List Int) : Int := ids.getD ((ids.length : Int) - 1).toNat 0
def par (n : Int) (ids : List Int) : List Int :=
  if ids.length = 0 then [] else
  if n % 12 = 0 then [] else
  if n % 12 = 1 then [atI n 12 ids] else
  if n % 12 = 2 then [atI n 12 ids] else
  if n % 12 = 3 ∨ n % 12 = 4 then (if atI n 12 ids = atI n 144 ids then [atI n 12 ids] else [atI n 12 ids, atI n 144 ids]) else
  if n % 12 = 5 then (if atI n 12 ids = lastI ids then [atI n 12 ids] else [atI n 12 ids, lastI ids]) else [lastI ids]

theorem spec40 (n : Int) (ids : List Int) (t : Tag) (hl : ids.length ≤ 1000000) : GPure Tryz.prog 29 [.int .i64 n, .slice (ints ids) t] (.slice (ints (par n ids)) .none) := by
  refine h29.pure mixS (by simp) ?_
  simp only [gstart, s29, List.cons_append, List.nil_append, List.length_cons, List.length_nil, Nat.reduceAdd, Nat.reduceSub, List.replicate_succ, List.replicate_zero]
  simp +contextual -implicitDefEqProofs (maxSteps := 2000000) (disch := omega) only [↓lenV, binV, optV, ↓loadV, ↓indexAddrV, ↓buildSliceV, ↓sliceV, bound, cutTag, hiTag, fillE, GVal.cells, grp, GVal.ofConst, ↓resV, resG, List.map, List.headD, List.take, List.drop, ↓reduceIte, Nat.reduceEqDiff, Nat.reduceAdd, Nat.reduceSub, Nat.reduceLeDiff, reduceCtorEq, implies_true, ne_eq, aggV, Tag.cap, List.replicate, allSolid, GVal.solid, Nat.reduceBEq, Nat.reduceMul, Nat.reduceLT, List.length_map, List.length_range, splice, vcA, ↓vcB, vcC, fbFz, e29]
  refine ⟨fun h => ?_, fun h => ⟨by omega, by omega, (spec25 n 12 (by omega) (by omega)).then ?_⟩⟩
  · rw [par, if_pos (by omega)]; rfl
  simp +contextual -implicitDefEqProofs (maxSteps := 2000000) (disch := omega) only [↓lenV, binV, optV, ↓loadV, ↓indexAddrV, ↓buildSliceV, ↓sliceV, bound, cutTag, hiTag, fillE, GVal.cells, grp, GVal.ofConst, ↓resV, resG, List.map, List.headD, List.take, List.drop, ↓reduceIte, Nat.reduceEqDiff, Nat.reduceAdd, Nat.reduceSub, Nat.reduceLeDiff, reduceCtorEq, implies_true, ne_eq, aggV, Tag.cap, List.replicate, allSolid, GVal.solid, Nat.reduceBEq, Nat.reduceMul, Nat.reduceLT, List.length_map, List.length_range, splice, vcA, ↓vcB, vcC, fbFz, e29]
  have hb : ∀ x : Int, 0 ≤ x % (ids.length : Int) ∧ x % (ids.length : Int) < ids.length := fun x => ⟨Int.emod_nonneg _ (by omega), Int.emod_lt_of_pos _ (by omega)⟩
  have h12 := hb (norm .i64 (n.tdiv 12))
  have h144 := hb (norm .i64 (n.tdiv 144))
  have e12 : ids.getD (norm .i64 (n.tdiv 12) % (ids.length : Int)).toNat 0 = atI n 12 ids := rfl
  have e144 : ids.getD (norm .i64 (n.tdiv 144) % (ids.length : Int)).toNat 0 = atI n 144 ids := rfl
  have el : ids.getD ((ids.length : Int) - 1).toNat 0 = lastI ids := rfl
  have hl0 : ids.length ≠ 0 := by omega
  have c12 := spec25 (norm .i64 (n.tdiv 12)) ids.length (by omega) (by omega)
  have c144 := spec25 (norm .i64 (n.tdiv 144)) ids.length (by omega) (by omega)
  refine ⟨fun h0 => ?_, fun h0 => ⟨fun h1 => ⟨by omega, c12.then ?_⟩, fun h1 => ⟨fun h2 => ⟨by omega, c12.then ?_⟩, fun h2 => ⟨fun h3 => ⟨by omega, c12.then ?_⟩, fun h3 => ⟨fun h4 => ⟨by omega, c12.then ?_⟩, fun h4 => ⟨fun h5 => ⟨by omega, c12.then ?_⟩, fun h5 => ?_⟩⟩⟩⟩⟩⟩
  · rw [par, if_neg hl0, if_pos h0]; rfl
  · simp +contextual -implicitDefEqProofs (maxSteps := 2000000) (disch := omega) only [↓lenV, binV, optV, ↓loadV, ↓indexAddrV, ↓buildSliceV, ↓sliceV, bound, cutTag, hiTag, fillE, GVal.cells, grp, GVal.ofConst, ↓resV, resG, List.map, List.headD, List.take, List.drop, ↓reduceIte, Nat.reduceEqDiff, Nat.reduceAdd, Nat.reduceSub, Nat.reduceLeDiff, reduceCtorEq, implies_true, ne_eq, aggV, Tag.cap, List.replicate, allSolid, GVal.solid, Nat.reduceBEq, Nat.reduceMul, Nat.reduceLT, List.length_map, List.length_range, splice, vcA, ↓vcB, vcC, fbFz, e29, e12, e144, el]
    rw [par, if_neg hl0, if_neg h0, if_pos h1]; exact ⟨h12.1, h12.2, rfl⟩
  · simp +contextual -implicitDefEqProofs (maxSteps := 2000000) (disch := omega) only [↓lenV, binV, optV, ↓loadV, ↓indexAddrV, ↓buildSliceV, ↓sliceV, bound, cutTag, hiTag, fillE, GVal.cells, grp, GVal.ofConst, ↓resV, resG, List.map, List.headD, List.take, List.drop, ↓reduceIte, Nat.reduceEqDiff, Nat.reduceAdd, Nat.reduceSub, Nat.reduceLeDiff, reduceCtorEq, implies_true, ne_eq, aggV, Tag.cap, List.replicate, allSolid, GVal.solid, Nat.reduceBEq, Nat.reduceMul, Nat.reduceLT, List.length_map, List.length_range, splice, vcA, ↓vcB, vcC, fbFz, e29, e12, e144, el]
    rw [par, if_neg hl0, if_neg h0, if_neg h1, if_pos h2]; exact ⟨h12.1, h12.2, rfl⟩
  · simp +contextual -implicitDefEqProofs (maxSteps := 2000000) (disch := omega) only [↓lenV, binV, optV, ↓loadV, ↓indexAddrV, ↓buildSliceV, ↓sliceV, bound, cutTag, hiTag, fillE, GVal.cells, grp, GVal.ofConst, ↓resV, resG, List.map, List.headD, List.take, List.drop, ↓reduceIte, Nat.reduceEqDiff, Nat.reduceAdd, Nat.reduceSub, Nat.reduceLeDiff, reduceCtorEq, implies_true, ne_eq, aggV, Tag.cap, List.replicate, allSolid, GVal.solid, Nat.reduceBEq, Nat.reduceMul, Nat.reduceLT, List.length_map, List.length_range, splice, vcA, ↓vcB, vcC, fbFz, e29, e12, e144, el]
    refine ⟨h12.1, h12.2, by omega, c144.then ?_⟩
    simp +contextual -implicitDefEqProofs (maxSteps := 2000000) (disch := omega) only [↓lenV, binV, optV, ↓loadV, ↓indexAddrV, ↓buildSliceV, ↓sliceV, bound, cutTag, hiTag, fillE, GVal.cells, grp, GVal.ofConst, ↓resV, resG, List.map, List.headD, List.take, List.drop, ↓reduceIte, Nat.reduceEqDiff, Nat.reduceAdd, Nat.reduceSub, Nat.reduceLeDiff, reduceCtorEq, implies_true, ne_eq, aggV, Tag.cap, List.replicate, allSolid, GVal.solid, Nat.reduceBEq, Nat.reduceMul, Nat.reduceLT, List.length_map, List.length_range, splice, vcA, ↓vcB, vcC, fbFz, e29, e12, e144, el]
    rw [par, if_neg hl0, if_neg h0, if_neg h1, if_neg h2, if_pos (.inl h3)]
    exact ⟨h144.1, h144.2, fun e => by rw [if_pos e, e]; rfl, fun e => by rw [if_neg e]; rfl⟩
  · simp +contextual -implicitDefEqProofs (maxSteps := 2000000) (disch := omega) only [↓lenV, binV, optV, ↓loadV, ↓indexAddrV, ↓buildSliceV, ↓sliceV, bound, cutTag, hiTag, fillE, GVal.cells, grp, GVal.ofConst, ↓resV, resG, List.map, List.headD, List.take, List.drop, ↓reduceIte, Nat.reduceEqDiff, Nat.reduceAdd, Nat.reduceSub, Nat.reduceLeDiff, reduceCtorEq, implies_true, ne_eq, aggV, Tag.cap, List.replicate, allSolid, GVal.solid, Nat.reduceBEq, Nat.reduceMul, Nat.reduceLT, List.length_map, List.length_range, splice, vcA, ↓vcB, vcC, fbFz, e29, e12, e144, el]
    refine ⟨h12.1, h12.2, by omega, c144.then ?_⟩
    simp +contextual -implicitDefEqProofs (maxSteps := 2000000) (disch := omega) only [↓lenV, binV, optV, ↓loadV, ↓indexAddrV, ↓buildSliceV, ↓sliceV, bound, cutTag, hiTag, fillE, GVal.cells, grp, GVal.ofConst, ↓resV, resG, List.map, List.headD, List.take, List.drop, ↓reduceIte, Nat.reduceEqDiff, Nat.reduceAdd, Nat.reduceSub, Nat.reduceLeDiff, reduceCtorEq, implies_true, ne_eq, aggV, Tag.cap, List.replicate, allSolid, GVal.solid, Nat.reduceBEq, Nat.reduceMul, Nat.reduceLT, List.length_map, List.length_range, splice, vcA, ↓vcB, vcC, fbFz, e29, e12, e144, el]
    rw [par, if_neg hl0, if_neg h0, if_neg h1, if_neg h2, if_pos (.inr h4)]
    exact ⟨h144.1, h144.2, fun e => by rw [if_pos e, e]; rfl, fun e => by rw [if_neg e]; rfl⟩
  · simp +contextual -implicitDefEqProofs (maxSteps := 2000000) (disch := omega) only [↓lenV, binV, optV, ↓loadV, ↓indexAddrV, ↓buildSliceV, ↓sliceV, bound, cutTag, hiTag, fillE, GVal.cells, grp, GVal.ofConst, ↓resV, resG, List.map, List.headD, List.take, List.drop, ↓reduceIte, Nat.reduceEqDiff, Nat.reduceAdd, Nat.reduceSub, Nat.reduceLeDiff, reduceCtorEq, implies_true, ne_eq, aggV, Tag.cap, List.replicate, allSolid, GVal.solid, Nat.reduceBEq, Nat.reduceMul, Nat.reduceLT, List.length_map, List.length_range, splice, vcA, ↓vcB, vcC, fbFz, e29, e12, e144, el]
    rw [par, if_neg hl0, if_neg h0, if_neg h1, if_neg h2, if_neg (by omega), if_pos h5]
    exact ⟨h12.1, h12.2, fun e => by rw [if_pos e, e]; rfl, fun e => by rw [if_neg e]; rfl⟩
  · rw [el, par, if_neg hl0, if_neg h0, if_neg h1, if_neg h2, if_neg (by omega), if_neg h5]; rfl

def okRow (m o : Nat) (lim most : Int) : List Int → List Int → Bool
  | _, [] => true
  | seen, p :: r => !(decide (lim ≤ p) || decide (most < p) || !hasI m o p || decide (p ∈ seen)) && okRow m o lim most (seen ++ [p]) r
def okG (m o : Nat) (most : Int) (frm : Int) : List (List Int) → Bool
  | [] => true
  | p :: r => okRow m o frm most [] p && decide (p.length ≤ 4) && okG m o most (frm + 1) r

theorem okRow_drop {m o : Nat} {lim most : Int} {l : List Int} {i : Nat} (h : i < l.length) : okRow m o lim most (l.take i) (l.drop i) =
    (!(decide (lim ≤ l.getD i 0) || decide (most < l.getD i 0) || !hasI m o (l.getD i 0) || decide (l.getD i 0 ∈ l.take i)) && okRow m o lim most (l.take (i + 1)) (l.drop (i + 1))) := by
  rw [List.drop_eq_getElem_cons h, okRow]
  simp [List.getD, h]
theorem okG_drop {m o : Nat} {most frm : Int} {l : List (List Int)} {i : Nat} (h : i < l.length) : okG m o most (frm + i) (l.drop i) =
    (okRow m o (frm + i) most [] (l.getD i []) && decide ((l.getD i []).length ≤ 4) && okG m o most (frm + ((i + 1 : Nat) : Int)) (l.drop (i + 1))) := by
  rw [List.drop_eq_getElem_cons h, okG]
  simp [List.getD, h, Int.add_assoc]

theorem ints_take (l : List Int) (i : Nat) : (ints l).take i = ints (l.take i) := by simp [ints]
theorem spec57 (m o l : List (List Int)) (tm to tl : Tag) (frm most : Int) (hm : m.length ≤ 1000) (ho : o.length ≤ 1000) (hl : l.length ≤ 1000) (hf : 0 ≤ frm) (hf2 : frm ≤ 1099511627776) (hr : ∀ p ∈ l, p.length ≤ 17592186044416) :
    GPure Tryz.prog 59 [.agg [.slice (tabG m) tm, .slice (tabG o) to], .slice (tabG l) tl, .int .i64 frm, .int .i64 most] (.bool (okG m.length o.length most frm l)) := by
  refine h59.pure mixS (by simp) ?_
  simp only [gstart, s59, List.cons_append, List.nil_append, List.length_cons, List.length_nil, Nat.reduceAdd, Nat.reduceSub, List.replicate_succ, List.replicate_zero]
  simp +contextual -implicitDefEqProofs (maxSteps := 2000000) (disch := omega) only [↓lenV, binV, ↓unV, optV, ↓loadV, ↓indexAddrV, ↓boxV, ↓sliceV, bound, cutTag, hiTag, GVal.cells, grp, GVal.ofConst, ↓resV, resG, List.map, List.headD, List.take, List.drop, ↓reduceIte, Nat.reduceEqDiff, Nat.reduceAdd, Nat.reduceSub, Nat.reduceLeDiff, reduceCtorEq, implies_true, ne_eq, Tag.cap, List.replicate, allSolid, GVal.solid, Nat.reduceBEq, Nat.reduceMul, Nat.reduceLT, List.length_map, List.length_range, splice, vcA, ↓vcB, vcC, fbFz, e59]
  refine vcSLoop_by (ι := { k : Nat // k ≤ l.length ∧ okG m.length o.length most frm l = okG m.length o.length most (frm + k) (l.drop k) }) (fun k => ⟨[.agg [.slice (tabG m) tm, .slice (tabG o) to], .slice (tabG l) tl, .int .i64 frm, .int .i64 most, .ref [.slice (tabG m) tm, .slice (tabG o) to], .any, .any, .any, .any, .any, .any, .any, .any, .slice (tabG l) tl, .int .i64 l.length, .int .i64 (k.1 : Nat)] ++ List.replicate 39 .any, []⟩) (fun k => l.length - k.1) ?_ ?_
  · exact Into.first ⟨0, by omega, by simp⟩ ⟨[], by simp⟩ (by simp [WL, leG_self, leG_any])
  · rintro ⟨k, hk, hx⟩
    simp +contextual -implicitDefEqProofs (maxSteps := 2000000) (disch := omega) only [↓lenV, binV, ↓unV, optV, ↓loadV, ↓indexAddrV, ↓boxV, ↓sliceV, bound, cutTag, hiTag, GVal.cells, grp, GVal.ofConst, ↓resV, resG, List.map, List.headD, List.take, List.drop, ↓reduceIte, Nat.reduceEqDiff, Nat.reduceAdd, Nat.reduceSub, Nat.reduceLeDiff, reduceCtorEq, implies_true, ne_eq, Tag.cap, List.replicate, allSolid, GVal.solid, Nat.reduceBEq, Nat.reduceMul, Nat.reduceLT, List.length_map, List.length_range, splice, vcA, ↓vcB, vcC, fbFz, e59]
    refine ⟨fun h => ⟨by omega, ?_⟩, fun h => ?_⟩
    · have hkl : k < l.length := by omega
      have hq : (l.getD k []).length ≤ 17592186044416 := by
        rw [List.getD_eq_getElem?_getD, List.getElem?_eq_getElem hkl]; exact hr _ (List.getElem_mem hkl)
      rw [okG_drop hkl] at hx
      revert hx
      generalize l.getD k [] = q at *
      intro hx
      refine vcSLoop_by (ι := { i : Nat // i ≤ q.length ∧ okRow m.length o.length (frm + k) most [] q = okRow m.length o.length (frm + k) most (q.take i) (q.drop i) }) (fun i => ⟨[.agg [.slice (tabG m) tm, .slice (tabG o) to], .slice (tabG l) tl, .int .i64 frm, .int .i64 most, .ref [.slice (tabG m) tm, .slice (tabG o) to], .any, .any, .any, .any, .int .i64 (k : Nat), .slice (ints q) .none, .any, .any, .slice (tabG l) tl, .int .i64 l.length, .int .i64 (k : Nat), .any, .any, .any, .any, .slice (ints q) .none, .int .i64 q.length, .int .i64 (i.1 : Nat)] ++ List.replicate 32 .any, []⟩) (fun i => q.length - i.1) ?_ ?_
      · exact Into.first ⟨0, by omega, by simp⟩ ⟨[], by simp⟩ (by simp [WL, leG_self, leG_any])
      · rintro ⟨i, hi, hy⟩
        simp +contextual -implicitDefEqProofs (maxSteps := 2000000) (disch := omega) only [↓lenV, binV, ↓unV, optV, ↓loadV, ↓indexAddrV, ↓boxV, ↓sliceV, bound, cutTag, hiTag, GVal.cells, grp, GVal.ofConst, ↓resV, resG, List.map, List.headD, List.take, List.drop, ↓reduceIte, Nat.reduceEqDiff, Nat.reduceAdd, Nat.reduceSub, Nat.reduceLeDiff, reduceCtorEq, implies_true, ne_eq, Tag.cap, List.replicate, allSolid, GVal.solid, Nat.reduceBEq, Nat.reduceMul, Nat.reduceLT, List.length_map, List.length_range, splice, vcA, ↓vcB, vcC, fbFz, e59]
        refine ⟨fun h2 => ⟨by omega, fun h3 => ?_, fun h3 => ?_⟩, fun h2 => ?_⟩
        · have hz := hy.trans (okRow_drop (by omega))
          rw [hx, hz, decide_eq_true h3]; simp
        · have hz := hy.trans (okRow_drop (by omega))
          rw [decide_eq_false (by omega : ¬ frm + (k : Int) ≤ q.getD i 0), Bool.false_or] at hz
          refine ⟨fun h4 => ?_, fun h4 => ?_⟩
          · rw [hx, hz, decide_eq_true h4]; simp
          rw [decide_eq_false (by omega : ¬ most < q.getD i 0), Bool.false_or] at hz
          have c65 := spec65 (tabG m) (tabG o) tm to (q.getD i 0) (by rw [tabG_length]; exact hm) (by rw [tabG_length]; exact ho) (by omega)
          rw [tabG_length, tabG_length] at c65
          cases hh : hasI m.length o.length (q.getD i 0)
          · rw [hh] at c65 hz
            refine c65.then ?_
            simp +contextual -implicitDefEqProofs (maxSteps := 2000000) (disch := omega) only [↓lenV, binV, ↓unV, optV, ↓loadV, ↓indexAddrV, ↓boxV, ↓sliceV, bound, cutTag, hiTag, GVal.cells, grp, GVal.ofConst, ↓resV, resG, List.map, List.headD, List.take, List.drop, ↓reduceIte, Nat.reduceEqDiff, Nat.reduceAdd, Nat.reduceSub, Nat.reduceLeDiff, reduceCtorEq, implies_true, ne_eq, Tag.cap, List.replicate, allSolid, GVal.solid, Nat.reduceBEq, Nat.reduceMul, Nat.reduceLT, List.length_map, List.length_range, splice, vcA, ↓vcB, vcC, fbFz, e59]
            rw [hx, hz]; simp
          · rw [hh, Bool.not_true, Bool.false_or] at hz
            rw [hh] at c65
            refine c65.then ?_
            simp +contextual -implicitDefEqProofs (maxSteps := 2000000) (disch := omega) only [↓lenV, binV, ↓unV, optV, ↓loadV, ↓indexAddrV, ↓boxV, ↓sliceV, bound, cutTag, hiTag, GVal.cells, grp, GVal.ofConst, ↓resV, resG, List.map, List.headD, List.take, List.drop, ↓reduceIte, Nat.reduceEqDiff, Nat.reduceAdd, Nat.reduceSub, Nat.reduceLeDiff, reduceCtorEq, implies_true, ne_eq, Tag.cap, List.replicate, allSolid, GVal.solid, Nat.reduceBEq, Nat.reduceMul, Nat.reduceLT, List.length_map, List.length_range, splice, vcA, ↓vcB, vcC, fbFz, e59, ints_take, Int.toNat_zero]
            refine ⟨by omega, by omega, by omega, (spec47 (q.take i) .none (q.getD i 0) (by rw [List.length_take]; omega)).then ?_⟩
            simp +contextual -implicitDefEqProofs (maxSteps := 2000000) (disch := omega) only [↓lenV, binV, ↓unV, optV, ↓loadV, ↓indexAddrV, ↓boxV, ↓sliceV, bound, cutTag, hiTag, GVal.cells, grp, GVal.ofConst, ↓resV, resG, List.map, List.headD, List.take, List.drop, ↓reduceIte, Nat.reduceEqDiff, Nat.reduceAdd, Nat.reduceSub, Nat.reduceLeDiff, reduceCtorEq, implies_true, ne_eq, Tag.cap, List.replicate, allSolid, GVal.solid, Nat.reduceBEq, Nat.reduceMul, Nat.reduceLT, List.length_map, List.length_range, splice, vcA, ↓vcB, vcC, fbFz, e59]
            refine ⟨fun h5 => ?_, fun h5 => ?_⟩
            · rw [hx, hz, decide_eq_true h5]; rfl
            · rw [decide_eq_false h5, Bool.not_false, Bool.true_and] at hz
              exact Into.at ⟨i + 1, by omega, hz⟩ (by show _ < _; simp; omega) ⟨[], by simp⟩ (by simp [WL, leG_self, leG_any, leG_int])
        · have hz : okRow m.length o.length (frm + k) most [] q = true := by rw [hy, List.drop_eq_nil_of_le (by omega), okRow]
          rw [hz, Bool.true_and] at hx
          refine ⟨fun h3 => ?_, fun h3 => ?_⟩
          · rw [hx, decide_eq_false (by omega)]; rfl
          · rw [decide_eq_true (by omega), Bool.true_and] at hx
            exact Into.at ⟨k + 1, by omega, hx⟩ (by show _ < _; simp; omega) ⟨[], by simp⟩ (by simp [WL, leG_self, leG_any, leG_int])
    · rw [hx, List.drop_eq_nil_of_le (by omega)]; rfl

def rightI (m o : List (List Int)) : Bool := okG m.length o.length 1099511627775 0 m && okG m.length o.length (split + o.length) split o
theorem spec34 (m o : List (List Int)) (tm to : Tag) (hm : m.length ≤ 1000) (ho : o.length ≤ 1000) (hr : ∀ p ∈ m, p.length ≤ 17592186044416) (hr2 : ∀ p ∈ o, p.length ≤ 17592186044416) :
    GPure Tryz.prog 31 [.agg [.slice (tabG m) tm, .slice (tabG o) to]] (.bool (rightI m o)) := by
  refine h31.pure mixS (by simp) ?_
  simp only [gstart, s31, List.cons_append, List.nil_append, List.length_cons, List.length_nil, Nat.reduceAdd, Nat.reduceSub, List.replicate_succ, List.replicate_zero]
  simp +contextual -implicitDefEqProofs (maxSteps := 2000000) (disch := omega) only [↓lenV, binV, ↓loadV, ↓fieldAddrV, ↓boxV, GVal.cells, grp, GVal.ofConst, ↓resV, resG, List.map, List.headD, List.take, List.drop, ↓reduceIte, Nat.reduceEqDiff, Nat.reduceAdd, Nat.reduceSub, Nat.reduceLeDiff, reduceCtorEq, implies_true, ne_eq, Tag.cap, List.replicate, allSolid, GVal.solid, Nat.reduceBEq, Nat.reduceMul, Nat.reduceLT, List.length_map, List.length_range, splice, vcA, ↓vcB, vcC, fbFz, e31]
  have c1 := spec57 m o m tm to tm 0 1099511627775 hm ho hm (by omega) (by omega) hr
  have c2 := spec57 m o o tm to to 1099511627776 (1099511627776 + o.length) hm ho ho (by omega) (by omega) hr2
  unfold rightI split
  cases hh : okG m.length o.length 1099511627775 0 m
  · rw [hh] at c1
    refine c1.then ?_
    simp +contextual -implicitDefEqProofs (maxSteps := 2000000) (disch := omega) only [↓lenV, binV, ↓loadV, ↓fieldAddrV, ↓boxV, GVal.cells, grp, GVal.ofConst, ↓resV, resG, List.map, List.headD, List.take, List.drop, ↓reduceIte, Nat.reduceEqDiff, Nat.reduceAdd, Nat.reduceSub, Nat.reduceLeDiff, reduceCtorEq, implies_true, ne_eq, Tag.cap, List.replicate, allSolid, GVal.solid, Nat.reduceBEq, Nat.reduceMul, Nat.reduceLT, List.length_map, List.length_range, splice, vcA, ↓vcB, vcC, fbFz, e31]
    rfl
  · rw [hh] at c1
    refine c1.then ?_
    simp +contextual -implicitDefEqProofs (maxSteps := 2000000) (disch := omega) only [↓lenV, binV, ↓loadV, ↓fieldAddrV, ↓boxV, GVal.cells, grp, GVal.ofConst, ↓resV, resG, List.map, List.headD, List.take, List.drop, ↓reduceIte, Nat.reduceEqDiff, Nat.reduceAdd, Nat.reduceSub, Nat.reduceLeDiff, reduceCtorEq, implies_true, ne_eq, Tag.cap, List.replicate, allSolid, GVal.solid, Nat.reduceBEq, Nat.reduceMul, Nat.reduceLT, List.length_map, List.length_range, splice, vcA, ↓vcB, vcC, fbFz, e31]
    refine c2.then ?_
    simp +contextual -implicitDefEqProofs (maxSteps := 2000000) (disch := omega) only [↓lenV, binV, ↓loadV, ↓fieldAddrV, ↓boxV, GVal.cells, grp, GVal.ofConst, ↓resV, resG, List.map, List.headD, List.take, List.drop, ↓reduceIte, Nat.reduceEqDiff, Nat.reduceAdd, Nat.reduceSub, Nat.reduceLeDiff, reduceCtorEq, implies_true, ne_eq, Tag.cap, List.replicate, allSolid, GVal.solid, Nat.reduceBEq, Nat.reduceMul, Nat.reduceLT, List.length_map, List.length_range, splice, vcA, ↓vcB, vcC, fbFz, e31]
    simp

end Gv.Tryz
/- Contracts: lines. -/
set_option linter.unusedVariables false
set_option linter.unusedSimpArgs false
set_option maxRecDepth 20000
namespace Gv.Tryz
open Go Gv Go.Proofs

structure Seg where
  lo : Int
  hi : Int
  par : List Int
  root : Bool
  head : Bool
deriving DecidableEq, Inhabited
def segG (s : Seg) : List GVal := [.int .i64 s.lo, .int .i64 s.hi, .slice (ints s.par) .none, .bool s.root, .bool s.head]
def segsG (l : List Seg) : List (List GVal) := l.map segG
theorem segsG_length (l : List Seg) : (segsG l).length = l.length := by simp [segsG]
theorem segsG_at (l : List Seg) (i : Nat) (h : i < l.length) : (segsG l).getD i [] = segG (l.getD i default) := by simp [segsG, List.getD, h]
theorem segsG_append (a b : List Seg) : segsG (a ++ b) = segsG a ++ segsG b := by simp [segsG]
theorem segsG_one (s : Seg) : segsG [s] = [segG s] := rfl
theorem all_segsG (l : List Seg) : (∀ x ∈ segsG l, x.length = 5) = True := by simp [segsG, segG]
theorem segsG_set (l : List Seg) (i : Nat) (s : Seg) : (segsG l).set i (segG s) = segsG (l.set i s) := by simp [segsG, List.map_set]
theorem frz_segs (O : List GObj) (n : Nat) (l : List Seg) : frzLL (Gv.frz O (n + 2)) (segsG l) = some (segsG l) :=
  frzLL_same fun x hx => by
    obtain ⟨s, _, rfl⟩ := List.mem_map.1 hx
    simp only [segG, frzL, frz_intsS, Tag.frz]
    simp [Gv.frz]

def headsG (l : List Int) : List (GVal × GVal) := l.map fun n => (.int .i64 n, .bool true)
theorem headsG_length (l : List Int) : (headsG l).length = l.length := by simp [headsG]
def hins (l : List Int) (n : Int) : List Int := if n ∈ l then l else l ++ [n]
theorem kfind_heads (p : Int) : ∀ l : List Int, kfind ⟨[.int], false⟩ (.int .i64 p) (headsG l) = some (if p ∈ l then some (l.idxOf p) else none)
  | [] => rfl
  | a :: l => by
    have ih := kfind_heads p l
    show kfind _ _ ((GVal.int .i64 a, GVal.bool true) :: headsG l) = _
    unfold kfind
    have e : keyEq ⟨[.int], false⟩ (.int .i64 p) (.int .i64 a) = some (p == a) := by
      simp [keyEq, keyCells, cellsEq, ceq]
    rw [e, ih]
    by_cases h : p = a
    · subst h; simp
    · have h' : (p == a) = false := by simpa using h
      rw [h']
      by_cases hm : p ∈ l
      · have h2 : (a == p) = false := by simpa using Ne.symm h
        simp [hm, h, List.idxOf_cons, h2]
      · simp [hm, h]

theorem map_eraseIdx' {α β : Type} (f : α → β) : ∀ (l : List α) (i : Nat), (l.map f).eraseIdx i = (l.eraseIdx i).map f
  | [], _ => rfl
  | a :: l, 0 => rfl
  | a :: l, i + 1 => by simp [map_eraseIdx' f l i]
theorem delete_heads (P : Program) (t : TypeId) (u : TypeId) (hk : keyT P t = some (⟨[.int], false⟩, u)) (st : Nat) (p : Int) (hs : List Int) (r : List GObj) (K : List GObj → Prop) :
    deleteV P t (.map 0 st) (.int .i64 p) (.map st (headsG hs) :: r) K = K (.map st (headsG (hs.erase p)) :: r) := by
  unfold deleteV
  rw [hk]
  simp only [keyOk, keyCells, List.length_cons, List.length_nil, List.getElem?_cons_zero, true_and, kfind_heads]
  by_cases h : p ∈ hs
  · rw [if_pos h]
    simp only [List.set_cons_zero]
    rw [List.erase_eq_eraseIdx_of_idxOf (i := hs.idxOf p) rfl]
    rw [headsG, map_eraseIdx']; rfl
  · rw [if_neg h, List.erase_of_not_mem h]
theorem update_heads (P : Program) (t : TypeId) (u : TypeId) (hk : keyT P t = some (⟨[.int], false⟩, u)) (st : Nat) (p : Int) (hs : List Int) (r : List GObj) (K : List GObj → Prop) :
    mapUpdateV P t (.map 0 st) (.int .i64 p) (.bool true) (.map st (headsG hs) :: r) K = K (.map st (headsG (hins hs p)) :: r) := by
  unfold mapUpdateV
  rw [hk]
  simp only [keyOk, keyCells, List.length_cons, List.length_nil, List.getElem?_cons_zero, true_and, kfind_heads]
  by_cases h : p ∈ hs
  · rw [if_pos h, hins, if_pos h]
    simp only [List.set_cons_zero]
    have : (headsG hs).set (hs.idxOf p) (.int .i64 p, .bool true) = headsG hs := by
      have h1 : hs.idxOf p < hs.length := List.idxOf_lt_length_iff.2 h
      have h2 : hs[hs.idxOf p] = p := List.getElem_idxOf h1
      apply List.ext_getElem (by simp)
      intro i h3 h4
      rw [List.getElem_set]
      split
      · rename_i e; subst e; simp [headsG, h2]
      · rfl
    rw [this]
  · rw [if_neg h, hins, if_neg h]
    simp [headsG]

def hdel (l : List Int) : List Int → List Int
  | [] => l
  | p :: r => hdel (l.erase p) r
theorem hdel_append (l a b : List Int) : hdel l (a ++ b) = hdel (hdel l a) b := by
  induction a generalizing l with
  | nil => rfl
  | cons x a ih => exact ih _
theorem hdel_take (l q : List Int) (i : Nat) (h : i < q.length) : hdel l (q.take (i + 1)) = (hdel l (q.take i)).erase (q.getD i 0) := by
  rw [List.take_add_one, hdel_append]
  simp [List.getElem?_eq_getElem h, hdel, List.getD]

theorem getD_set_segs (l : List Seg) (i : Nat) (x d : List GVal) (h : i < l.length) : ((segsG l).set i x).getD i d = x := by
  have : i < (segsG l).length := by rw [segsG_length]; exact h
  simp [List.getD, this]
theorem getD_set_same {α : Type} (l : List α) (i : Nat) (x d : α) (h : i < l.length) : (l.set i x).getD i d = x := by simp [List.getD, h]
theorem cast_beq_one (n : Nat) : ((n : Int) == 1) = decide (n = 1) := by
  rw [Bool.eq_iff_iff, beq_iff_eq, decide_eq_true_iff]; omega
theorem cast_beq_zero (n : Nat) : ((n : Int) == 0) = decide (n = 0) := by
  rw [Bool.eq_iff_iff, beq_iff_eq, decide_eq_true_iff]; omega
structure LSt where
  out : List Seg
  hs : List Int
def lstep (frm : Int) (s : LSt) (k : Nat) (q : List Int) : LSt :=
  let hs := hins (hdel s.hs q) (frm + k)
  if 0 < k ∧ q.length = 1 ∧ q.getD 0 0 = frm + k - 1 then ⟨s.out.set (s.out.length - 1) { s.out.getD (s.out.length - 1) default with hi := frm + k, head := decide (hs.length = 1) }, hs⟩
  else ⟨s.out ++ [⟨frm + k, frm + k, q, decide (q.length = 0), decide (hs.length = 1)⟩], hs⟩
def lrun (frm : Int) (l : List (List Int)) : Nat → LSt
  | 0 => ⟨[], []⟩
  | n + 1 => lstep frm (lrun frm l n) n (l.getD n [])
def linesI (frm : Int) (l : List (List Int)) : List Seg := (lrun frm l l.length).out
theorem lstep_len (frm : Int) (s : LSt) (k : Nat) (q : List Int) : (lstep frm s k q).out.length ≤ s.out.length + 1 ∧ s.out.length ≤ (lstep frm s k q).out.length ∧ (s.out = [] ∧ k ≠ 0 ∨ (lstep frm s k q).out ≠ []) := by
  unfold lstep
  simp only
  split
  · rename_i h
    refine ⟨by simp, by simp, ?_⟩
    by_cases e : s.out = []
    · exact .inl ⟨e, by omega⟩
    · right; simpa using e
  · exact ⟨by simp, by simp, .inr (by simp)⟩
theorem lrun_len (frm : Int) (l : List (List Int)) : ∀ k, (lrun frm l k).out.length ≤ k ∧ (k ≠ 0 → (lrun frm l k).out ≠ [])
  | 0 => by simp [lrun]
  | k + 1 => by
    have h := lstep_len frm (lrun frm l k) k (l.getD k [])
    have ih := lrun_len frm l k
    refine ⟨by rw [lrun]; omega, fun _ => ?_⟩
    rcases h.2.2 with h1 | h1
    · exact absurd h1.1 (ih.2 h1.2)
    · rw [lrun]; exact h1

theorem c41 (l : List (List Int)) (t : Tag) (frm : Int) (hl : l.length ≤ 1000) (hf : 0 ≤ frm) (hf2 : frm ≤ 1099511627776) (hr : ∀ p ∈ l, p.length ≤ 4) :
    GCalls Tryz.prog 61 [.slice (tabG l) t, .int .i64 frm] [] (fun g O' => ∃ st0 st1, g = .own 1 st1 0 (linesI frm l).length ∧ O' = [.map st0 (headsG (lrun frm l l.length).hs), .row st1 5 (segsG (linesI frm l))]) := by
  refine h61.calls mixS (by simp) ?_
  simp only [gstart, s61, List.cons_append, List.nil_append, List.length_cons, List.length_nil, Nat.reduceAdd, Nat.reduceSub, List.replicate_succ, List.replicate_zero]
  simp +contextual -implicitDefEqProofs (maxSteps := 2000000) (disch := omega) only [↓lenV, binV, optV, ↓loadV, ↓storeV, ↓fieldAddrV, ↓indexAddrV, ↓buildV, ↓buildSliceV, ↓sliceV, ↓nilV, ↓appendV, ↓srcV, bound, cutTag, hiTag, fillG, fillE, place, GVal.cells, grp, GVal.ofConst, ↓resV, resG, List.map, List.headD, List.take, List.drop, ↓reduceIte, Nat.reduceEqDiff, Nat.reduceAdd, Nat.reduceSub, Nat.reduceLeDiff, reduceCtorEq, implies_true, ne_eq, ↓asrcV, ↓mapUpdateV, ↓deleteV, ↓makeMapV, keyOk, keyCells, aggV, Tag.cap, List.replicate, allSolid, GVal.solid, Nat.reduceBEq, Nat.reduceMul, Nat.reduceLT, List.length_map, List.length_range, splice, vcA, ↓vcB, vcC, fbFz, e61]
  intro st0
  refine vcSLoop_by (ι := { p : Nat × Nat // p.1 ≤ l.length }) (fun p => ⟨[.slice (tabG l) t, .int .i64 frm, .any, .any, .any, .own 1 p.1.2 0 (lrun frm l p.1.1).out.length, .map 0 st0, .any, .any, .any, .any, .any, .any, .any, .slice (tabG l) t, .int .i64 l.length, .int .i64 (p.1.1 : Nat)] ++ List.replicate 64 .any, [.map st0 (headsG (lrun frm l p.1.1).hs), .row p.1.2 5 (segsG (lrun frm l p.1.1).out)]⟩) (fun p => l.length - p.1.1) ?_ ?_
  · refine Into.row 5 5 rfl rfl ?_
    simp +contextual -implicitDefEqProofs (maxSteps := 2000000) (disch := omega) only [↓lenV, binV, optV, ↓loadV, ↓storeV, ↓fieldAddrV, ↓indexAddrV, ↓buildV, ↓buildSliceV, ↓sliceV, ↓nilV, ↓appendV, ↓srcV, bound, cutTag, hiTag, fillG, fillE, place, GVal.cells, grp, GVal.ofConst, ↓resV, resG, List.map, List.headD, List.take, List.drop, ↓reduceIte, Nat.reduceEqDiff, Nat.reduceAdd, Nat.reduceSub, Nat.reduceLeDiff, reduceCtorEq, implies_true, ne_eq, ↓asrcV, ↓mapUpdateV, ↓deleteV, ↓makeMapV, keyOk, keyCells, aggV, Tag.cap, List.replicate, allSolid, GVal.solid, Nat.reduceBEq, Nat.reduceMul, Nat.reduceLT, List.length_map, List.length_range, splice, vcA, ↓vcB, vcC, fbFz, e61]
    intro t
    exact Into.first ⟨(0, t), by omega⟩ ⟨[], by simp [lrun, headsG, segsG]⟩ (by simp [WL, leG_self, leG_any, lrun])
  · rintro ⟨⟨k, st1⟩, hk⟩
    simp +contextual -implicitDefEqProofs (maxSteps := 2000000) (disch := omega) only [↓lenV, binV, optV, ↓loadV, ↓storeV, ↓fieldAddrV, ↓indexAddrV, ↓buildV, ↓buildSliceV, ↓sliceV, ↓nilV, ↓appendV, ↓srcV, bound, cutTag, hiTag, fillG, fillE, place, GVal.cells, grp, GVal.ofConst, ↓resV, resG, List.map, List.headD, List.take, List.drop, ↓reduceIte, Nat.reduceEqDiff, Nat.reduceAdd, Nat.reduceSub, Nat.reduceLeDiff, reduceCtorEq, implies_true, ne_eq, ↓asrcV, ↓mapUpdateV, ↓deleteV, ↓makeMapV, keyOk, keyCells, aggV, Tag.cap, List.replicate, allSolid, GVal.solid, Nat.reduceBEq, Nat.reduceMul, Nat.reduceLT, List.length_map, List.length_range, splice, vcA, ↓vcB, vcC, fbFz, e61]
    refine ⟨fun h => ⟨by omega, ?_⟩, fun h => ?_⟩
    · have hkl : k < l.length := by omega
      have hq : (l.getD k []).length ≤ 4 := by
        rw [List.getD_eq_getElem?_getD, List.getElem?_eq_getElem hkl]; exact hr _ (List.getElem_mem hkl)
      have hrun : lrun frm l (k + 1) = lstep frm (lrun frm l k) k (l.getD k []) := rfl
      have hlen := lrun_len frm l k
      revert hrun hlen
      generalize lrun frm l k = s0
      generalize hs1 : lrun frm l (k + 1) = s1
      generalize l.getD k [] = q at *
      intro hrun hlen
      refine vcSLoop_by (ι := { i : Nat // i ≤ q.length }) (fun i => ⟨[.slice (tabG l) t, .int .i64 frm, .any, .any, .any, .own 1 st1 0 s0.out.length, .map 0 st0, .int .i64 (k : Nat), .slice (ints q) .none, .int .i64 (frm + k), .any, .any, .any, .any, .slice (tabG l) t, .int .i64 l.length, .int .i64 (k : Nat), .any, .any, .any, .any, .any, .any, .any, .slice (ints q) .none, .int .i64 q.length, .int .i64 (i.1 : Nat)] ++ List.replicate 54 .any, [.map st0 (headsG (hdel s0.hs (q.take i.1))), .row st1 5 (segsG s0.out)]⟩) (fun i => q.length - i.1) ?_ ?_
      · exact Into.first ⟨0, by omega⟩ ⟨[], by simp [hdel]⟩ (by simp [WL, leG_self, leG_any])
      · rintro ⟨i, hi⟩
        have hpos : 0 < k → 0 < s0.out.length := fun h => List.length_pos_iff.2 (hlen.2 (by omega))
        have c58 := spec58 q .none (by omega) (by simp)
        simp +contextual -implicitDefEqProofs (maxSteps := 2000000) (disch := omega) only [↓lenV, binV, optV, ↓loadV, ↓storeV, ↓fieldAddrV, ↓indexAddrV, ↓buildV, ↓buildSliceV, ↓sliceV, ↓nilV, ↓appendV, ↓srcV, bound, cutTag, hiTag, fillG, fillE, place, GVal.cells, grp, GVal.ofConst, ↓resV, resG, List.map, List.headD, List.take, List.drop, ↓reduceIte, Nat.reduceEqDiff, Nat.reduceAdd, Nat.reduceSub, Nat.reduceLeDiff, reduceCtorEq, implies_true, ne_eq, ↓asrcV, ↓makeMapV, keyOk, keyCells, aggV, Tag.cap, List.replicate, allSolid, GVal.solid, Nat.reduceBEq, Nat.reduceMul, Nat.reduceLT, List.length_map, List.length_range, splice, vcA, ↓vcB, vcC, fbFz, e61, delete_heads Tryz.prog 92 4 keyT92, update_heads Tryz.prog 92 4 keyT92, headsG_length, segsG_length, toNat_pred, getD_set_segs, segsG_at, segG, List.set_set, List.length_set, Int.toNat_zero, cast_beq_one, cast_beq_zero]
        refine ⟨fun h2 => ⟨by omega, ?_⟩, fun h2 => ?_⟩
        · exact Into.at ⟨i + 1, by omega⟩ (by show _ < _; simp; omega) ⟨[], by simp [hdel_take _ q i (by omega)]⟩ (by simp [WL, leG_self, leG_any, leG_int])
        · rw [List.take_of_length_le (by omega)]
          refine ⟨fun h3 => ⟨fun h4 => ⟨by omega, by omega, fun h5 => ?_, fun h5 => ?_⟩, fun h4 => ?_⟩, fun h3 => ?_⟩
          · have hp := hpos (by omega)
            refine ⟨by omega, by omega, by omega, by omega, by omega, ?_⟩
            have e : s1 = ⟨s0.out.set (s0.out.length - 1) { s0.out.getD (s0.out.length - 1) default with hi := frm + k, head := decide ((hins (hdel s0.hs q) (frm + k)).length = 1) }, hins (hdel s0.hs q) (frm + k)⟩ := by
              rw [hrun, lstep, if_pos ⟨by omega, h4, h5⟩]
            refine Into.at ⟨(k + 1, st1), by show k + 1 ≤ _; omega⟩ (by show _ < _; simp; omega) ⟨[], ?_⟩ ?_
            · simp only [hs1, e, ← segsG_set, List.append_nil]; rfl
            · simp [WL, leG_self, leG_any, leG_int, hs1, e]
          all_goals
            have hn : ¬ (0 < k ∧ q.length = 1 ∧ q.getD 0 0 = frm + k - 1) := by omega
            have e : s1 = ⟨s0.out ++ [⟨frm + k, frm + k, q, decide (q.length = 0), decide ((hins (hdel s0.hs q) (frm + k)).length = 1)⟩], hins (hdel s0.hs q) (frm + k)⟩ := by
              rw [hrun, lstep, if_neg hn]
            refine c58.then ?_
            simp +contextual -implicitDefEqProofs (maxSteps := 2000000) (disch := omega) only [↓lenV, binV, optV, ↓loadV, ↓storeV, ↓fieldAddrV, ↓indexAddrV, ↓buildV, ↓buildSliceV, ↓sliceV, ↓nilV, ↓appendV, ↓srcV, bound, cutTag, hiTag, fillG, fillE, place, GVal.cells, grp, GVal.ofConst, ↓resV, resG, List.map, List.headD, List.take, List.drop, ↓reduceIte, Nat.reduceEqDiff, Nat.reduceAdd, Nat.reduceSub, Nat.reduceLeDiff, reduceCtorEq, implies_true, ne_eq, ↓asrcV, ↓makeMapV, keyOk, keyCells, aggV, Tag.cap, List.replicate, allSolid, GVal.solid, Nat.reduceBEq, Nat.reduceMul, Nat.reduceLT, List.length_map, List.length_range, splice, vcA, ↓vcB, vcC, fbFz, e61, delete_heads Tryz.prog 92 4 keyT92, update_heads Tryz.prog 92 4 keyT92, headsG_length, segsG_length, toNat_pred, getD_set_segs, segsG_at, segG, all_segsG, List.set_set, List.length_set, Int.toNat_zero, cast_beq_one, cast_beq_zero, List.take_length]
            refine ⟨by omega, by omega, by omega, fun st => ?_⟩
            refine Into.at ⟨(k + 1, st), by show k + 1 ≤ _; omega⟩ (by show _ < _; simp; omega) ⟨[], ?_⟩ ?_
            · simp only [hs1, e, List.append_nil, segsG_append, segsG_one]
              rw [List.take_of_length_le (by rw [segsG_length]; omega)]; rfl
            · simp [WL, leG_self, leG_any, leG_int, hs1, e]
    · have hk' : k = l.length := by simp at hk; omega
      subst hk'
      exact ⟨st0, st1, rfl, rfl⟩

theorem spec41 (l : List (List Int)) (t : Tag) (frm : Int) (hl : l.length ≤ 1000) (hf : 0 ≤ frm) (hf2 : frm ≤ 1099511627776) (hr : ∀ p ∈ l, p.length ≤ 4) :
    GPure Tryz.prog 61 [.slice (tabG l) t, .int .i64 frm] (.slice (segsG (linesI frm l)) .none) :=
  GCalls.toPure ((c41 l t frm hl hf hf2 hr).mono fun g O' ⟨st0, st1, e1, e2⟩ => ⟨4, .slice (segsG (linesI frm l)) .none, by
    rw [e1, e2]; exact frz_own rfl (segsG_length _).symm (frz_segs _ 1 _), by rw [leA_slice]⟩)

def buildI (m o : List (List Int)) : List Seg := if rightI m o = true then linesI 0 m ++ linesI split o else []

theorem okG_row {m o : Nat} {most : Int} : ∀ {l : List (List Int)} {frm : Int}, okG m o most frm l = true → ∀ p ∈ l, p.length ≤ 4
  | [], _, _, p, hp => by simp at hp
  | a :: l, frm, h, p, hp => by
    simp only [okG, Bool.and_eq_true, decide_eq_true_eq] at h
    rcases List.mem_cons.1 hp with rfl | hp
    · exact h.1.2
    · exact okG_row h.2 p hp

theorem spec12 (m o : List (List Int)) (tm to : Tag) (hm : m.length ≤ 1000) (ho : o.length ≤ 1000) (hr : ∀ p ∈ m, p.length ≤ 17592186044416) (hr2 : ∀ p ∈ o, p.length ≤ 17592186044416) :
    GPure Tryz.prog 33 [.agg [.slice (tabG m) tm, .slice (tabG o) to]] (.slice (segsG (buildI m o)) .none) := by
  refine h33.pureF mixS (by simp) ?_
  simp only [gstart, s33, List.cons_append, List.nil_append, List.length_cons, List.length_nil, Nat.reduceAdd, Nat.reduceSub, List.replicate_succ, List.replicate_zero]
  simp +contextual -implicitDefEqProofs (maxSteps := 2000000) (disch := omega) only [drawC, drawK, keepT, ↓unV, optV, ↓loadV, ↓fieldAddrV, ↓boxV, ↓sliceV, ↓appendV, ↓srcV, bound, cutTag, hiTag, GVal.cells, grp, GVal.ofConst, ↓resV, resG, List.map, List.headD, List.take, List.drop, ↓reduceIte, Nat.reduceEqDiff, Nat.reduceAdd, Nat.reduceSub, Nat.reduceLeDiff, reduceCtorEq, implies_true, ne_eq, ↓asrcV, Tag.cap, List.replicate, allSolid, GVal.solid, Nat.reduceBEq, Nat.reduceMul, Nat.reduceLT, List.length_map, List.length_range, splice, vcA, ↓vcB, vcC, fbFz, e33]
  have c34 := spec34 m o tm to hm ho hr hr2
  unfold buildI
  cases hh : rightI m o
  · rw [hh] at c34
    refine c34.then ?_
    simp +contextual -implicitDefEqProofs (maxSteps := 2000000) (disch := omega) only [drawC, drawK, keepT, ↓unV, optV, ↓loadV, ↓fieldAddrV, ↓boxV, ↓sliceV, ↓appendV, ↓srcV, bound, cutTag, hiTag, GVal.cells, grp, GVal.ofConst, ↓resV, resG, List.map, List.headD, List.take, List.drop, ↓reduceIte, Nat.reduceEqDiff, Nat.reduceAdd, Nat.reduceSub, Nat.reduceLeDiff, reduceCtorEq, implies_true, ne_eq, ↓asrcV, Tag.cap, List.replicate, allSolid, GVal.solid, Nat.reduceBEq, Nat.reduceMul, Nat.reduceLT, List.length_map, List.length_range, splice, vcA, ↓vcB, vcC, fbFz, e33]
    exact ⟨2, .slice [] .nil, rfl, by rw [leA_slice]; rfl⟩
  · rw [hh] at c34
    have h2 : okG m.length o.length 1099511627775 0 m = true ∧ okG m.length o.length (split + o.length) split o = true := by
      simpa [rightI] using hh
    refine c34.then ?_
    simp +contextual -implicitDefEqProofs (maxSteps := 2000000) (disch := omega) only [drawC, drawK, keepT, ↓unV, optV, ↓loadV, ↓fieldAddrV, ↓boxV, ↓sliceV, ↓appendV, ↓srcV, bound, cutTag, hiTag, GVal.cells, grp, GVal.ofConst, ↓resV, resG, List.map, List.headD, List.take, List.drop, ↓reduceIte, Nat.reduceEqDiff, Nat.reduceAdd, Nat.reduceSub, Nat.reduceLeDiff, reduceCtorEq, implies_true, ne_eq, ↓asrcV, Tag.cap, List.replicate, allSolid, GVal.solid, Nat.reduceBEq, Nat.reduceMul, Nat.reduceLT, List.length_map, List.length_range, splice, vcA, ↓vcB, vcC, fbFz, e33]
    refine (c41 m tm 0 hm (by omega) (by omega) (okG_row h2.1)).mono ?_
    rintro g O' ⟨st0, st1, rfl, rfl⟩
    simp +contextual -implicitDefEqProofs (maxSteps := 2000000) (disch := omega) only [drawC, drawK, keepT, ↓unV, optV, ↓loadV, ↓fieldAddrV, ↓boxV, ↓sliceV, ↓appendV, ↓srcV, bound, cutTag, hiTag, GVal.cells, grp, GVal.ofConst, ↓resV, resG, List.map, List.headD, List.take, List.drop, ↓reduceIte, Nat.reduceEqDiff, Nat.reduceAdd, Nat.reduceSub, Nat.reduceLeDiff, reduceCtorEq, implies_true, ne_eq, ↓asrcV, Tag.cap, List.replicate, allSolid, GVal.solid, Nat.reduceBEq, Nat.reduceMul, Nat.reduceLT, List.length_map, List.length_range, splice, vcA, ↓vcB, vcC, fbFz, e33]
    refine ⟨⟨_, rfl⟩, ?_⟩
    refine (spec41 o to 1099511627776 ho (by omega) (by omega) (okG_row h2.2)).then ?_
    simp +contextual -implicitDefEqProofs (maxSteps := 2000000) (disch := omega) only [drawC, drawK, keepT, ↓unV, optV, ↓loadV, ↓fieldAddrV, ↓boxV, ↓sliceV, ↓appendV, ↓srcV, bound, cutTag, hiTag, GVal.cells, grp, GVal.ofConst, ↓resV, resG, List.map, List.headD, List.take, List.drop, ↓reduceIte, Nat.reduceEqDiff, Nat.reduceAdd, Nat.reduceSub, Nat.reduceLeDiff, reduceCtorEq, implies_true, ne_eq, ↓asrcV, Tag.cap, List.replicate, allSolid, GVal.solid, Nat.reduceBEq, Nat.reduceMul, Nat.reduceLT, List.length_map, List.length_range, splice, vcA, ↓vcB, vcC, fbFz, e33, all_segsG, segsG_length]
    have l1 := (lrun_len 0 m m.length).1
    have l2 := (lrun_len 1099511627776 o o.length).1
    have e1 : (linesI 0 m).length ≤ 1000 := by rw [linesI]; omega
    have e2 : (linesI 1099511627776 o).length ≤ 1000 := by rw [linesI]; omega
    refine ⟨by omega, by omega, by omega, fun st => ?_⟩
    refine ⟨4, .slice (segsG (linesI 0 m ++ linesI split o)) .none, ?_, by rw [leA_slice]⟩
    rw [List.take_of_length_le (by rw [segsG_length]; omega), ← segsG_append]
    exact frz_own rfl (by rw [segsG_length, List.length_append]; rfl) (frz_segs _ 1 _)

end Gv.Tryz
/- Contracts: a raw table. -/
set_option linter.unusedVariables false
set_option linter.unusedSimpArgs false
set_option maxRecDepth 20000
namespace Gv.Tryz
open Go Gv Go.Proofs

def rowsM (x : List Int) : Nat → List (List Int)
  | 0 => []
  | k + 1 => rowsM x k ++ [par (x.getD k 0) (allI (rowsM x k).length 0)]
def rowsO (mm : Nat) (x : List Int) : Nat → List (List Int)
  | 0 => []
  | k + 1 => rowsO mm x k ++ [par (x.getD k 0) (allI mm (rowsO mm x k).length)]
def tabM (x : List Int) : List (List Int) := rowsM x (min x.length 25)
def tabO (x y : List Int) : List (List Int) := rowsO (tabM x).length y (min y.length 25)
theorem rowsM_len (x : List Int) : ∀ k, (rowsM x k).length = k
  | 0 => rfl
  | k + 1 => by simp [rowsM, rowsM_len x k]
theorem rowsO_len (mm : Nat) (x : List Int) : ∀ k, (rowsO mm x k).length = k
  | 0 => rfl
  | k + 1 => by simp [rowsO, rowsO_len mm x k]
theorem allI_len (m o : Nat) : (allI m o).length = m + o := by simp [allI, ups_length]
theorem tabG_one (p : List Int) : tabG [p] = [[.slice (ints p) .none]] := rfl

theorem frz_tab (O : List GObj) (n : Nat) (l : List (List Int)) : frzLL (Gv.frz O (n + 2)) (tabG l) = some (tabG l) :=
  frzLL_same fun x hx => by
    obtain ⟨s, _, rfl⟩ := List.mem_map.1 hx
    simp only [frzL, frz_intsS, Tag.frz]
theorem frz_tabS (O : List GObj) (n : Nat) (l : List (List Int)) (t : Tag) : Gv.frz O (n + 3) (.slice (tabG l) t) = some (.slice (tabG l) t.frz) := by
  rw [Gv.frz, frz_tab]
theorem frz_agg2 {O : List GObj} {n : Nat} {a b a' b' : GVal} (ha : Gv.frz O n a = some a') (hb : Gv.frz O n b = some b') : Gv.frz O (n + 1) (.agg [a, b]) = some (.agg [a', b']) := by
  rw [Gv.frz]; simp [frzL, ha, hb]

theorem spec11 (x y : List Int) (tx ty : Tag) :
    GPure Tryz.prog 4 [.agg [.slice (ints x) tx, .slice (ints y) ty]] (.agg [.slice (tabG (tabM x)) .none, .slice (tabG (tabO x y)) .none]) := by
  refine h4.pureF mixS (by simp) ?_
  simp only [gstart, s4, List.cons_append, List.nil_append, List.length_cons, List.length_nil, Nat.reduceAdd, Nat.reduceSub, List.replicate_succ, List.replicate_zero]
  simp +contextual -implicitDefEqProofs (maxSteps := 2000000) (disch := omega) only [drawC, drawK, keepT, ↓lenV, binV, ↓loadV, ↓storeV, ↓fieldAddrV, ↓indexAddrV, ↓allocV, ↓boxV, ↓buildSliceV, ↓appendV, ↓srcV, fillE, GVal.cells, grp, GVal.ofConst, ↓resV, resG, List.map, List.headD, List.take, List.drop, ↓reduceIte, Nat.reduceEqDiff, Nat.reduceAdd, Nat.reduceSub, Nat.reduceLeDiff, reduceCtorEq, implies_true, ne_eq, ↓asrcV, Tag.cap, List.replicate, allSolid, GVal.solid, Nat.reduceBEq, Nat.reduceMul, Nat.reduceLT, List.length_map, List.length_range, splice, vcA, ↓vcB, vcC, fbFz, e4]
  intro st0 st1
  have hM := rowsM_len x
  refine vcSLoop_by (ι := { p : Nat × Nat // p.1 ≤ min x.length 25 }) (fun p => ⟨[.agg [.slice (ints x) tx, .slice (ints y) ty], .ref [.slice (ints x) tx, .slice (ints y) ty], .ptr 0 st0 0 0, .ptr 1 st1 0 0, .int .i64 (p.1.1 : Nat)] ++ List.replicate 50 .any, [.row st0 2 [[.slice [] .nil, .slice [] .nil]], .row st1 2 [[.slice (tabG (rowsM x p.1.1)) (.tok 2 p.1.2), .slice [] .nil]], .tok p.1.2 1]⟩) (fun p => min x.length 25 - p.1.1) ?_ ?_
  · refine Into.cellTok 1 0 1 [] rfl rfl rfl rfl ?_
    simp +contextual -implicitDefEqProofs (maxSteps := 2000000) (disch := omega) only [drawC, drawK, keepT, ↓lenV, binV, ↓loadV, ↓storeV, ↓fieldAddrV, ↓indexAddrV, ↓allocV, ↓boxV, ↓buildSliceV, ↓appendV, ↓srcV, fillE, GVal.cells, grp, GVal.ofConst, ↓resV, resG, List.map, List.headD, List.take, List.drop, ↓reduceIte, Nat.reduceEqDiff, Nat.reduceAdd, Nat.reduceSub, Nat.reduceLeDiff, reduceCtorEq, implies_true, ne_eq, ↓asrcV, Tag.cap, List.replicate, allSolid, GVal.solid, Nat.reduceBEq, Nat.reduceMul, Nat.reduceLT, List.length_map, List.length_range, splice, vcA, ↓vcB, vcC, fbFz, e4]
    intro t
    exact Into.first ⟨(0, t), by omega⟩ ⟨[], by simp [rowsM, tabG_nil]⟩ (by simp [WL, leG_self, leG_any])
  · rintro ⟨⟨k, u⟩, hk⟩
    simp +contextual -implicitDefEqProofs (maxSteps := 2000000) (disch := omega) only [drawC, drawK, keepT, ↓lenV, binV, ↓loadV, ↓storeV, ↓fieldAddrV, ↓indexAddrV, ↓allocV, ↓boxV, ↓buildSliceV, ↓appendV, ↓srcV, fillE, GVal.cells, grp, GVal.ofConst, ↓resV, resG, List.map, List.headD, List.take, List.drop, ↓reduceIte, Nat.reduceEqDiff, Nat.reduceAdd, Nat.reduceSub, Nat.reduceLeDiff, reduceCtorEq, implies_true, ne_eq, ↓asrcV, Tag.cap, List.replicate, allSolid, GVal.solid, Nat.reduceBEq, Nat.reduceMul, Nat.reduceLT, List.length_map, List.length_range, splice, vcA, ↓vcB, vcC, fbFz, e4]
    refine ⟨fun h => ⟨fun h2 => ⟨by omega, ?_⟩, fun h2 => ?_⟩, fun h => ?_⟩
    · have c14 := spec14 (rowsM x k) [] (.tok 2 u) .nil (by rw [hM]; omega) (by simp)
      refine c14.then ?_
      simp +contextual -implicitDefEqProofs (maxSteps := 2000000) (disch := omega) only [drawC, drawK, keepT, ↓lenV, binV, ↓loadV, ↓storeV, ↓fieldAddrV, ↓indexAddrV, ↓allocV, ↓boxV, ↓buildSliceV, ↓appendV, ↓srcV, fillE, GVal.cells, grp, GVal.ofConst, ↓resV, resG, List.map, List.headD, List.take, List.drop, ↓reduceIte, Nat.reduceEqDiff, Nat.reduceAdd, Nat.reduceSub, Nat.reduceLeDiff, reduceCtorEq, implies_true, ne_eq, ↓asrcV, Tag.cap, List.replicate, allSolid, GVal.solid, Nat.reduceBEq, Nat.reduceMul, Nat.reduceLT, List.length_map, List.length_range, splice, vcA, ↓vcB, vcC, fbFz, e4]
      refine ⟨⟨[], by simp⟩, ?_⟩
      have c40 := spec40 (x.getD k 0) (allI (rowsM x k).length 0) .none (by rw [allI_len, hM]; omega)
      refine c40.then ?_
      simp +contextual -implicitDefEqProofs (maxSteps := 2000000) (disch := omega) only [drawC, drawK, keepT, ↓lenV, binV, ↓loadV, ↓storeV, ↓fieldAddrV, ↓indexAddrV, ↓allocV, ↓boxV, ↓buildSliceV, ↓appendV, ↓srcV, fillE, GVal.cells, grp, GVal.ofConst, ↓resV, resG, List.map, List.headD, List.take, List.drop, ↓reduceIte, Nat.reduceEqDiff, Nat.reduceAdd, Nat.reduceSub, Nat.reduceLeDiff, reduceCtorEq, implies_true, ne_eq, ↓asrcV, Tag.cap, List.replicate, allSolid, GVal.solid, Nat.reduceBEq, Nat.reduceMul, Nat.reduceLT, List.length_map, List.length_range, splice, vcA, ↓vcB, vcC, fbFz, e4, hM]
      refine ⟨⟨[], by simp⟩, by omega, by omega, fun st => ?_⟩
      exact Into.at ⟨(k + 1, st), by show k + 1 ≤ _; omega⟩ (by show _ < _; simp; omega) ⟨[], by simp [rowsM, tabG_append, tabG_one, hM]⟩ (by simp [WL, leG_self, leG_any, leG_int])
    all_goals
      have hk' : k = min x.length 25 := by simp at hk; omega
      have eM : rowsM x k = tabM x := by rw [tabM, hk']
      have hmm : (tabM x).length ≤ 25 := by rw [tabM, hM]; omega
      have hO := rowsO_len (tabM x).length y
      rw [eM]
      refine vcSLoop_by (ι := { p : Nat × Nat // p.1 ≤ min y.length 25 }) (fun p => ⟨[.agg [.slice (ints x) tx, .slice (ints y) ty], .ref [.slice (ints x) tx, .slice (ints y) ty], .ptr 0 st0 0 0, .ptr 1 st1 0 0, .any, .int .i64 (p.1.1 : Nat)] ++ List.replicate 49 .any, [.row st0 2 [[.slice [] .nil, .slice [] .nil]], .row st1 2 [[.slice (tabG (tabM x)) .none, .slice (tabG (rowsO (tabM x).length y p.1.1)) (.tok 2 p.1.2)]], .tok p.1.2 1]⟩) (fun p => min y.length 25 - p.1.1) ?_ ?_
      · refine Into.cells 1 [.slice (tabG (tabM x)) .none, .slice [] .nil] rfl rfl (by simp [WL, leG_none, leG_self]) ?_
        simp +contextual -implicitDefEqProofs (maxSteps := 2000000) (disch := omega) only [drawC, drawK, keepT, ↓lenV, binV, ↓loadV, ↓storeV, ↓fieldAddrV, ↓indexAddrV, ↓allocV, ↓boxV, ↓buildSliceV, ↓appendV, ↓srcV, fillE, GVal.cells, grp, GVal.ofConst, ↓resV, resG, List.map, List.headD, List.take, List.drop, ↓reduceIte, Nat.reduceEqDiff, Nat.reduceAdd, Nat.reduceSub, Nat.reduceLeDiff, reduceCtorEq, implies_true, ne_eq, ↓asrcV, Tag.cap, List.replicate, allSolid, GVal.solid, Nat.reduceBEq, Nat.reduceMul, Nat.reduceLT, List.length_map, List.length_range, splice, vcA, ↓vcB, vcC, fbFz, e4]
        refine Into.drop (O := [_, _]) (X := [_]) rfl ?_
        refine Into.cellTok 1 1 1 [] rfl rfl rfl rfl ?_
        simp +contextual -implicitDefEqProofs (maxSteps := 2000000) (disch := omega) only [drawC, drawK, keepT, ↓lenV, binV, ↓loadV, ↓storeV, ↓fieldAddrV, ↓indexAddrV, ↓allocV, ↓boxV, ↓buildSliceV, ↓appendV, ↓srcV, fillE, GVal.cells, grp, GVal.ofConst, ↓resV, resG, List.map, List.headD, List.take, List.drop, ↓reduceIte, Nat.reduceEqDiff, Nat.reduceAdd, Nat.reduceSub, Nat.reduceLeDiff, reduceCtorEq, implies_true, ne_eq, ↓asrcV, Tag.cap, List.replicate, allSolid, GVal.solid, Nat.reduceBEq, Nat.reduceMul, Nat.reduceLT, List.length_map, List.length_range, splice, vcA, ↓vcB, vcC, fbFz, e4]
        intro t
        exact Into.first ⟨(0, t), by omega⟩ ⟨[], by simp [rowsO, tabG_nil]⟩ (by simp [WL, leG_self, leG_any])
      · rintro ⟨⟨i, v⟩, hi⟩
        simp +contextual -implicitDefEqProofs (maxSteps := 2000000) (disch := omega) only [drawC, drawK, keepT, ↓lenV, binV, ↓loadV, ↓storeV, ↓fieldAddrV, ↓indexAddrV, ↓allocV, ↓boxV, ↓buildSliceV, ↓appendV, ↓srcV, fillE, GVal.cells, grp, GVal.ofConst, ↓resV, resG, List.map, List.headD, List.take, List.drop, ↓reduceIte, Nat.reduceEqDiff, Nat.reduceAdd, Nat.reduceSub, Nat.reduceLeDiff, reduceCtorEq, implies_true, ne_eq, ↓asrcV, Tag.cap, List.replicate, allSolid, GVal.solid, Nat.reduceBEq, Nat.reduceMul, Nat.reduceLT, List.length_map, List.length_range, splice, vcA, ↓vcB, vcC, fbFz, e4]
        refine ⟨fun h3 => ⟨fun h4 => ⟨by omega, ?_⟩, fun h4 => ?_⟩, fun h3 => ?_⟩
        · have c14 := spec14 (tabM x) (rowsO (tabM x).length y i) .none (.tok 2 v) (by omega) (by rw [hO]; omega)
          refine c14.then ?_
          simp +contextual -implicitDefEqProofs (maxSteps := 2000000) (disch := omega) only [drawC, drawK, keepT, ↓lenV, binV, ↓loadV, ↓storeV, ↓fieldAddrV, ↓indexAddrV, ↓allocV, ↓boxV, ↓buildSliceV, ↓appendV, ↓srcV, fillE, GVal.cells, grp, GVal.ofConst, ↓resV, resG, List.map, List.headD, List.take, List.drop, ↓reduceIte, Nat.reduceEqDiff, Nat.reduceAdd, Nat.reduceSub, Nat.reduceLeDiff, reduceCtorEq, implies_true, ne_eq, ↓asrcV, Tag.cap, List.replicate, allSolid, GVal.solid, Nat.reduceBEq, Nat.reduceMul, Nat.reduceLT, List.length_map, List.length_range, splice, vcA, ↓vcB, vcC, fbFz, e4]
          refine ⟨⟨[], by simp⟩, ?_⟩
          have c40 := spec40 (y.getD i 0) (allI (tabM x).length (rowsO (tabM x).length y i).length) .none (by rw [allI_len, hO]; omega)
          refine c40.then ?_
          simp +contextual -implicitDefEqProofs (maxSteps := 2000000) (disch := omega) only [drawC, drawK, keepT, ↓lenV, binV, ↓loadV, ↓storeV, ↓fieldAddrV, ↓indexAddrV, ↓allocV, ↓boxV, ↓buildSliceV, ↓appendV, ↓srcV, fillE, GVal.cells, grp, GVal.ofConst, ↓resV, resG, List.map, List.headD, List.take, List.drop, ↓reduceIte, Nat.reduceEqDiff, Nat.reduceAdd, Nat.reduceSub, Nat.reduceLeDiff, reduceCtorEq, implies_true, ne_eq, ↓asrcV, Tag.cap, List.replicate, allSolid, GVal.solid, Nat.reduceBEq, Nat.reduceMul, Nat.reduceLT, List.length_map, List.length_range, splice, vcA, ↓vcB, vcC, fbFz, e4, hO]
          refine ⟨⟨[], by simp⟩, by omega, by omega, fun st => ?_⟩
          exact Into.at ⟨(i + 1, st), by show i + 1 ≤ _; omega⟩ (by show _ < _; simp; omega) ⟨[], by simp [rowsO, tabG_append, tabG_one, hO]⟩ (by simp [WL, leG_self, leG_any, leG_int])
        all_goals
          have hi' : i = min y.length 25 := by simp at hi; omega
          rw [hi']
          exact ⟨4, .agg [.slice (tabG (tabM x)) .none, .slice (tabG (tabO x y)) .none], frz_agg2 (frz_tabS _ 0 _ _) (frz_tabS _ 0 _ _), by rw [leA_agg]; simp [WL, leG_self]⟩

end Gv.Tryz
/- The plain law of lines: right tables; what their segments are. -/
set_option linter.unusedVariables false
set_option maxRecDepth 20000
set_option linter.unusedSimpArgs false
namespace Gv.Tryz
open Go Gv Go.Proofs

theorem ups_mem (a : Int) (k : Nat) (x : Int) : x ∈ ups a k ↔ a ≤ x ∧ x < a + k := by
  simp only [ups, List.mem_map, List.mem_range]
  constructor
  · rintro ⟨i, h, rfl⟩; omega
  · rintro ⟨h1, h2⟩; exact ⟨(x - a).toNat, by omega, by omega⟩
theorem allI_mem (m o : Nat) (x : Int) : x ∈ allI m o ↔ (0 ≤ x ∧ x < m) ∨ (split ≤ x ∧ x < split + o) := by
  simp only [allI, List.mem_append, ups_mem]; simp
theorem allI_hasI (m o : Nat) (x : Int) : x ∈ allI m o ↔ hasI m o x = true := by rw [allI_mem, hasI, decide_eq_true_iff]

theorem getD_mem {l : List Int} {i : Nat} (h : i < l.length) : l.getD i 0 ∈ l := by simp [List.getD, h]
theorem atI_mem (n k : Int) {ids : List Int} (h : ids.length ≠ 0) : atI n k ids ∈ ids := by
  have h1 := Int.emod_nonneg (norm .i64 (n.tdiv k)) (b := (ids.length : Int)) (by omega)
  have h2 := Int.emod_lt_of_pos (norm .i64 (n.tdiv k)) (b := (ids.length : Int)) (by omega)
  exact getD_mem (by omega)
theorem lastI_mem {ids : List Int} (h : ids.length ≠ 0) : lastI ids ∈ ids := getD_mem (by omega)
theorem par_spec (n : Int) (ids : List Int) : (∀ p ∈ par n ids, p ∈ ids) ∧ (par n ids).Nodup ∧ (par n ids).length ≤ 2 := by
  unfold par
  by_cases h0 : ids.length = 0
  · simp [h0]
  have a12 := atI_mem n 12 h0
  have a144 := atI_mem n 144 h0
  have la := lastI_mem h0
  rw [if_neg h0]
  split
  · simp
  split
  · simp [a12]
  split
  · simp [a12]
  split
  · split <;> simp_all
  split
  · split <;> simp_all
  · simp [la]

theorem okRow_of {m o : Nat} {lim most : Int} : ∀ (q seen : List Int), (∀ p ∈ q, p < lim ∧ p ≤ most ∧ hasI m o p = true) → (seen ++ q).Nodup → okRow m o lim most seen q = true
  | [], _, _, _ => rfl
  | p :: r, seen, h, hn => by
    obtain ⟨h1, h2, h3⟩ := h p (by simp)
    have hs : p ∉ seen := by
      intro hp
      rw [List.nodup_append] at hn
      exact hn.2.2 p hp p (by simp) rfl
    rw [okRow, decide_eq_false (by omega), decide_eq_false (by omega), h3, decide_eq_false hs, okRow_of r (seen ++ [p]) (fun x hx => h x (by simp [hx])) (by simpa using hn)]
    rfl
theorem okG_of {m o : Nat} {most : Int} : ∀ (l : List (List Int)) (frm : Int), (∀ (k : Nat), k < l.length → (∀ p ∈ l.getD k [], p < frm + k ∧ p ≤ most ∧ hasI m o p = true) ∧ (l.getD k []).Nodup ∧ (l.getD k []).length ≤ 4) → okG m o most frm l = true
  | [], _, _ => rfl
  | q :: r, frm, h => by
    obtain ⟨h1, h2, h3⟩ := h 0 (by simp)
    simp only [List.getD_cons_zero, Int.natCast_zero, Int.add_zero] at h1 h2 h3
    rw [okG, okRow_of q [] h1 (by simpa using h2), decide_eq_true h3, okG_of r (frm + 1) fun k hk => ?_]
    · rfl
    · have := h (k + 1) (by simpa using hk)
      simp only [List.getD_cons_succ] at this
      refine ⟨fun p hp => ?_, this.2⟩
      have h4 := this.1 p hp
      exact ⟨by omega, h4.2⟩

theorem rowsM_at (x : List Int) : ∀ (n k : Nat), k < n → (rowsM x n).getD k [] = par (x.getD k 0) (allI k 0)
  | n + 1, k, h => by
    rw [rowsM]
    by_cases e : k < n
    · rw [← rowsM_at x n k e]
      simp only [List.getD_eq_getElem?_getD]
      rw [List.getElem?_append_left (by rw [rowsM_len]; exact e)]
    · have : k = n := by omega
      subst this
      simp [List.getD, List.getElem?_append_right, rowsM_len]
theorem rowsO_at (mm : Nat) (x : List Int) : ∀ (n k : Nat), k < n → (rowsO mm x n).getD k [] = par (x.getD k 0) (allI mm k)
  | n + 1, k, h => by
    rw [rowsO]
    by_cases e : k < n
    · rw [← rowsO_at mm x n k e]
      simp only [List.getD_eq_getElem?_getD]
      rw [List.getElem?_append_left (by rw [rowsO_len]; exact e)]
    · have : k = n := by omega
      subst this
      simp [List.getD, List.getElem?_append_right, rowsO_len]
theorem tabM_len (x : List Int) : (tabM x).length ≤ 25 := by rw [tabM, rowsM_len]; omega
theorem tabO_len (x y : List Int) : (tabO x y).length ≤ 25 := by rw [tabO, rowsO_len]; omega

theorem raw_right (x y : List Int) : rightI (tabM x) (tabO x y) = true := by
  have hm := tabM_len x
  have ho := tabO_len x y
  rw [rightI, Bool.and_eq_true]
  constructor
  · refine okG_of _ _ fun k hk => ?_
    have hk' : k < min x.length 25 := by rwa [tabM, rowsM_len] at hk
    have e : (tabM x).getD k [] = _ := rowsM_at x _ k hk'
    rw [e]
    obtain ⟨h1, h2, h3⟩ := par_spec (x.getD k 0) (allI k 0)
    refine ⟨fun p hp => ?_, h2, by omega⟩
    have := (allI_mem k 0 p).1 (h1 p hp)
    have hp2 : 0 ≤ p ∧ p < k := by omega
    refine ⟨by omega, by omega, ?_⟩
    rw [hasI, decide_eq_true_iff]
    exact .inl ⟨hp2.1, by omega⟩
  · refine okG_of _ _ fun k hk => ?_
    have hk' : k < min y.length 25 := by rwa [tabO, rowsO_len] at hk
    have e : (tabO x y).getD k [] = _ := rowsO_at _ y _ k hk'
    rw [e]
    obtain ⟨h1, h2, h3⟩ := par_spec (y.getD k 0) (allI (tabM x).length k)
    refine ⟨fun p hp => ?_, h2, by omega⟩
    have := (allI_mem _ k p).1 (h1 p hp)
    have hs : split = 1099511627776 := rfl
    refine ⟨by omega, by omega, ?_⟩
    rw [hasI, decide_eq_true_iff]
    omega

def chain (frm : Int) (l : List (List Int)) : Int → List Seg → Int → Prop
  | a, [], b => a = b
  | a, s :: r, b => s.lo = a ∧ s.lo ≤ s.hi ∧ (∀ d : Int, s.lo < d → d ≤ s.hi → l.getD (d - frm).toNat [] = [d - 1]) ∧ l.getD (s.lo - frm).toNat [] = s.par ∧ s.root = decide (s.par.length = 0) ∧
      (frm < s.lo → s.par ≠ [s.lo - 1]) ∧ chain frm l (s.hi + 1) r b
theorem chain_append (frm : Int) (l : List (List Int)) : ∀ (x y : List Seg) (a b : Int), chain frm l a (x ++ y) b ↔ ∃ c, chain frm l a x c ∧ chain frm l c y b
  | [], y, a, b => by simp [chain]
  | s :: x, y, a, b => by
    simp only [List.cons_append, chain, chain_append frm l x y]
    constructor
    · rintro ⟨h1, h2, h3, h4, h5, h6, c, h7, h8⟩; exact ⟨c, ⟨h1, h2, h3, h4, h5, h6, h7⟩, h8⟩
    · rintro ⟨c, ⟨h1, h2, h3, h4, h5, h6, h7⟩, h8⟩; exact ⟨h1, h2, h3, h4, h5, h6, c, h7, h8⟩
theorem set_last {α : Type} (l : List α) (h : l ≠ []) (d x : α) : l = l.dropLast ++ [l.getD (l.length - 1) d] ∧ l.set (l.length - 1) x = l.dropLast ++ [x] := by
  have h1 := List.dropLast_concat_getLast h
  have h2 : 0 < l.length := List.length_pos_iff.2 h
  have e : l.getD (l.length - 1) d = l.getLast h := by
    rw [List.getLast_eq_getElem]; simp [List.getD, List.getElem?_eq_getElem (by omega : l.length - 1 < l.length)]
  refine ⟨by rw [e, h1], ?_⟩
  conv => lhs; rw [← h1]
  rw [List.set_append_right _ _ (by simp)]
  simp
theorem one_eq {q : List Int} {n : Int} : q.length = 1 ∧ q.getD 0 0 = n ↔ q = [n] := by
  constructor
  · rintro ⟨h1, h2⟩
    match q, h1 with
    | [a], _ => simp at h2; rw [h2]
  · rintro rfl; simp
theorem lrun_chain (frm : Int) (l : List (List Int)) : ∀ k, chain frm l frm (lrun frm l k).out (frm + k)
  | 0 => by simp [lrun, chain]
  | k + 1 => by
    have ih := lrun_chain frm l k
    have hne := (lrun_len frm l k).2
    rw [lrun, lstep]
    simp only
    generalize (lrun frm l k).out = out at *
    generalize (lrun frm l k).hs = hs at *
    have ek : (frm + (k : Int) - frm).toNat = k := by omega
    split
    · rename_i h
      obtain ⟨h0, h1⟩ := h
      rw [one_eq] at h1
      obtain ⟨e1, e2⟩ := set_last out (hne (by omega)) default { out.getD (out.length - 1) default with hi := frm + k, head := decide ((hins (hdel hs (l.getD k [])) (frm + k)).length = 1) }
      rw [e2, chain_append]
      rw [e1, chain_append] at ih
      obtain ⟨c, q1, q2⟩ := ih
      refine ⟨c, q1, ?_⟩
      generalize out.getD (out.length - 1) default = s at *
      simp only [chain] at q2 ⊢
      obtain ⟨p1, p2, p3, p4, p5, p6, p7⟩ := q2
      refine ⟨p1, by omega, fun d d1 d2 => ?_, p4, p5, p6, by omega⟩
      by_cases e : d = frm + k
      · rw [e, ek, h1]
      · exact p3 d d1 (by omega)
    · rename_i h
      rw [chain_append]
      refine ⟨_, ih, ?_⟩
      simp only [chain]
      refine ⟨trivial, by omega, fun d d1 d2 => by omega, by rw [ek], trivial, fun hlt he => h ⟨by omega, one_eq.2 he⟩, by omega⟩

theorem ups_getD (a : Int) (k i : Nat) (h : i < k) : (ups a k).getD i 0 = a + i := by simp [ups, List.getD, h]
theorem allI_getD1 (m o i : Nat) (h : i < m) : (allI m o).getD i 0 = i := by
  rw [List.getD_eq_getElem?_getD, allI, List.getElem?_append_left (by rw [ups_length]; exact h), ← List.getD_eq_getElem?_getD, ups_getD _ _ _ h]; omega
theorem allI_getD2 (m o i : Nat) (h : m ≤ i) (h2 : i < m + o) : (allI m o).getD i 0 = split + ((i - m : Nat) : Int) := by
  rw [List.getD_eq_getElem?_getD, allI, List.getElem?_append_right (by rw [ups_length]; exact h), ups_length, ← List.getD_eq_getElem?_getD, ups_getD _ _ _ (by omega)]

def okS (m o : List (List Int)) : Nat → List Seg → Prop
  | n, [] => n = m.length + o.length
  | n, s :: r => (0 ≤ s.lo ∧ s.lo ≤ s.hi ∧ s.hi ≤ split + 1000) ∧
      (∀ d : Nat, s.lo + d ≤ s.hi → n + d < m.length + o.length ∧ (allI m.length o.length).getD (n + d) 0 = s.lo + d ∧ (d ≠ 0 → parI m o (s.lo + d) = [s.lo + d - 1])) ∧
      parI m o s.lo = s.par ∧ s.root = decide (s.par.length = 0) ∧ (s.par = [s.lo - 1] → s.lo = split) ∧ okS m o (n + (s.hi - s.lo + 1).toNat) r
theorem parI_m (m o : List (List Int)) (id : Int) (h : 0 ≤ id) (h2 : id < m.length) : parI m o id = m.getD (id - 0).toNat [] := by
  rw [parI, if_pos ⟨h, h2⟩, Int.sub_zero]
theorem parI_o (m o : List (List Int)) (id : Int) (hm : m.length ≤ 1000) (h : split ≤ id) (h2 : id < split + o.length) : parI m o id = o.getD (id - split).toNat [] := by
  rw [parI, if_neg, if_pos ⟨h, h2⟩]
  have : split = 1099511627776 := rfl
  omega
theorem chain_le (frm : Int) (l : List (List Int)) : ∀ (x : List Seg) (a b : Int), chain frm l a x b → a ≤ b
  | [], a, b, h => by simp [chain] at h; omega
  | s :: r, a, b, h => by
    simp only [chain] at h
    obtain ⟨h1, h2, _, _, _, _, h7⟩ := h
    have := chain_le frm l r _ _ h7
    omega
theorem okS_m (m o : List (List Int)) (hm : m.length ≤ 1000) (h0 : m.getD 0 [] ≠ [-1]) : ∀ (x y : List Seg) (a b : Int), 0 ≤ a → b ≤ m.length → chain 0 m a x b → okS m o b.toNat y → okS m o a.toNat (x ++ y)
  | [], y, a, b, ha, hb, hc, hy => by
    simp only [chain] at hc; subst hc; exact hy
  | s :: r, y, a, b, ha, hb, hc, hy => by
    simp only [chain] at hc
    obtain ⟨h1, h2, h3, h4, h5, h6, h7⟩ := hc
    have hle := chain_le _ _ _ _ _ h7
    have hs : split = 1099511627776 := rfl
    refine ⟨⟨by omega, h2, by omega⟩, fun d hd => ⟨by omega, ?_, fun hd0 => ?_⟩, ?_, h5, fun he => ?_, ?_⟩
    · rw [allI_getD1 _ _ _ (by omega)]; omega
    · rw [parI_m _ _ _ (by omega) (by omega)]; exact h3 _ (by omega) hd
    · rw [parI_m _ _ _ (by omega) (by omega)]; exact h4
    · by_cases e : 0 < s.lo
      · exact absurd he (h6 e)
      · have : s.lo = 0 := by omega
        rw [← h4, this] at he
        exact absurd he h0
    · have := okS_m m o hm h0 r y (s.hi + 1) b (by omega) hb h7 hy
      have e : a.toNat + (s.hi - s.lo + 1).toNat = (s.hi + 1).toNat := by omega
      rw [e]; exact this
theorem okS_o (m o : List (List Int)) (hm : m.length ≤ 1000) (ho : o.length ≤ 1000) : ∀ (x : List Seg) (a : Int), split ≤ a → chain split o a x (split + o.length) → okS m o (m.length + (a - split).toNat) x
  | [], a, ha, hc => by
    simp only [chain] at hc; subst hc; simp only [okS]; omega
  | s :: r, a, ha, hc => by
    simp only [chain] at hc
    obtain ⟨h1, h2, h3, h4, h5, h6, h7⟩ := hc
    have hle := chain_le _ _ _ _ _ h7
    have hs : split = 1099511627776 := rfl
    refine ⟨⟨by omega, h2, by omega⟩, fun d hd => ⟨by omega, ?_, fun hd0 => ?_⟩, ?_, h5, fun he => ?_, ?_⟩
    · rw [allI_getD2 _ _ _ (by omega) (by omega)]; omega
    · rw [parI_o _ _ _ hm (by omega) (by omega)]; exact h3 _ (by omega) hd
    · rw [parI_o _ _ _ hm (by omega) (by omega)]; exact h4
    · by_cases e : split < s.lo
      · exact absurd he (h6 e)
      · omega
    · have := okS_o m o hm ho r (s.hi + 1) (by omega) h7
      have e : m.length + (a - split).toNat + (s.hi - s.lo + 1).toNat = m.length + (s.hi + 1 - split).toNat := by omega
      rw [e]; exact this

theorem okRow_at {m o : Nat} {lim most : Int} : ∀ {q seen : List Int}, okRow m o lim most seen q = true → ∀ p ∈ q, p < lim ∧ p ≤ most ∧ hasI m o p = true
  | [], _, _, p, hp => by simp at hp
  | a :: r, seen, h, p, hp => by
    simp only [okRow, Bool.and_eq_true, Bool.not_eq_true', Bool.or_eq_false_iff, decide_eq_false_iff_not, Bool.not_eq_false'] at h
    rcases List.mem_cons.1 hp with rfl | hp
    · exact ⟨by omega, by omega, h.1.1.2⟩
    · exact okRow_at h.2 p hp
theorem build_okS (m o : List (List Int)) (hm : m.length ≤ 1000) (ho : o.length ≤ 1000) (hr : rightI m o = true) : okS m o 0 (buildI m o) := by
  have hr' := hr
  rw [rightI, Bool.and_eq_true] at hr'
  rw [buildI, if_pos hr]
  have c1 := lrun_chain 0 m m.length
  have c2 := lrun_chain split o o.length
  have h0 : m.getD 0 [] ≠ [-1] := by
    cases m with
    | nil => simp
    | cons q r =>
      intro e
      simp at e
      have := hr'.1
      simp only [okG, Bool.and_eq_true] at this
      have := okRow_at this.1.1 (-1) (by rw [e]; simp)
      rw [hasI, decide_eq_true_iff] at this
      have hs : split = 1099511627776 := rfl
      omega
  have k2 := okS_o m o hm ho _ split (Int.le_refl _) c2
  rw [Int.zero_add] at c1
  have e : m.length + (split - split).toNat = ((m.length : Int)).toNat := by omega
  rw [e] at k2
  exact okS_m m o hm h0 _ _ 0 m.length (by omega) (by omega) c1 k2

end Gv.Tryz
/- The law FlatLines gives true. -/
set_option linter.unusedVariables false
set_option linter.unusedSimpArgs false
set_option maxRecDepth 20000
namespace Gv.Tryz
open Go Gv Go.Proofs

theorem okRow_len {m o : List (List Int)} (h : rightI m o = true) (id : Int) : (parI m o id).length ≤ 4 := by
  rw [rightI, Bool.and_eq_true] at h
  have get : ∀ (l : List (List Int)) (most frm : Int) (a b : Nat), okG a b most frm l = true → ∀ k, (l.getD k []).length ≤ 4 := by
    intro l most frm a b h k
    by_cases e : k < l.length
    · refine okG_row h _ ?_
      simp [List.getD, e]
    · simp [List.getD, List.getElem?_eq_none (Nat.le_of_not_lt e)]
  unfold parI
  split
  · exact get _ _ _ _ _ h.1 _
  · split
    · exact get _ _ _ _ _ h.2 _
    · simp

end Gv.Tryz

/- Contracts: heads of a list of segments. -/
set_option linter.unusedVariables false
set_option linter.unusedSimpArgs false
set_option maxRecDepth 20000
set_option maxHeartbeats 4000000
namespace Gv.Tryz
open Go Gv Go.Proofs

theorem c46 (x s : Seg) (st : Nat) (h : x.par.length ≤ 17592186044416) : GCalls Tryz.prog 109 [.agg (segG x), .ptr 0 st 0 0] [.row st 5 [segG s]] (fun g O' => g = .bool (decide (s.hi ∈ x.par)) ∧ O' = [.row st 5 [segG s]]) := by
  refine h109.calls mixS (by simp) ?_
  simp only [gstart, s109, List.cons_append, List.nil_append, List.length_cons, List.length_nil, Nat.reduceAdd, Nat.reduceSub, List.replicate_succ, List.replicate_zero]
  simp +contextual -implicitDefEqProofs (maxSteps := 2000000) (disch := omega) only [↓loadV, ↓fieldAddrV, ↓boxV, GVal.cells, grp, GVal.ofConst, ↓resV, resG, List.map, List.headD, List.take, List.drop, ↓reduceIte, Nat.reduceEqDiff, Nat.reduceAdd, Nat.reduceSub, Nat.reduceLeDiff, reduceCtorEq, implies_true, ne_eq, Tag.cap, List.replicate, allSolid, GVal.solid, Nat.reduceBEq, Nat.reduceMul, Nat.reduceLT, List.length_map, List.length_range, splice, vcA, ↓vcB, vcC, fbFz, e109, segG]
  refine (spec47 x.par .none s.hi h).then ?_
  simp +contextual -implicitDefEqProofs (maxSteps := 2000000) (disch := omega) only [↓loadV, ↓fieldAddrV, ↓boxV, GVal.cells, grp, GVal.ofConst, ↓resV, resG, List.map, List.headD, List.take, List.drop, ↓reduceIte, Nat.reduceEqDiff, Nat.reduceAdd, Nat.reduceSub, Nat.reduceLeDiff, reduceCtorEq, implies_true, ne_eq, Tag.cap, List.replicate, allSolid, GVal.solid, Nat.reduceBEq, Nat.reduceMul, Nat.reduceLT, List.length_map, List.length_range, splice, vcA, ↓vcB, vcC, fbFz, e109]

def fidx (h : Int) : List Seg → Int → Int
  | [], _ => -1
  | x :: r, k => if h ∈ x.par then k else fidx h r (k + 1)
theorem fidx_drop (h : Int) (l : List Seg) (k : Nat) (hk : k < l.length) : fidx h (l.drop k) k = if h ∈ (l.getD k default).par then (k : Int) else fidx h (l.drop (k + 1)) ((k : Int) + 1) := by
  rw [List.drop_eq_getElem_cons hk, fidx]; simp [List.getD, hk]
def anyP (h : Int) (l : List Seg) : Bool := l.any fun x => decide (h ∈ x.par)
theorem fidx_any (h : Int) : ∀ (l : List Seg) (k : Int), 0 ≤ k → (0 ≤ fidx h l k ↔ anyP h l = true)
  | [], k, hk => by simp [fidx, anyP]
  | x :: r, k, hk => by
    unfold fidx
    split
    · rename_i e; simp [anyP, e, hk]
    · rename_i e; rw [fidx_any h r (k + 1) (by omega)]; simp [anyP, e]

theorem c60 (l : List Seg) (t : Tag) (s : Seg) (st : Nat) (hl : l.length ≤ 17592186044416) (hp : ∀ i, (l.getD i default).par.length ≤ 17592186044416) :
    GCalls Tryz.prog 115 [.slice (segsG l) t, .func (.func 109) [] [.ptr 0 st 0 0]] [.row st 5 [segG s]] (fun g O' => g = .int .i64 (fidx s.hi l 0) ∧ O' = [.row st 5 [segG s]]) := by
  refine h115.calls mixS (by simp) ?_
  simp only [gstart, s115, List.cons_append, List.nil_append, List.length_cons, List.length_nil, Nat.reduceAdd, Nat.reduceSub, List.replicate_succ, List.replicate_zero]
  simp +contextual -implicitDefEqProofs (maxSteps := 2000000) (disch := omega) only [↓lenV, binV, ↓loadV, ↓indexAddrV, GVal.cells, grp, GVal.ofConst, ↓resV, resG, List.map, List.headD, List.take, List.drop, ↓reduceIte, Nat.reduceEqDiff, Nat.reduceAdd, Nat.reduceSub, Nat.reduceLeDiff, reduceCtorEq, implies_true, ne_eq, Tag.cap, List.replicate, allSolid, GVal.solid, Nat.reduceBEq, Nat.reduceMul, Nat.reduceLT, List.length_map, List.length_range, splice, vcA, ↓vcB, vcC, fbFz, e115, segsG_length]
  refine vcSLoop_by (ι := { k : Nat // k ≤ l.length ∧ fidx s.hi l 0 = fidx s.hi (l.drop k) k }) (fun k => ⟨[.slice (segsG l) t, .func (.func 109) [] [.ptr 0 st 0 0], .any, .any, .any, .any, .any, .int .i64 l.length, .int .i64 (k.1 : Nat)] ++ List.replicate 10 .any, [.row st 5 [segG s]]⟩) (fun k => l.length - k.1) ?_ ?_
  · exact Into.first ⟨0, by omega, by simp⟩ ⟨[], by simp⟩ (by simp [WL, leG_self, leG_any])
  · rintro ⟨k, hk, hx⟩
    simp +contextual -implicitDefEqProofs (maxSteps := 2000000) (disch := omega) only [↓lenV, binV, ↓loadV, ↓indexAddrV, GVal.cells, grp, GVal.ofConst, ↓resV, resG, List.map, List.headD, List.take, List.drop, ↓reduceIte, Nat.reduceEqDiff, Nat.reduceAdd, Nat.reduceSub, Nat.reduceLeDiff, reduceCtorEq, implies_true, ne_eq, Tag.cap, List.replicate, allSolid, GVal.solid, Nat.reduceBEq, Nat.reduceMul, Nat.reduceLT, List.length_map, List.length_range, splice, vcA, ↓vcB, vcC, fbFz, e115, segsG_length, segsG_at, segG]
    refine ⟨fun h => ⟨by omega, ?_⟩, fun h => ?_⟩
    · rw [fidx_drop _ _ _ (by omega)] at hx
      by_cases h2 : s.hi ∈ (l.getD k default).par
      · rw [if_pos h2] at hx
        refine (c46 (l.getD k default) s st (hp k)).mono ?_
        rintro g O' ⟨rfl, rfl⟩
        rw [decide_eq_true h2]
        simp +contextual -implicitDefEqProofs (maxSteps := 2000000) (disch := omega) only [↓lenV, binV, ↓loadV, ↓indexAddrV, GVal.cells, grp, GVal.ofConst, ↓resV, resG, List.map, List.headD, List.take, List.drop, ↓reduceIte, Nat.reduceEqDiff, Nat.reduceAdd, Nat.reduceSub, Nat.reduceLeDiff, reduceCtorEq, implies_true, ne_eq, Tag.cap, List.replicate, allSolid, GVal.solid, Nat.reduceBEq, Nat.reduceMul, Nat.reduceLT, List.length_map, List.length_range, splice, vcA, ↓vcB, vcC, fbFz, e115, segG]
        simp [hx]
      · rw [if_neg h2] at hx
        refine (c46 (l.getD k default) s st (hp k)).mono ?_
        rintro g O' ⟨rfl, rfl⟩
        rw [decide_eq_false h2]
        simp +contextual -implicitDefEqProofs (maxSteps := 2000000) (disch := omega) only [↓lenV, binV, ↓loadV, ↓indexAddrV, GVal.cells, grp, GVal.ofConst, ↓resV, resG, List.map, List.headD, List.take, List.drop, ↓reduceIte, Nat.reduceEqDiff, Nat.reduceAdd, Nat.reduceSub, Nat.reduceLeDiff, reduceCtorEq, implies_true, ne_eq, Tag.cap, List.replicate, allSolid, GVal.solid, Nat.reduceBEq, Nat.reduceMul, Nat.reduceLT, List.length_map, List.length_range, splice, vcA, ↓vcB, vcC, fbFz, e115, segG]
        exact Into.at ⟨k + 1, by omega, by rw [hx]; rfl⟩ (by show _ < _; simp; omega) ⟨[], by simp [segG]⟩ (by simp [WL, leG_self, leG_any, leG_int])
    · rw [List.drop_eq_nil_of_le (by omega)] at hx
      simp [hx, fidx]

theorem c45 (l : List Seg) (t : Tag) (s : Seg) (st : Nat) (hl : l.length ≤ 17592186044416) (hp : ∀ i, (l.getD i default).par.length ≤ 17592186044416) :
    GCalls Tryz.prog 108 [.slice (segsG l) t, .func (.func 109) [] [.ptr 0 st 0 0]] [.row st 5 [segG s]] (fun g O' => g = .bool (anyP s.hi l) ∧ O' = [.row st 5 [segG s]]) := by
  refine h108.calls mixS (by simp) ?_
  simp only [gstart, s108, List.cons_append, List.nil_append, List.length_cons, List.length_nil, Nat.reduceAdd, Nat.reduceSub, List.replicate_succ, List.replicate_zero]
  simp +contextual -implicitDefEqProofs (maxSteps := 2000000) (disch := omega) only [binV, GVal.cells, grp, GVal.ofConst, ↓resV, resG, List.map, List.headD, List.take, List.drop, ↓reduceIte, Nat.reduceEqDiff, Nat.reduceAdd, Nat.reduceSub, Nat.reduceLeDiff, reduceCtorEq, implies_true, ne_eq, Tag.cap, List.replicate, allSolid, GVal.solid, Nat.reduceBEq, Nat.reduceMul, Nat.reduceLT, List.length_map, List.length_range, splice, vcA, ↓vcB, vcC, fbFz, e108]
  refine (c60 l t s st hl hp).mono ?_
  rintro g O' ⟨rfl, rfl⟩
  simp +contextual -implicitDefEqProofs (maxSteps := 2000000) (disch := omega) only [binV, GVal.cells, grp, GVal.ofConst, ↓resV, resG, List.map, List.headD, List.take, List.drop, ↓reduceIte, Nat.reduceEqDiff, Nat.reduceAdd, Nat.reduceSub, Nat.reduceLeDiff, reduceCtorEq, implies_true, ne_eq, Tag.cap, List.replicate, allSolid, GVal.solid, Nat.reduceBEq, Nat.reduceMul, Nat.reduceLT, List.length_map, List.length_range, splice, vcA, ↓vcB, vcC, fbFz, e108]
  congr 1
  rw [Bool.eq_iff_iff, decide_eq_true_iff, fidx_any _ _ _ (by omega)]

def headsN : List Seg → Nat
  | [] => 0
  | s :: r => (if anyP s.hi r = true then 0 else 1) + headsN r
theorem headsN_drop (l : List Seg) (k : Nat) (hk : k < l.length) : headsN (l.drop k) = (if anyP (l.getD k default).hi (l.drop (k + 1)) = true then 0 else 1) + headsN (l.drop (k + 1)) := by
  rw [List.drop_eq_getElem_cons hk, headsN]; simp [List.getD, hk]
theorem segsG_drop (l : List Seg) (i : Nat) : (segsG l).drop i = segsG (l.drop i) := by simp [segsG]
theorem segsG_take (l : List Seg) (i : Nat) : (segsG l).take i = segsG (l.take i) := by simp [segsG]
theorem getD_drop' (l : List Seg) (i k : Nat) : (l.drop k).getD i default = l.getD (k + i) default := by simp [List.getD]

theorem spec23 (l : List Seg) (hl : l.length ≤ 17592186044416) (hp : ∀ i, (l.getD i default).par.length ≤ 17592186044416) : GPure Tryz.prog 96 [.slice (segsG l) .none] (.int .i64 (headsN l)) := by
  refine h96.pure mixS (by simp) ?_
  simp only [gstart, s96, List.cons_append, List.nil_append, List.length_cons, List.length_nil, Nat.reduceAdd, Nat.reduceSub, List.replicate_succ, List.replicate_zero]
  simp +contextual -implicitDefEqProofs (maxSteps := 2000000) (disch := omega) only [↓lenV, binV, ↓unV, optV, ↓loadV, ↓storeV, ↓indexAddrV, ↓allocV, ↓sliceV, bound, cutTag, hiTag, GVal.cells, grp, GVal.ofConst, ↓resV, resG, List.map, List.headD, List.take, List.drop, ↓reduceIte, Nat.reduceEqDiff, Nat.reduceAdd, Nat.reduceSub, Nat.reduceLeDiff, reduceCtorEq, implies_true, ne_eq, Tag.cap, List.replicate, allSolid, GVal.solid, Nat.reduceBEq, Nat.reduceMul, Nat.reduceLT, List.length_map, List.length_range, splice, vcA, ↓vcB, vcC, fbFz, e96, segsG_length]
  refine vcSLoop_by (ι := { p : Nat × Nat // p.1 ≤ l.length ∧ p.2 ≤ p.1 ∧ headsN l = p.2 + headsN (l.drop p.1) }) (fun p => ⟨[.slice (segsG l) .none, .any, .any, .int .i64 (p.1.2 : Nat), .any, .any, .slice (segsG l) .none, .int .i64 l.length, .int .i64 (p.1.1 : Nat)] ++ List.replicate 15 .any, []⟩) (fun p => l.length - p.1.1) ?_ ?_
  · exact Into.first ⟨(0, 0), by omega, by omega, by simp⟩ ⟨[], by simp⟩ (by simp [WL, leG_self, leG_any])
  · rintro ⟨⟨k, n⟩, hk, hn, hx⟩
    change n ≤ k at hn
    change headsN l = n + headsN (l.drop k) at hx
    have hT : ((k : Int) + 1).toNat = k + 1 := by omega
    have hF : (segsG l).take l.length = segsG l := List.take_of_length_le (by rw [segsG_length]; omega)
    simp +contextual -implicitDefEqProofs (maxSteps := 2000000) (disch := omega) only [↓lenV, binV, ↓unV, optV, ↓loadV, ↓storeV, ↓indexAddrV, ↓allocV, ↓sliceV, bound, cutTag, hiTag, GVal.cells, grp, GVal.ofConst, ↓resV, resG, List.map, List.headD, List.take, List.drop, ↓reduceIte, Nat.reduceEqDiff, Nat.reduceAdd, Nat.reduceSub, Nat.reduceLeDiff, reduceCtorEq, implies_true, ne_eq, Tag.cap, List.replicate, allSolid, GVal.solid, Nat.reduceBEq, Nat.reduceMul, Nat.reduceLT, List.length_map, List.length_range, splice, vcA, ↓vcB, vcC, fbFz, e96, segsG_length, segsG_at, segG, segsG_drop, hT, hF, all_segsG]
    refine ⟨fun h => ⟨by omega, fun st => ⟨by omega, by omega, by omega, ?_⟩⟩, fun h => ?_⟩
    · have hkl : k < l.length := by omega
      rw [headsN_drop l k hkl] at hx
      refine (c45 (l.drop (k + 1)) .none (l.getD k default) st (by rw [List.length_drop]; omega) (fun i => by rw [getD_drop']; exact hp _)).mono ?_
      rintro g O' ⟨rfl, rfl⟩
      cases hh : anyP (l.getD k default).hi (l.drop (k + 1))
      · rw [if_neg (by rw [hh]; simp)] at hx
        simp +contextual -implicitDefEqProofs (maxSteps := 2000000) (disch := omega) only [↓lenV, binV, ↓unV, optV, ↓loadV, ↓storeV, ↓indexAddrV, ↓allocV, ↓sliceV, bound, cutTag, hiTag, GVal.cells, grp, GVal.ofConst, ↓resV, resG, List.map, List.headD, List.take, List.drop, ↓reduceIte, Nat.reduceEqDiff, Nat.reduceAdd, Nat.reduceSub, Nat.reduceLeDiff, reduceCtorEq, implies_true, ne_eq, Tag.cap, List.replicate, allSolid, GVal.solid, Nat.reduceBEq, Nat.reduceMul, Nat.reduceLT, List.length_map, List.length_range, splice, vcA, ↓vcB, vcC, fbFz, e96, segG]
        exact Into.at ⟨(k + 1, n + 1), by show k + 1 ≤ _; omega, by show n + 1 ≤ k + 1; omega, by show _ = n + 1 + headsN (l.drop (k + 1)); omega⟩ (by show _ < _; simp; omega) ⟨_, rfl⟩ (by simp [WL, leG_self, leG_any, leG_int])
      · rw [if_pos hh] at hx
        simp +contextual -implicitDefEqProofs (maxSteps := 2000000) (disch := omega) only [↓lenV, binV, ↓unV, optV, ↓loadV, ↓storeV, ↓indexAddrV, ↓allocV, ↓sliceV, bound, cutTag, hiTag, GVal.cells, grp, GVal.ofConst, ↓resV, resG, List.map, List.headD, List.take, List.drop, ↓reduceIte, Nat.reduceEqDiff, Nat.reduceAdd, Nat.reduceSub, Nat.reduceLeDiff, reduceCtorEq, implies_true, ne_eq, Tag.cap, List.replicate, allSolid, GVal.solid, Nat.reduceBEq, Nat.reduceMul, Nat.reduceLT, List.length_map, List.length_range, splice, vcA, ↓vcB, vcC, fbFz, e96, segG]
        exact Into.at ⟨(k + 1, n), by show k + 1 ≤ _; omega, by show n ≤ k + 1; omega, by show _ = n + headsN (l.drop (k + 1)); omega⟩ (by show _ < _; simp; omega) ⟨_, rfl⟩ (by simp [WL, leG_self, leG_any, leG_int])
    · rw [List.drop_eq_nil_of_le (by omega)] at hx
      simp [headsN] at hx
      rw [hx]

end Gv.Tryz
