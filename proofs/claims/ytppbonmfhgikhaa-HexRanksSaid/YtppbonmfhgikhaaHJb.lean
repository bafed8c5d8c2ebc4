/- HexRanks: the walk. -/
import Derived.Test.YtppbonmfhgikhaaP10
set_option linter.unusedVariables false
set_option linter.unusedSimpArgs false
set_option maxRecDepth 20000
set_option maxHeartbeats 4000000
namespace Gv.Try
open Go Gv Go.Proofs
theorem hCompactNil' : GPure Try.prog 25 [.slice [] .nil] (.slice [] .nil) := by
  refine h25.pure mixS (by simp) ?_
  simp only [gstart, s25, List.cons_append, List.nil_append, List.length_cons, List.length_nil, Nat.reduceAdd, Nat.reduceSub, List.replicate_succ, List.replicate_zero]
  simp +contextual -implicitDefEqProofs (maxSteps := 2000000) (disch := omega) only [drawC, ↓op_clear, ↓lenV, binV, optV, ↓loadV, ↓storeV, ↓indexAddrV, ↓sliceV, bound, cutTag, hiTag, GVal.cells, grp, GVal.ofConst, ↓resV, resG, List.map, List.headD, List.take, List.drop, ↓reduceIte, Nat.reduceEqDiff, Nat.reduceAdd, Nat.reduceSub, Nat.reduceLeDiff, reduceCtorEq, implies_true, ne_eq, ↓clearV, aggV, Tag.cap, List.replicate, allSolid, GVal.solid, Nat.reduceBEq, Nat.reduceMul, Nat.reduceLT, List.length_map, List.length_range, splice, vcA, ↓vcB, vcC, aggT23, arr23, arr53, els35, els36, els43, elt35, elt36, elt43, fld45_0, fld45_1, notInt23, notInt3, notInt35, notInt36, notInt42, notInt43, notInt45, notInt47, notInt5, notInt55, notInt57, notInt60, notInt9, plc53, tab23, tab3, tab42, tab43, tab5, und23, und3, und35, und36, und4, und42, und43, und47, und49, und5, und53, und55, und57, und60, und9, zer23, zer45, zer53, e25]
  refine ⟨fun _ => ?_, fun h => absurd h (by omega)⟩
  unfold leA
  simp [leG_self]
theorem hCloneT (t : Tag) : GCalls Try.prog 22 [.slice [] t] [] (fun g O' => t = .nil → g = .slice [] .nil ∧ O' = []) := by
  refine h22.calls mixS (by simp) ?_
  simp only [gstart, s22, List.cons_append, List.nil_append, List.length_cons, List.length_nil, Nat.reduceAdd, Nat.reduceSub, List.replicate_succ, List.replicate_zero]
  simp +contextual -implicitDefEqProofs (maxSteps := 2000000) (disch := omega) only [binV, optV, ↓buildSliceV, ↓sliceV, ↓appendV, ↓srcV, bound, cutTag, hiTag, fillE, GVal.cells, grp, GVal.ofConst, ↓resV, resG, List.map, List.headD, List.take, List.drop, ↓reduceIte, Nat.reduceEqDiff, Nat.reduceAdd, Nat.reduceSub, Nat.reduceLeDiff, reduceCtorEq, implies_true, ne_eq, ↓asrcV, aggV, Tag.cap, List.replicate, allSolid, GVal.solid, Nat.reduceBEq, Nat.reduceMul, Nat.reduceLT, List.length_map, List.length_range, splice, vcA, ↓vcB, vcC, els36, elt36, notInt3, notInt36, notInt5, tab3, tab5, und3, und36, und4, und5, e22]
  exact fun _ => ⟨.inr trivial, fun h => (h trivial).elim⟩
theorem hClone0 : GPure Try.prog 22 [.slice [] .nil] (.slice [] .nil) := (hCloneT .nil).mono fun g O' h => h rfl
theorem hSort0 : GPure Try.prog 15 [.slice [] .nil] (.slice [] .nil) := by
  refine GCalls.toPure ?_
  refine h15.calls mixS (by simp) ?_
  simp only [gstart, s15, List.cons_append, List.nil_append, List.length_cons, List.length_nil, Nat.reduceAdd, Nat.reduceSub, List.replicate_succ, List.replicate_zero]
  simp +contextual -implicitDefEqProofs (maxSteps := 2000000) (disch := omega) only [optV, ↓sliceV, bound, cutTag, hiTag, GVal.cells, grp, GVal.ofConst, ↓resV, resG, List.map, List.headD, List.take, List.drop, ↓reduceIte, Nat.reduceEqDiff, Nat.reduceAdd, Nat.reduceSub, Nat.reduceLeDiff, reduceCtorEq, implies_true, ne_eq, Tag.cap, List.replicate, allSolid, GVal.solid, Nat.reduceBEq, Nat.reduceMul, Nat.reduceLT, List.length_map, List.length_range, splice, vcA, ↓vcB, vcC, aggT23, arr23, els36, elt36, notInt23, notInt3, notInt36, notInt5, notInt55, notInt9, tab23, tab3, tab5, und23, und3, und36, und4, und5, und55, und9, zer23, e15]
  refine hClone0.then ?_ (by rfl)
  simp +contextual -implicitDefEqProofs (maxSteps := 2000000) (disch := omega) only [optV, ↓sliceV, bound, cutTag, hiTag, GVal.cells, grp, GVal.ofConst, ↓resV, resG, List.map, List.headD, List.take, List.drop, ↓reduceIte, Nat.reduceEqDiff, Nat.reduceAdd, Nat.reduceSub, Nat.reduceLeDiff, reduceCtorEq, implies_true, ne_eq, Tag.cap, List.replicate, allSolid, GVal.solid, Nat.reduceBEq, Nat.reduceMul, Nat.reduceLT, List.length_map, List.length_range, splice, vcA, ↓vcB, vcC, aggT23, arr23, els36, elt36, notInt23, notInt3, notInt36, notInt5, notInt55, notInt9, tab23, tab3, tab5, und23, und3, und36, und4, und5, und55, und9, zer23, e15]
  refine GCalls.nilArg (sz := 32) fun st => hSortNil.mono ?_
  rintro g O' ⟨rfl, rfl⟩
  simp +contextual -implicitDefEqProofs (maxSteps := 2000000) (disch := omega) only [optV, ↓sliceV, bound, cutTag, hiTag, GVal.cells, grp, GVal.ofConst, ↓resV, resG, List.map, List.headD, List.take, List.drop, ↓reduceIte, Nat.reduceEqDiff, Nat.reduceAdd, Nat.reduceSub, Nat.reduceLeDiff, reduceCtorEq, implies_true, ne_eq, Tag.cap, List.replicate, allSolid, GVal.solid, Nat.reduceBEq, Nat.reduceMul, Nat.reduceLT, List.length_map, List.length_range, splice, vcA, ↓vcB, vcC, aggT23, arr23, els36, elt36, notInt23, notInt3, notInt36, notInt5, notInt55, notInt9, tab23, tab3, tab5, und23, und3, und36, und4, und5, und55, und9, zer23, e15]
  refine hCompactNil'.then ?_ (by rfl)
  simp +contextual -implicitDefEqProofs (maxSteps := 2000000) (disch := omega) only [optV, ↓sliceV, bound, cutTag, hiTag, GVal.cells, grp, GVal.ofConst, ↓resV, resG, List.map, List.headD, List.take, List.drop, ↓reduceIte, Nat.reduceEqDiff, Nat.reduceAdd, Nat.reduceSub, Nat.reduceLeDiff, reduceCtorEq, implies_true, ne_eq, Tag.cap, List.replicate, allSolid, GVal.solid, Nat.reduceBEq, Nat.reduceMul, Nat.reduceLT, List.length_map, List.length_range, splice, vcA, ↓vcB, vcC, aggT23, arr23, els36, elt36, notInt23, notInt3, notInt36, notInt5, notInt55, notInt9, tab23, tab3, tab5, und23, und3, und36, und4, und5, und55, und9, zer23, e15]
  exact ⟨4, .slice [] .nil, rfl, by unfold leA; simp [leG_self]⟩
theorem cSortNe (l : List Hs) (hl : l.length ≤ 4398046511104) (hne : l ≠ []) : GCalls Try.prog 15 [.slice (hsG l) .none] [] (fun g O' => ∃ st, g = .own 0 st 0 (sortR l).length ∧ O' = [.row st 32 (hsG (sortR l))]) :=
  (cSort l .none hl (by intro e; cases e)).mono fun g O' h => by
    rcases h with ⟨e, _⟩ | ⟨st, ys, hp, hw, rfl, rfl⟩
    · exact absurd e hne
    · rw [dd_sortR hp hw]; exact ⟨st, rfl, rfl⟩
theorem flat_hs (st : Nat) (l : List Hs) : (GObj.row st 32 (hsG l)).flat = true := by
  simp only [GObj.flat, List.all_eq_true]
  intro r hr g hg
  obtain ⟨h, _, rfl⟩ := List.mem_map.1 hr
  obtain ⟨c, _, rfl⟩ := List.mem_map.1 hg
  rfl
theorem sortR_self {l : List Hs} (h : SS l) : sortR l = l := ss_eq (sortR_ss l) h fun z => sortR_mem l z
theorem frzL_one' {f : GVal → Option GVal} {g g' : GVal} (h : f g = some g') : frzL f [g] = some [g'] := by simp [frzL, h]
theorem frzL_two' {f : GVal → Option GVal} {g g' h h' : GVal} (e : f g = some g') (e2 : f h = some h') : frzL f [g, h] = some [g', h'] := by simp [frzL, e, e2]
theorem ss_at {l : List Hs} (h : SS l) {q : Nat} (h1 : 1 ≤ q) (h2 : q < l.length) : LT (l.getD (q - 1) h0) (l.getD q h0) := by
  have := List.pairwise_iff_getElem.1 h (q - 1) q (by omega) h2 (by omega)
  simpa [List.getD, (by omega : q - 1 < l.length), h2] using this
theorem lt_false {a b : Hs} (h : LT a b) : ltB b.1 a.1 = false := by
  cases e : ltB b.1 a.1 with
  | false => rfl
  | true => exact absurd (LT.trans h e) (LT.irrefl a)
theorem ss_lt {l : List Hs} (h : SS l) {i j : Nat} (h1 : i < j) (h2 : j < l.length) : LT (l.getD i h0) (l.getD j h0) := by
  have := List.pairwise_iff_getElem.1 h i j (by omega) h2 h1
  simpa [List.getD, (by omega : i < l.length), h2] using this
theorem bl_conv : ∀ (m : Nat) {x y z : List UInt8}, Op.bytesLess x y = true → Op.bytesLess y z = true → x.take m = z.take m → y.take m = x.take m
  | 0, _, _, _, _, _, _ => by simp
  | m + 1, [], y, z, h1, h2, h3 => by
    cases z with
    | nil => cases y <;> simp [Op.bytesLess] at h2
    | cons c z => simp at h3
  | m + 1, a :: x, [], z, h1, h2, h3 => by simp [Op.bytesLess] at h1
  | m + 1, a :: x, b :: y, [], h1, h2, h3 => by simp [Op.bytesLess] at h2
  | m + 1, a :: x, b :: y, c :: z, h1, h2, h3 => by
    simp only [List.take_succ_cons, List.cons.injEq] at h3
    obtain ⟨rfl, h3⟩ := h3
    simp only [Op.bytesLess, Bool.or_eq_true, decide_eq_true_eq, Bool.and_eq_true, beq_iff_eq] at h1 h2
    have hab : a = b := by
      rcases h1 with h | h
      · rcases h2 with k | k
        · exact absurd (UInt8.lt_trans h k) (UInt8.lt_irrefl a)
        · exact k.1.symm
      · exact h.1
    subst hab
    rcases h1 with h | h
    · exact absurd h (UInt8.lt_irrefl a)
    · rcases h2 with k | k
      · exact absurd k (UInt8.lt_irrefl a)
      · simp only [List.take_succ_cons, List.cons.injEq, true_and]
        exact bl_conv m h.2 k.2 h3
def begB (S : List UInt8) (h : Hs) : Bool := decide ((textL h.1).take S.length = S)
theorem beg_conv {S : List UInt8} {a b c : Hs} (h1 : LT a b) (h2 : LT b c) (ha : begB S a = true) (hc : begB S c = true) : begB S b = true := by
  have ha := of_decide_eq_true ha
  have hc := of_decide_eq_true hc
  refine decide_eq_true ?_
  rw [bl_conv S.length (x := textL a.1) (z := textL c.1) (by rw [less_text (by rw [a.2, b.2])]; exact h1) (by rw [less_text (by rw [b.2, c.2])]; exact h2) (by rw [ha, hc]), ha]
def anyB (S : List UInt8) (l : List Hs) (i : Nat) : Bool := (l.take i).any (begB S)
theorem anyB_succ {S : List UInt8} {l : List Hs} {i : Nat} (h : i < l.length) : anyB S l (i + 1) = (anyB S l i || begB S (l.getD i h0)) := by
  unfold anyB; rw [takeH h]; simp
theorem anyB_zero (S : List UInt8) (l : List Hs) : anyB S l 0 = false := by simp [anyB]
theorem anyB_prev {S : List UInt8} {l : List Hs} {i : Nat} (hi : 1 ≤ i) (h : i < l.length) (hb : begB S (l.getD (i - 1) h0) = true) : anyB S l i = true := by
  have := anyB_succ (S := S) (l := l) (i := i - 1) (by omega)
  rw [show i - 1 + 1 = i by omega, hb] at this
  rw [this]; simp
theorem anyB_new {S : List UInt8} {l : List Hs} {i : Nat} (hs : SS l) (hi : 1 ≤ i) (h : i < l.length) (hb : begB S (l.getD i h0) = true) (hn : begB S (l.getD (i - 1) h0) = false) : anyB S l i = false := by
  cases e : anyB S l i with
  | false => rfl
  | true =>
    unfold anyB at e
    obtain ⟨z, hz, hzb⟩ := List.any_eq_true.1 e
    obtain ⟨j, hj, ej⟩ := List.mem_iff_getElem.1 hz
    have hj' : j < i := by rw [List.length_take] at hj; omega
    have ez : l.getD j h0 = z := by
      rw [← ej]; simp [List.getD, (by omega : j < l.length)]
    by_cases c : j = i - 1
    · rw [← c, ez, hzb] at hn; cases hn
    · have := beg_conv (ss_lt hs (i := j) (j := i - 1) (by omega) (by omega)) (ss_lt hs (i := i - 1) (j := i) (by omega) h) (by rw [ez]; exact hzb) hb
      rw [this] at hn; cases hn
theorem anyB_all {S : List UInt8} {l : List Hs} {p : Nat} (h : p < l.length) (hb : begB S (l.getD p h0) = true) : anyB S l l.length = true := by
  unfold anyB
  rw [List.take_length]
  refine List.any_eq_true.2 ⟨l.getD p h0, ?_, hb⟩
  simp [List.getD, h]
theorem hBeg {S : List UInt8} (hS : S.length ≤ 9223372036854775807) (h : Hs) : GPure Try.prog 10 [.agg (bytesG h.1), .str S] (.bool (begB S h)) := hBegins h.1 S h.2 hS
def cntI : Bool → Int
  | true => 1
  | false => 0
theorem spec5 (l : List Int) (n : Int) (t : Tag) (hl : l.length ≤ 9223372036854775807) (hn : -9223372036854775808 ≤ n ∧ n ≤ 9223372036854775807) : GPure Try.prog 5 [.slice (ints l) t, .int .i64 n] (.bool true) := by
  refine h5.pure mixS (by simp) ?_
  simp only [gstart, s5, List.cons_append, List.nil_append, List.length_cons, List.length_nil, Nat.reduceAdd, Nat.reduceSub, List.replicate_succ, List.replicate_zero]
  simp +contextual -implicitDefEqProofs (maxSteps := 2000000) (disch := omega) only [drawC, ↓lenV, binV, ↓unV, optV, ↓loadV, ↓indexAddrV, ↓buildSliceV, ↓sliceV, ↓appendV, ↓srcV, bound, cutTag, hiTag, fillE, GVal.cells, grp, GVal.ofConst, ↓resV, resG, List.map, List.headD, List.take, List.drop, ↓reduceIte, Nat.reduceEqDiff, Nat.reduceAdd, Nat.reduceSub, Nat.reduceLeDiff, reduceCtorEq, implies_true, ne_eq, ↓asrcV, aggV, Tag.cap, List.replicate, allSolid, GVal.solid, Nat.reduceBEq, Nat.reduceMul, Nat.reduceLT, List.length_map, List.length_range, splice, vcA, ↓vcB, vcC, aggT23, arr23, arr53, els35, els36, els43, elt35, elt36, elt43, fld45_0, fld45_1, notInt23, notInt3, notInt35, notInt36, notInt42, notInt43, notInt45, notInt47, notInt5, notInt55, notInt57, notInt60, notInt9, plc53, tab23, tab3, tab42, tab43, tab5, und23, und3, und35, und36, und4, und42, und43, und47, und49, und5, und53, und55, und57, und60, und9, zer23, zer45, zer53, e5]
  refine hSort0.then ?_ (by rfl)
  simp +contextual -implicitDefEqProofs (maxSteps := 2000000) (disch := omega) only [drawC, ↓lenV, binV, ↓unV, optV, ↓loadV, ↓indexAddrV, ↓buildSliceV, ↓sliceV, ↓appendV, ↓srcV, bound, cutTag, hiTag, fillE, GVal.cells, grp, GVal.ofConst, ↓resV, resG, List.map, List.headD, List.take, List.drop, ↓reduceIte, Nat.reduceEqDiff, Nat.reduceAdd, Nat.reduceSub, Nat.reduceLeDiff, reduceCtorEq, implies_true, ne_eq, ↓asrcV, aggV, Tag.cap, List.replicate, allSolid, GVal.solid, Nat.reduceBEq, Nat.reduceMul, Nat.reduceLT, List.length_map, List.length_range, splice, vcA, ↓vcB, vcC, aggT23, arr23, arr53, els35, els36, els43, elt35, elt36, elt43, fld45_0, fld45_1, notInt23, notInt3, notInt35, notInt36, notInt42, notInt43, notInt45, notInt47, notInt5, notInt55, notInt57, notInt60, notInt9, plc53, tab23, tab3, tab42, tab43, tab5, und23, und3, und35, und36, und4, und42, und43, und47, und49, und5, und53, und55, und57, und60, und9, zer23, zer45, zer53, e5]
  refine vcSLoop_by (ι := { p : Nat × List Hs × Nat // p.1 ≤ l.length ∧ p.1 ≤ 30 ∧ SS p.2.1 ∧ p.2.1.length ≤ p.1 }) (fun p => ⟨[.slice (ints l) t, .int .i64 n, .any, .any, .any, .own 0 p.1.2.2 0 p.1.2.1.length, .int .i64 (p.1.1 : Nat)] ++ List.replicate 125 .any, [.row p.1.2.2 32 (hsG p.1.2.1)]⟩) (fun p => 30 - p.1.1) ?_ ?_
  · refine Into.row 5 32 rfl rfl ?_
    simp +contextual -implicitDefEqProofs (maxSteps := 2000000) (disch := omega) only [drawC, ↓lenV, binV, ↓unV, optV, ↓loadV, ↓indexAddrV, ↓buildSliceV, ↓sliceV, ↓appendV, ↓srcV, bound, cutTag, hiTag, fillE, GVal.cells, grp, GVal.ofConst, ↓resV, resG, List.map, List.headD, List.take, List.drop, ↓reduceIte, Nat.reduceEqDiff, Nat.reduceAdd, Nat.reduceSub, Nat.reduceLeDiff, reduceCtorEq, implies_true, ne_eq, ↓asrcV, aggV, Tag.cap, List.replicate, allSolid, GVal.solid, Nat.reduceBEq, Nat.reduceMul, Nat.reduceLT, List.length_map, List.length_range, splice, vcA, ↓vcB, vcC, aggT23, arr23, arr53, els35, els36, els43, elt35, elt36, elt43, fld45_0, fld45_1, notInt23, notInt3, notInt35, notInt36, notInt42, notInt43, notInt45, notInt47, notInt5, notInt55, notInt57, notInt60, notInt9, plc53, tab23, tab3, tab42, tab43, tab5, und23, und3, und35, und36, und4, und42, und43, und47, und49, und5, und53, und55, und57, und60, und9, zer23, zer45, zer53, e5]
    intro t0
    exact Into.first ⟨(0, [], t0), by show 0 ≤ _; omega, by show 0 ≤ 30; omega, List.Pairwise.nil, by simp⟩ ⟨[], by simp [hsG]⟩ (by simp [WL, leG_self, leG_any])
  · rintro ⟨⟨k, acc, v⟩, hk, hk4, hss, hal⟩
    simp only [] at hk hk4 hss hal
    by_cases h : k < l.length ∧ k < 30
    · have d0 : ((k : Int) < (l.length : Int)) = True := eq_true (by omega)
      have d1 : ((k : Int) < 30) = True := eq_true (by omega)
      obtain ⟨x, ex⟩ : ∃ x, l.getD k 0 = x := ⟨_, rfl⟩
      simp +contextual -implicitDefEqProofs (maxSteps := 2000000) (disch := omega) only [drawC, ↓lenV, binV, ↓unV, optV, ↓loadV, ↓indexAddrV, ↓buildSliceV, ↓sliceV, ↓appendV, ↓srcV, bound, cutTag, hiTag, fillE, GVal.cells, grp, GVal.ofConst, ↓resV, resG, List.map, List.headD, List.take, List.drop, ↓reduceIte, Nat.reduceEqDiff, Nat.reduceAdd, Nat.reduceSub, Nat.reduceLeDiff, reduceCtorEq, implies_true, ne_eq, ↓asrcV, aggV, Tag.cap, List.replicate, allSolid, GVal.solid, Nat.reduceBEq, Nat.reduceMul, Nat.reduceLT, List.length_map, List.length_range, splice, vcA, ↓vcB, vcC, aggT23, arr23, arr53, els35, els36, els43, elt35, elt36, elt43, fld45_0, fld45_1, notInt23, notInt3, notInt35, notInt36, notInt42, notInt43, notInt45, notInt47, notInt5, notInt55, notInt57, notInt60, notInt9, plc53, tab23, tab3, tab42, tab43, tab5, und23, und3, und35, und36, und4, und42, und43, und47, und49, und5, und53, und55, und57, und60, und9, zer23, zer45, zer53, e5, d0, d1, ex]
      refine ⟨by omega, ?_⟩
      refine (hHashF x).then ?_ (by rfl)
      simp +contextual -implicitDefEqProofs (maxSteps := 2000000) (disch := omega) only [drawC, ↓lenV, binV, ↓unV, optV, ↓loadV, ↓indexAddrV, ↓buildSliceV, ↓sliceV, ↓appendV, ↓srcV, bound, cutTag, hiTag, fillE, GVal.cells, grp, GVal.ofConst, ↓resV, resG, List.map, List.headD, List.take, List.drop, ↓reduceIte, Nat.reduceEqDiff, Nat.reduceAdd, Nat.reduceSub, Nat.reduceLeDiff, reduceCtorEq, implies_true, ne_eq, ↓asrcV, aggV, Tag.cap, List.replicate, allSolid, GVal.solid, Nat.reduceBEq, Nat.reduceMul, Nat.reduceLT, List.length_map, List.length_range, splice, vcA, ↓vcB, vcC, aggT23, arr23, arr53, els35, els36, els43, elt35, elt36, elt43, fld45_0, fld45_1, notInt23, notInt3, notInt35, notInt36, notInt42, notInt43, notInt45, notInt47, notInt5, notInt55, notInt57, notInt60, notInt9, plc53, tab23, tab3, tab42, tab43, tab5, und23, und3, und35, und36, und4, und42, und43, und47, und49, und5, und53, und55, und57, und60, und9, zer23, zer45, zer53, e5, d0, d1, hsG_len, all_hsG, take32, len32, sol_bytes, if32, one32]
      refine ⟨by omega, by omega, by omega, fun st => ?_⟩
      have ee : List.take acc.length (hsG acc) ++ [bytesG (hashF x).1] = hsG (acc ++ [hashF x]) := by rw [takeAll, hsG_app]; rfl
      rw [ee]
      have el : (acc ++ [hashF x]).length = acc.length + 1 := by simp
      rw [← el]
      refine GCalls.frzArgs (args' := [.slice (hsG (acc ++ [hashF x])) .none]) 4 ((cSort (acc ++ [hashF x]) .none (by rw [el]; omega) (by intro e; cases e)).mono ?_) (frzL_one' (frz_own rfl (hsG_len _).symm (frz_hs _ 2 _)))
      rintro g O' (⟨e, _⟩ | ⟨st2, ys, hp, hw, rfl, rfl⟩)
      · simp at e
      · have es := dd_sortR hp hw
        have hl2 := sortR_len (acc ++ [hashF x])
        have hs2 := sortR_ss (acc ++ [hashF x])
        rw [es]
        simp +contextual -implicitDefEqProofs (maxSteps := 2000000) (disch := omega) only [drawC, ↓lenV, binV, ↓unV, optV, ↓loadV, ↓indexAddrV, ↓buildSliceV, ↓sliceV, ↓appendV, ↓srcV, bound, cutTag, hiTag, fillE, GVal.cells, grp, GVal.ofConst, ↓resV, resG, List.map, List.headD, List.take, List.drop, ↓reduceIte, Nat.reduceEqDiff, Nat.reduceAdd, Nat.reduceSub, Nat.reduceLeDiff, reduceCtorEq, implies_true, ne_eq, ↓asrcV, aggV, Tag.cap, List.replicate, allSolid, GVal.solid, Nat.reduceBEq, Nat.reduceMul, Nat.reduceLT, List.length_map, List.length_range, splice, vcA, ↓vcB, vcC, aggT23, arr23, arr53, els35, els36, els43, elt35, elt36, elt43, fld45_0, fld45_1, notInt23, notInt3, notInt35, notInt36, notInt42, notInt43, notInt45, notInt47, notInt5, notInt55, notInt57, notInt60, notInt9, plc53, tab23, tab3, tab42, tab43, tab5, und23, und3, und35, und36, und4, und42, und43, und47, und49, und5, und53, und55, und57, und60, und9, zer23, zer45, zer53, e5]
        exact Into.at ⟨(k + 1, sortR (acc ++ [hashF x]), st2), by show k + 1 ≤ _; omega, by show k + 1 ≤ 30; omega, hs2, by show (sortR _).length ≤ k + 1; omega⟩ (by show _ < _; simp; omega) ⟨[], by simp⟩ (by simp [WL, leG_self, leG_any, leG_int])
    · have tl := hsG_len acc
      by_cases h1 : k < l.length
      · have d0 : ((k : Int) < (l.length : Int)) = True := eq_true (by omega)
        have d1 : ((k : Int) < 30) = False := eq_false (by omega)
        simp +contextual -implicitDefEqProofs (maxSteps := 2000000) (disch := omega) only [drawC, ↓lenV, binV, ↓unV, optV, ↓loadV, ↓indexAddrV, ↓buildSliceV, ↓sliceV, ↓appendV, ↓srcV, bound, cutTag, hiTag, fillE, GVal.cells, grp, GVal.ofConst, ↓resV, resG, List.map, List.headD, List.take, List.drop, ↓reduceIte, Nat.reduceEqDiff, Nat.reduceAdd, Nat.reduceSub, Nat.reduceLeDiff, reduceCtorEq, implies_true, ne_eq, ↓asrcV, aggV, Tag.cap, List.replicate, allSolid, GVal.solid, Nat.reduceBEq, Nat.reduceMul, Nat.reduceLT, List.length_map, List.length_range, splice, vcA, ↓vcB, vcC, aggT23, arr23, arr53, els35, els36, els43, elt35, elt36, elt43, fld45_0, fld45_1, notInt23, notInt3, notInt35, notInt36, notInt42, notInt43, notInt45, notInt47, notInt5, notInt55, notInt57, notInt60, notInt9, plc53, tab23, tab3, tab42, tab43, tab5, und23, und3, und35, und36, und4, und42, und43, und47, und49, und5, und53, und55, und57, und60, und9, zer23, zer45, zer53, e5, d0, d1]
        by_cases hne : acc = []
        · have hz : hsG (sortR acc) = [] := by rw [hne]; rfl
          have h0l : acc.length = 0 := by rw [hne]; rfl
          refine hKnown.then ?_ (by rfl)
          simp +contextual -implicitDefEqProofs (maxSteps := 2000000) (disch := omega) only [drawC, ↓lenV, binV, ↓unV, optV, ↓loadV, ↓indexAddrV, ↓buildSliceV, ↓sliceV, ↓appendV, ↓srcV, bound, cutTag, hiTag, fillE, GVal.cells, grp, GVal.ofConst, ↓resV, resG, List.map, List.headD, List.take, List.drop, ↓reduceIte, Nat.reduceEqDiff, Nat.reduceAdd, Nat.reduceSub, Nat.reduceLeDiff, reduceCtorEq, implies_true, ne_eq, ↓asrcV, aggV, Tag.cap, List.replicate, allSolid, GVal.solid, Nat.reduceBEq, Nat.reduceMul, Nat.reduceLT, List.length_map, List.length_range, splice, vcA, ↓vcB, vcC, aggT23, arr23, arr53, els35, els36, els43, elt35, elt36, elt43, fld45_0, fld45_1, notInt23, notInt3, notInt35, notInt36, notInt42, notInt43, notInt45, notInt47, notInt5, notInt55, notInt57, notInt60, notInt9, plc53, tab23, tab3, tab42, tab43, tab5, und23, und3, und35, und36, und4, und42, und43, und47, und49, und5, und53, und55, und57, und60, und9, zer23, zer45, zer53, e5]
          refine (GCalls.borrow (args' := [.slice (hsG acc) .none]) 4 (hSort acc .none (by omega) (by intro e; cases e)) (frzL_one' (frz_own rfl (hsG_len _).symm (frz_hs _ 2 _))) rfl ?_).mono ?_
          · rintro g O' ⟨rfl, rfl⟩
            exact ⟨by rw [hz]; rfl, by simp⟩
          rintro g O'' ⟨g0, O', ⟨rfl, rfl⟩, rfl, rfl⟩
          rw [hz]
          simp +contextual -implicitDefEqProofs (maxSteps := 2000000) (disch := omega) only [drawC, ↓lenV, binV, ↓unV, optV, ↓loadV, ↓indexAddrV, ↓buildSliceV, ↓sliceV, ↓appendV, ↓srcV, bound, cutTag, hiTag, fillE, GVal.cells, grp, GVal.ofConst, ↓resV, resG, List.map, List.headD, List.take, List.drop, ↓reduceIte, Nat.reduceEqDiff, Nat.reduceAdd, Nat.reduceSub, Nat.reduceLeDiff, reduceCtorEq, implies_true, ne_eq, ↓asrcV, aggV, Tag.cap, List.replicate, allSolid, GVal.solid, Nat.reduceBEq, Nat.reduceMul, Nat.reduceLT, List.length_map, List.length_range, splice, vcA, ↓vcB, vcC, aggT23, arr23, arr53, els35, els36, els43, elt35, elt36, elt43, fld45_0, fld45_1, notInt23, notInt3, notInt35, notInt36, notInt42, notInt43, notInt45, notInt47, notInt5, notInt55, notInt57, notInt60, notInt9, plc53, tab23, tab3, tab42, tab43, tab5, und23, und3, und35, und36, und4, und42, und43, und47, und49, und5, und53, und55, und57, und60, und9, zer23, zer45, zer53, e5, GVal.shift, List.append_nil]
          refine (GCalls.borrow (args' := [.slice (hsG []) .none, .slice (hsG acc) .none]) 4 (hSame [] acc .none .none (by simp)) (frzL_two' rfl (frz_own rfl (hsG_len _).symm (frz_hs _ 2 _))) rfl ?_).mono ?_
          · rintro g O' ⟨rfl, rfl⟩
            exact ⟨rfl, by simp⟩
          rintro g O'' ⟨g0, O', ⟨rfl, rfl⟩, rfl, rfl⟩
          rw [decide_eq_true hne.symm]
          simp +contextual -implicitDefEqProofs (maxSteps := 2000000) (disch := omega) only [drawC, ↓lenV, binV, ↓unV, optV, ↓loadV, ↓indexAddrV, ↓buildSliceV, ↓sliceV, ↓appendV, ↓srcV, bound, cutTag, hiTag, fillE, GVal.cells, grp, GVal.ofConst, ↓resV, resG, List.map, List.headD, List.take, List.drop, ↓reduceIte, Nat.reduceEqDiff, Nat.reduceAdd, Nat.reduceSub, Nat.reduceLeDiff, reduceCtorEq, implies_true, ne_eq, ↓asrcV, aggV, Tag.cap, List.replicate, allSolid, GVal.solid, Nat.reduceBEq, Nat.reduceMul, Nat.reduceLT, List.length_map, List.length_range, splice, vcA, ↓vcB, vcC, aggT23, arr23, arr53, els35, els36, els43, elt35, elt36, elt43, fld45_0, fld45_1, notInt23, notInt3, notInt35, notInt36, notInt42, notInt43, notInt45, notInt47, notInt5, notInt55, notInt57, notInt60, notInt9, plc53, tab23, tab3, tab42, tab43, tab5, und23, und3, und35, und36, und4, und42, und43, und47, und49, und5, und53, und55, und57, und60, und9, zer23, zer45, zer53, e5, GVal.shift, List.append_nil, hsG_len]
          refine vcSLoop_by (ι := Unit) (fun _ => ⟨[.slice (ints l) t, .int .i64 n, .any, .any, .any, .own 0 v 0 acc.length, .any, .int .i64 1] ++ List.replicate 124 .any, [.row v 32 (hsG acc)]⟩) (fun _ => 0) ?_ ?_
          · exact Into.first () ⟨[], by simp⟩ (by simp [WL, leG_self, leG_any, leG_int])
          · rintro ⟨⟩
            have d2 : ((1 : Int) < (acc.length : Int)) = False := eq_false (by omega)
            have d5 : ((acc.length : Int) = 0) = True := eq_true (by omega)
            simp +contextual -implicitDefEqProofs (maxSteps := 2000000) (disch := omega) only [drawC, ↓lenV, binV, ↓unV, optV, ↓loadV, ↓indexAddrV, ↓buildSliceV, ↓sliceV, ↓appendV, ↓srcV, bound, cutTag, hiTag, fillE, GVal.cells, grp, GVal.ofConst, ↓resV, resG, List.map, List.headD, List.take, List.drop, ↓reduceIte, Nat.reduceEqDiff, Nat.reduceAdd, Nat.reduceSub, Nat.reduceLeDiff, reduceCtorEq, implies_true, ne_eq, ↓asrcV, aggV, Tag.cap, List.replicate, allSolid, GVal.solid, Nat.reduceBEq, Nat.reduceMul, Nat.reduceLT, List.length_map, List.length_range, splice, vcA, ↓vcB, vcC, aggT23, arr23, arr53, els35, els36, els43, elt35, elt36, elt43, fld45_0, fld45_1, notInt23, notInt3, notInt35, notInt36, notInt42, notInt43, notInt45, notInt47, notInt5, notInt55, notInt57, notInt60, notInt9, plc53, tab23, tab3, tab42, tab43, tab5, und23, und3, und35, und36, und4, und42, und43, und47, und49, und5, und53, und55, und57, und60, und9, zer23, zer45, zer53, e5, d2, d5, hsG_len]
            exact fun hh => (hh trivial).elim
        · have hpos : 0 < acc.length := List.length_pos_iff.2 hne
          refine hKnown.then ?_ (by rfl)
          simp +contextual -implicitDefEqProofs (maxSteps := 2000000) (disch := omega) only [drawC, ↓lenV, binV, ↓unV, optV, ↓loadV, ↓indexAddrV, ↓buildSliceV, ↓sliceV, ↓appendV, ↓srcV, bound, cutTag, hiTag, fillE, GVal.cells, grp, GVal.ofConst, ↓resV, resG, List.map, List.headD, List.take, List.drop, ↓reduceIte, Nat.reduceEqDiff, Nat.reduceAdd, Nat.reduceSub, Nat.reduceLeDiff, reduceCtorEq, implies_true, ne_eq, ↓asrcV, aggV, Tag.cap, List.replicate, allSolid, GVal.solid, Nat.reduceBEq, Nat.reduceMul, Nat.reduceLT, List.length_map, List.length_range, splice, vcA, ↓vcB, vcC, aggT23, arr23, arr53, els35, els36, els43, elt35, elt36, elt43, fld45_0, fld45_1, notInt23, notInt3, notInt35, notInt36, notInt42, notInt43, notInt45, notInt47, notInt5, notInt55, notInt57, notInt60, notInt9, plc53, tab23, tab3, tab42, tab43, tab5, und23, und3, und35, und36, und4, und42, und43, und47, und49, und5, und53, und55, und57, und60, und9, zer23, zer45, zer53, e5]
          refine (GCalls.borrow (args' := [.slice (hsG acc) .none]) 4 (cSortNe acc (by omega) hne) (frzL_one' (frz_own rfl (hsG_len _).symm (frz_hs _ 2 _))) rfl ?_).mono ?_
          · rintro g O' ⟨st, rfl, rfl⟩
            exact ⟨rfl, by simp only [List.mem_singleton]; rintro x rfl; exact flat_hs _ _⟩
          rintro g O'' ⟨g0, O', ⟨st2, rfl, rfl⟩, rfl, rfl⟩
          rw [sortR_self hss]
          simp +contextual -implicitDefEqProofs (maxSteps := 2000000) (disch := omega) only [drawC, ↓lenV, binV, ↓unV, optV, ↓loadV, ↓indexAddrV, ↓buildSliceV, ↓sliceV, ↓appendV, ↓srcV, bound, cutTag, hiTag, fillE, GVal.cells, grp, GVal.ofConst, ↓resV, resG, List.map, List.headD, List.take, List.drop, ↓reduceIte, Nat.reduceEqDiff, Nat.reduceAdd, Nat.reduceSub, Nat.reduceLeDiff, reduceCtorEq, implies_true, ne_eq, ↓asrcV, aggV, Tag.cap, List.replicate, allSolid, GVal.solid, Nat.reduceBEq, Nat.reduceMul, Nat.reduceLT, List.length_map, List.length_range, splice, vcA, ↓vcB, vcC, aggT23, arr23, arr53, els35, els36, els43, elt35, elt36, elt43, fld45_0, fld45_1, notInt23, notInt3, notInt35, notInt36, notInt42, notInt43, notInt45, notInt47, notInt5, notInt55, notInt57, notInt60, notInt9, plc53, tab23, tab3, tab42, tab43, tab5, und23, und3, und35, und36, und4, und42, und43, und47, und49, und5, und53, und55, und57, und60, und9, zer23, zer45, zer53, e5, GVal.shift, List.cons_append, List.nil_append, List.length_cons, List.length_nil, Nat.zero_add]
          refine (GCalls.borrow (args' := [.slice (hsG acc) .none, .slice (hsG acc) .none]) 4 (hSame acc acc .none .none (by omega)) (frzL_two' (frz_own rfl (hsG_len _).symm (frz_hs _ 2 _)) (frz_own rfl (hsG_len _).symm (frz_hs _ 2 _))) rfl ?_).mono ?_
          · rintro g O' ⟨rfl, rfl⟩
            exact ⟨rfl, by simp⟩
          rintro g O'' ⟨g0, O', ⟨rfl, rfl⟩, rfl, rfl⟩
          rw [decide_eq_true rfl]
          simp +contextual -implicitDefEqProofs (maxSteps := 2000000) (disch := omega) only [drawC, ↓lenV, binV, ↓unV, optV, ↓loadV, ↓indexAddrV, ↓buildSliceV, ↓sliceV, ↓appendV, ↓srcV, bound, cutTag, hiTag, fillE, GVal.cells, grp, GVal.ofConst, ↓resV, resG, List.map, List.headD, List.take, List.drop, ↓reduceIte, Nat.reduceEqDiff, Nat.reduceAdd, Nat.reduceSub, Nat.reduceLeDiff, reduceCtorEq, implies_true, ne_eq, ↓asrcV, aggV, Tag.cap, List.replicate, allSolid, GVal.solid, Nat.reduceBEq, Nat.reduceMul, Nat.reduceLT, List.length_map, List.length_range, splice, vcA, ↓vcB, vcC, aggT23, arr23, arr53, els35, els36, els43, elt35, elt36, elt43, fld45_0, fld45_1, notInt23, notInt3, notInt35, notInt36, notInt42, notInt43, notInt45, notInt47, notInt5, notInt55, notInt57, notInt60, notInt9, plc53, tab23, tab3, tab42, tab43, tab5, und23, und3, und35, und36, und4, und42, und43, und47, und49, und5, und53, und55, und57, und60, und9, zer23, zer45, zer53, e5, GVal.shift, List.append_nil, hsG_len]
          refine vcSLoop_by (ι := { q : Nat // 1 ≤ q ∧ q ≤ acc.length }) (fun q => ⟨[.slice (ints l) t, .int .i64 n, .any, .any, .any, .own 0 v 0 acc.length, .any, .int .i64 (q.1 : Nat)] ++ List.replicate 124 .any, [.row v 32 (hsG acc), .row st2 32 (hsG acc)]⟩) (fun q => acc.length - q.1) ?_ ?_
          · exact Into.first ⟨1, by omega, by omega⟩ ⟨[], by simp⟩ (by simp [WL, leG_self, leG_any, leG_int])
          · rintro ⟨q, hq1, hq⟩
            by_cases h2 : q < acc.length
            · have d2 : ((q : Int) < (acc.length : Int)) = True := eq_true (by omega)
              have tn : ((q : Int) - 1).toNat = q - 1 := by omega
              have ea := hsG_at acc (q - 1) (by omega)
              have eb := hsG_at acc q h2
              have hlt := ss_at hss hq1 h2
              obtain ⟨x, ex⟩ : ∃ x, acc.getD (q - 1) h0 = x := ⟨_, rfl⟩
              obtain ⟨y, ey⟩ : ∃ y, acc.getD q h0 = y := ⟨_, rfl⟩
              rw [ex] at ea hlt
              rw [ey] at eb hlt
              simp +contextual -implicitDefEqProofs (maxSteps := 2000000) (disch := omega) only [drawC, ↓lenV, binV, ↓unV, optV, ↓loadV, ↓indexAddrV, ↓buildSliceV, ↓sliceV, ↓appendV, ↓srcV, bound, cutTag, hiTag, fillE, GVal.cells, grp, GVal.ofConst, ↓resV, resG, List.map, List.headD, List.take, List.drop, ↓reduceIte, Nat.reduceEqDiff, Nat.reduceAdd, Nat.reduceSub, Nat.reduceLeDiff, reduceCtorEq, implies_true, ne_eq, ↓asrcV, aggV, Tag.cap, List.replicate, allSolid, GVal.solid, Nat.reduceBEq, Nat.reduceMul, Nat.reduceLT, List.length_map, List.length_range, splice, vcA, ↓vcB, vcC, aggT23, arr23, arr53, els35, els36, els43, elt35, elt36, elt43, fld45_0, fld45_1, notInt23, notInt3, notInt35, notInt36, notInt42, notInt43, notInt45, notInt47, notInt5, notInt55, notInt57, notInt60, notInt9, plc53, tab23, tab3, tab42, tab43, tab5, und23, und3, und35, und36, und4, und42, und43, und47, und49, und5, und53, und55, und57, und60, und9, zer23, zer45, zer53, e5, d2, hsG_len, ea, eb, tn, all_hsG, take32, len32, Nat.zero_add]
              have e1 : ltB x.1 y.1 = true := hlt
              have e2 : ltB y.1 x.1 = false := lt_false hlt
              have e3 : Op.bytesLess (textL x.1) (textL y.1) = true := by rw [less_text (by rw [x.2, y.2]), e1]
              refine ⟨by omega, by omega, by omega, by omega, by omega, by omega, by omega, ?_⟩
              refine (hLess x.1 y.1 x.2 y.2).then ?_ (by rfl)
              rw [e1]
              simp +contextual -implicitDefEqProofs (maxSteps := 2000000) (disch := omega) only [drawC, ↓lenV, binV, ↓unV, optV, ↓loadV, ↓indexAddrV, ↓buildSliceV, ↓sliceV, ↓appendV, ↓srcV, bound, cutTag, hiTag, fillE, GVal.cells, grp, GVal.ofConst, ↓resV, resG, List.map, List.headD, List.take, List.drop, ↓reduceIte, Nat.reduceEqDiff, Nat.reduceAdd, Nat.reduceSub, Nat.reduceLeDiff, reduceCtorEq, implies_true, ne_eq, ↓asrcV, aggV, Tag.cap, List.replicate, allSolid, GVal.solid, Nat.reduceBEq, Nat.reduceMul, Nat.reduceLT, List.length_map, List.length_range, splice, vcA, ↓vcB, vcC, aggT23, arr23, arr53, els35, els36, els43, elt35, elt36, elt43, fld45_0, fld45_1, notInt23, notInt3, notInt35, notInt36, notInt42, notInt43, notInt45, notInt47, notInt5, notInt55, notInt57, notInt60, notInt9, plc53, tab23, tab3, tab42, tab43, tab5, und23, und3, und35, und36, und4, und42, und43, und47, und49, und5, und53, und55, und57, und60, und9, zer23, zer45, zer53, e5, d2, hsG_len, ea, eb, tn, all_hsG, take32, len32, Nat.zero_add]
              refine ⟨by omega, by omega, by omega, by omega, by omega, by omega, by omega, ?_⟩
              refine (hLess y.1 x.1 y.2 x.2).then ?_ (by rfl)
              rw [e2]
              simp +contextual -implicitDefEqProofs (maxSteps := 2000000) (disch := omega) only [drawC, ↓lenV, binV, ↓unV, optV, ↓loadV, ↓indexAddrV, ↓buildSliceV, ↓sliceV, ↓appendV, ↓srcV, bound, cutTag, hiTag, fillE, GVal.cells, grp, GVal.ofConst, ↓resV, resG, List.map, List.headD, List.take, List.drop, ↓reduceIte, Nat.reduceEqDiff, Nat.reduceAdd, Nat.reduceSub, Nat.reduceLeDiff, reduceCtorEq, implies_true, ne_eq, ↓asrcV, aggV, Tag.cap, List.replicate, allSolid, GVal.solid, Nat.reduceBEq, Nat.reduceMul, Nat.reduceLT, List.length_map, List.length_range, splice, vcA, ↓vcB, vcC, aggT23, arr23, arr53, els35, els36, els43, elt35, elt36, elt43, fld45_0, fld45_1, notInt23, notInt3, notInt35, notInt36, notInt42, notInt43, notInt45, notInt47, notInt5, notInt55, notInt57, notInt60, notInt9, plc53, tab23, tab3, tab42, tab43, tab5, und23, und3, und35, und36, und4, und42, und43, und47, und49, und5, und53, und55, und57, und60, und9, zer23, zer45, zer53, e5, d2, hsG_len, ea, eb, tn, all_hsG, take32, len32, Nat.zero_add]
              refine ⟨by omega, by omega, by omega, by omega, by omega, by omega, by omega, ?_⟩
              refine (hText x.1 x.2).then ?_ (by rfl)
              simp +contextual -implicitDefEqProofs (maxSteps := 2000000) (disch := omega) only [drawC, ↓lenV, binV, ↓unV, optV, ↓loadV, ↓indexAddrV, ↓buildSliceV, ↓sliceV, ↓appendV, ↓srcV, bound, cutTag, hiTag, fillE, GVal.cells, grp, GVal.ofConst, ↓resV, resG, List.map, List.headD, List.take, List.drop, ↓reduceIte, Nat.reduceEqDiff, Nat.reduceAdd, Nat.reduceSub, Nat.reduceLeDiff, reduceCtorEq, implies_true, ne_eq, ↓asrcV, aggV, Tag.cap, List.replicate, allSolid, GVal.solid, Nat.reduceBEq, Nat.reduceMul, Nat.reduceLT, List.length_map, List.length_range, splice, vcA, ↓vcB, vcC, aggT23, arr23, arr53, els35, els36, els43, elt35, elt36, elt43, fld45_0, fld45_1, notInt23, notInt3, notInt35, notInt36, notInt42, notInt43, notInt45, notInt47, notInt5, notInt55, notInt57, notInt60, notInt9, plc53, tab23, tab3, tab42, tab43, tab5, und23, und3, und35, und36, und4, und42, und43, und47, und49, und5, und53, und55, und57, und60, und9, zer23, zer45, zer53, e5, d2, hsG_len, ea, eb, tn, all_hsG, take32, len32, Nat.zero_add]
              refine ⟨⟨[], by simp⟩, ?_⟩
              refine (hText y.1 y.2).then ?_ (by rfl)
              simp +contextual -implicitDefEqProofs (maxSteps := 2000000) (disch := omega) only [drawC, ↓lenV, binV, ↓unV, optV, ↓loadV, ↓indexAddrV, ↓buildSliceV, ↓sliceV, ↓appendV, ↓srcV, bound, cutTag, hiTag, fillE, GVal.cells, grp, GVal.ofConst, ↓resV, resG, List.map, List.headD, List.take, List.drop, ↓reduceIte, Nat.reduceEqDiff, Nat.reduceAdd, Nat.reduceSub, Nat.reduceLeDiff, reduceCtorEq, implies_true, ne_eq, ↓asrcV, aggV, Tag.cap, List.replicate, allSolid, GVal.solid, Nat.reduceBEq, Nat.reduceMul, Nat.reduceLT, List.length_map, List.length_range, splice, vcA, ↓vcB, vcC, aggT23, arr23, arr53, els35, els36, els43, elt35, elt36, elt43, fld45_0, fld45_1, notInt23, notInt3, notInt35, notInt36, notInt42, notInt43, notInt45, notInt47, notInt5, notInt55, notInt57, notInt60, notInt9, plc53, tab23, tab3, tab42, tab43, tab5, und23, und3, und35, und36, und4, und42, und43, und47, und49, und5, und53, und55, und57, und60, und9, zer23, zer45, zer53, e5, d2, hsG_len, ea, eb, tn, all_hsG, take32, len32, Nat.zero_add, e3]
              exact Into.at ⟨q + 1, by omega, by omega⟩ (by show _ < _; simp; omega) ⟨[], by simp⟩ (by simp [WL, leG_self, leG_any, leG_int])
            · have d2 : ((q : Int) < (acc.length : Int)) = False := eq_false (by omega)
              have b1 := Int.emod_nonneg n (by omega : (acc.length : Int) ≠ 0)
              have b2 := Int.emod_lt_of_pos n (by omega : (0 : Int) < acc.length)
              simp +contextual -implicitDefEqProofs (maxSteps := 2000000) (disch := omega) only [drawC, ↓lenV, binV, ↓unV, optV, ↓loadV, ↓indexAddrV, ↓buildSliceV, ↓sliceV, ↓appendV, ↓srcV, bound, cutTag, hiTag, fillE, GVal.cells, grp, GVal.ofConst, ↓resV, resG, List.map, List.headD, List.take, List.drop, ↓reduceIte, Nat.reduceEqDiff, Nat.reduceAdd, Nat.reduceSub, Nat.reduceLeDiff, reduceCtorEq, implies_true, ne_eq, ↓asrcV, aggV, Tag.cap, List.replicate, allSolid, GVal.solid, Nat.reduceBEq, Nat.reduceMul, Nat.reduceLT, List.length_map, List.length_range, splice, vcA, ↓vcB, vcC, aggT23, arr23, arr53, els35, els36, els43, elt35, elt36, elt43, fld45_0, fld45_1, notInt23, notInt3, notInt35, notInt36, notInt42, notInt43, notInt45, notInt47, notInt5, notInt55, notInt57, notInt60, notInt9, plc53, tab23, tab3, tab42, tab43, tab5, und23, und3, und35, und36, und4, und42, und43, und47, und49, und5, und53, und55, und57, und60, und9, zer23, zer45, zer53, e5, d2, hsG_len]
              refine fun _ => (sPick n acc.length (by omega) (by omega)).then ?_ (by rfl)
              obtain ⟨p, ep⟩ : ∃ p : Nat, n % (acc.length : Int) = p := ⟨(n % (acc.length : Int)).toNat, by omega⟩
              rw [ep] at b1 b2
              have ea := hsG_at acc p (by omega)
              obtain ⟨x, ex⟩ : ∃ x, acc.getD p h0 = x := ⟨_, rfl⟩
              rw [ex] at ea
              simp +contextual -implicitDefEqProofs (maxSteps := 2000000) (disch := omega) only [drawC, ↓lenV, binV, ↓unV, optV, ↓loadV, ↓indexAddrV, ↓buildSliceV, ↓sliceV, ↓appendV, ↓srcV, bound, cutTag, hiTag, fillE, GVal.cells, grp, GVal.ofConst, ↓resV, resG, List.map, List.headD, List.take, List.drop, ↓reduceIte, Nat.reduceEqDiff, Nat.reduceAdd, Nat.reduceSub, Nat.reduceLeDiff, reduceCtorEq, implies_true, ne_eq, ↓asrcV, aggV, Tag.cap, List.replicate, allSolid, GVal.solid, Nat.reduceBEq, Nat.reduceMul, Nat.reduceLT, List.length_map, List.length_range, splice, vcA, ↓vcB, vcC, aggT23, arr23, arr53, els35, els36, els43, elt35, elt36, elt43, fld45_0, fld45_1, notInt23, notInt3, notInt35, notInt36, notInt42, notInt43, notInt45, notInt47, notInt5, notInt55, notInt57, notInt60, notInt9, plc53, tab23, tab3, tab42, tab43, tab5, und23, und3, und35, und36, und4, und42, und43, und47, und49, und5, und53, und55, und57, und60, und9, zer23, zer45, zer53, e5, d2, hsG_len, ep, ea, all_hsG, take32, len32, Nat.zero_add]
              refine ⟨by omega, by omega, by omega, by omega, ?_⟩
              refine (hText x.1 x.2).then ?_ (by rfl)
              have tx : (textL x.1).length = 64 := by rw [textL_len, x.2]
              simp +contextual -implicitDefEqProofs (maxSteps := 2000000) (disch := omega) only [drawC, ↓lenV, binV, ↓unV, optV, ↓loadV, ↓indexAddrV, ↓buildSliceV, ↓sliceV, ↓appendV, ↓srcV, bound, cutTag, hiTag, fillE, GVal.cells, grp, GVal.ofConst, ↓resV, resG, List.map, List.headD, List.take, List.drop, ↓reduceIte, Nat.reduceEqDiff, Nat.reduceAdd, Nat.reduceSub, Nat.reduceLeDiff, reduceCtorEq, implies_true, ne_eq, ↓asrcV, aggV, Tag.cap, List.replicate, allSolid, GVal.solid, Nat.reduceBEq, Nat.reduceMul, Nat.reduceLT, List.length_map, List.length_range, splice, vcA, ↓vcB, vcC, aggT23, arr23, arr53, els35, els36, els43, elt35, elt36, elt43, fld45_0, fld45_1, notInt23, notInt3, notInt35, notInt36, notInt42, notInt43, notInt45, notInt47, notInt5, notInt55, notInt57, notInt60, notInt9, plc53, tab23, tab3, tab42, tab43, tab5, und23, und3, und35, und36, und4, und42, und43, und47, und49, und5, und53, und55, und57, und60, und9, zer23, zer45, zer53, e5, d2, hsG_len, ep, ea, all_hsG, take32, len32, Nat.zero_add, tx]
              obtain ⟨m, em⟩ : ∃ m, norm IntKind.i64 (n.tdiv 30) = m := ⟨_, rfl⟩
              rw [em]
              have f1 := Int.emod_nonneg m (by decide : (65 : Int) ≠ 0)
              have f2 := Int.emod_lt_of_pos m (by decide : (0 : Int) < 65)
              refine ⟨fun h => h trivial, by omega, ?_⟩
              refine (sPick m 65 (by omega) (by omega)).then ?_ (by rfl)
              obtain ⟨c, ec⟩ : ∃ c : Nat, m % 65 = c := ⟨(m % 65).toNat, by omega⟩
              rw [ec] at f1 f2
              simp +contextual -implicitDefEqProofs (maxSteps := 2000000) (disch := omega) only [drawC, ↓lenV, binV, ↓unV, optV, ↓loadV, ↓indexAddrV, ↓buildSliceV, ↓sliceV, ↓appendV, ↓srcV, bound, cutTag, hiTag, fillE, GVal.cells, grp, GVal.ofConst, ↓resV, resG, List.map, List.headD, List.take, List.drop, ↓reduceIte, Nat.reduceEqDiff, Nat.reduceAdd, Nat.reduceSub, Nat.reduceLeDiff, reduceCtorEq, implies_true, ne_eq, ↓asrcV, aggV, Tag.cap, List.replicate, allSolid, GVal.solid, Nat.reduceBEq, Nat.reduceMul, Nat.reduceLT, List.length_map, List.length_range, splice, vcA, ↓vcB, vcC, aggT23, arr23, arr53, els35, els36, els43, elt35, elt36, elt43, fld45_0, fld45_1, notInt23, notInt3, notInt35, notInt36, notInt42, notInt43, notInt45, notInt47, notInt5, notInt55, notInt57, notInt60, notInt9, plc53, tab23, tab3, tab42, tab43, tab5, und23, und3, und35, und36, und4, und42, und43, und47, und49, und5, und53, und55, und57, und60, und9, zer23, zer45, zer53, e5, d2, hsG_len, ep, ea, all_hsG, take32, len32, Nat.zero_add, tx, ec]
              refine ⟨by omega, by omega, by omega, ?_⟩
              obtain ⟨S, eS⟩ : ∃ S, List.drop (Int.toNat 0) (List.take c (textL x.1)) = S := ⟨_, rfl⟩
              have hS : S.length ≤ 9223372036854775807 := by rw [← eS, List.length_drop, List.length_take, tx]; omega
              have hB : begB S x = true := by rw [← eS]; exact begins_self
              rw [eS]
              refine vcSLoop_by (ι := { i : Nat // i ≤ acc.length }) (fun i => ⟨[.slice (ints l) t, .int .i64 n, .any, .any, .any, .own 0 v 0 acc.length, .any, .any, .str S, .int .i64 (cntI (anyB S acc i.1)), .int .i64 (i.1 : Nat)] ++ List.replicate 121 .any, [.row v 32 (hsG acc), .row st2 32 (hsG acc)]⟩) (fun i => acc.length - i.1) ?_ ?_
              · exact Into.first ⟨0, by omega⟩ ⟨[], by simp⟩ (by simp [WL, leG_self, leG_any, leG_int, anyB_zero, cntI])
              · rintro ⟨i, hi⟩
                by_cases h3 : i < acc.length
                · have d3 : ((i : Int) < (acc.length : Int)) = True := eq_true (by omega)
                  have tn3 : ((i : Int) - 1).toNat = i - 1 := by omega
                  have ea3 := hsG_at acc i h3
                  have sx := anyB_succ (S := S) h3
                  have pv := fun hi1 : 1 ≤ i => anyB_prev (S := S) hi1 h3
                  have nw := fun (hi1 : 1 ≤ i) => anyB_new (S := S) hss hi1 h3
                  obtain ⟨y, ey⟩ : ∃ y, acc.getD i h0 = y := ⟨_, rfl⟩
                  obtain ⟨w, ew⟩ : ∃ w, cntI (anyB S acc i) = w := ⟨_, rfl⟩
                  have hw : 0 ≤ w ∧ w ≤ 1 := by rw [← ew]; cases anyB S acc i <;> simp [cntI]
                  rw [ey] at ea3 sx nw
                  rw [ew]
                  simp +contextual -implicitDefEqProofs (maxSteps := 2000000) (disch := omega) only [drawC, ↓lenV, binV, ↓unV, optV, ↓loadV, ↓indexAddrV, ↓buildSliceV, ↓sliceV, ↓appendV, ↓srcV, bound, cutTag, hiTag, fillE, GVal.cells, grp, GVal.ofConst, ↓resV, resG, List.map, List.headD, List.take, List.drop, ↓reduceIte, Nat.reduceEqDiff, Nat.reduceAdd, Nat.reduceSub, Nat.reduceLeDiff, reduceCtorEq, implies_true, ne_eq, ↓asrcV, aggV, Tag.cap, List.replicate, allSolid, GVal.solid, Nat.reduceBEq, Nat.reduceMul, Nat.reduceLT, List.length_map, List.length_range, splice, vcA, ↓vcB, vcC, aggT23, arr23, arr53, els35, els36, els43, elt35, elt36, elt43, fld45_0, fld45_1, notInt23, notInt3, notInt35, notInt36, notInt42, notInt43, notInt45, notInt47, notInt5, notInt55, notInt57, notInt60, notInt9, plc53, tab23, tab3, tab42, tab43, tab5, und23, und3, und35, und36, und4, und42, und43, und47, und49, und5, und53, und55, und57, und60, und9, zer23, zer45, zer53, e5, d3, hsG_len, ea3, all_hsG, take32, len32, Nat.zero_add]
                  refine ⟨by omega, by omega, by omega, ?_⟩
                  refine (hBeg hS y).then ?_ (by rfl)
                  cases eb : begB S y with
                  | false =>
                    have e9 : cntI (anyB S acc (i + 1)) = w := by rw [sx, eb, Bool.or_false, ew]
                    simp +contextual -implicitDefEqProofs (maxSteps := 2000000) (disch := omega) only [drawC, ↓lenV, binV, ↓unV, optV, ↓loadV, ↓indexAddrV, ↓buildSliceV, ↓sliceV, ↓appendV, ↓srcV, bound, cutTag, hiTag, fillE, GVal.cells, grp, GVal.ofConst, ↓resV, resG, List.map, List.headD, List.take, List.drop, ↓reduceIte, Nat.reduceEqDiff, Nat.reduceAdd, Nat.reduceSub, Nat.reduceLeDiff, reduceCtorEq, implies_true, ne_eq, ↓asrcV, aggV, Tag.cap, List.replicate, allSolid, GVal.solid, Nat.reduceBEq, Nat.reduceMul, Nat.reduceLT, List.length_map, List.length_range, splice, vcA, ↓vcB, vcC, aggT23, arr23, arr53, els35, els36, els43, elt35, elt36, elt43, fld45_0, fld45_1, notInt23, notInt3, notInt35, notInt36, notInt42, notInt43, notInt45, notInt47, notInt5, notInt55, notInt57, notInt60, notInt9, plc53, tab23, tab3, tab42, tab43, tab5, und23, und3, und35, und36, und4, und42, und43, und47, und49, und5, und53, und55, und57, und60, und9, zer23, zer45, zer53, e5, d3, hsG_len, ea3, all_hsG, take32, len32, Nat.zero_add]
                    exact Into.at ⟨i + 1, by omega⟩ (by show _ < _; simp; omega) ⟨[], by simp⟩ (by simp [WL, leG_self, leG_any, leG_int, e9])
                  | true =>
                    by_cases h4 : i = 0
                    · have d4 : ((i : Int) = 0) = True := eq_true (by omega)
                      have e9 : cntI (anyB S acc (i + 1)) = w + 1 := by
                        rw [sx, eb, Bool.or_true, ← ew, h4, anyB_zero]; rfl
                      simp +contextual -implicitDefEqProofs (maxSteps := 2000000) (disch := omega) only [drawC, ↓lenV, binV, ↓unV, optV, ↓loadV, ↓indexAddrV, ↓buildSliceV, ↓sliceV, ↓appendV, ↓srcV, bound, cutTag, hiTag, fillE, GVal.cells, grp, GVal.ofConst, ↓resV, resG, List.map, List.headD, List.take, List.drop, ↓reduceIte, Nat.reduceEqDiff, Nat.reduceAdd, Nat.reduceSub, Nat.reduceLeDiff, reduceCtorEq, implies_true, ne_eq, ↓asrcV, aggV, Tag.cap, List.replicate, allSolid, GVal.solid, Nat.reduceBEq, Nat.reduceMul, Nat.reduceLT, List.length_map, List.length_range, splice, vcA, ↓vcB, vcC, aggT23, arr23, arr53, els35, els36, els43, elt35, elt36, elt43, fld45_0, fld45_1, notInt23, notInt3, notInt35, notInt36, notInt42, notInt43, notInt45, notInt47, notInt5, notInt55, notInt57, notInt60, notInt9, plc53, tab23, tab3, tab42, tab43, tab5, und23, und3, und35, und36, und4, und42, und43, und47, und49, und5, und53, und55, und57, und60, und9, zer23, zer45, zer53, e5, d3, d4, hsG_len, ea3, all_hsG, take32, len32, Nat.zero_add]
                      refine ⟨?_, fun hh => (hh trivial).elim⟩
                      exact Into.at ⟨i + 1, by omega⟩ (by show _ < _; simp; omega) ⟨[], by simp⟩ (by simp [WL, leG_self, leG_any, leG_int, e9])
                    · have d4 : ((i : Int) = 0) = False := eq_false (by omega)
                      have ea4 := hsG_at acc (i - 1) (by omega)
                      have nw1 := nw (by omega) eb
                      have pv1 := pv (by omega)
                      obtain ⟨z, ez⟩ : ∃ z, acc.getD (i - 1) h0 = z := ⟨_, rfl⟩
                      rw [ez] at ea4 nw1 pv1
                      simp +contextual -implicitDefEqProofs (maxSteps := 2000000) (disch := omega) only [drawC, ↓lenV, binV, ↓unV, optV, ↓loadV, ↓indexAddrV, ↓buildSliceV, ↓sliceV, ↓appendV, ↓srcV, bound, cutTag, hiTag, fillE, GVal.cells, grp, GVal.ofConst, ↓resV, resG, List.map, List.headD, List.take, List.drop, ↓reduceIte, Nat.reduceEqDiff, Nat.reduceAdd, Nat.reduceSub, Nat.reduceLeDiff, reduceCtorEq, implies_true, ne_eq, ↓asrcV, aggV, Tag.cap, List.replicate, allSolid, GVal.solid, Nat.reduceBEq, Nat.reduceMul, Nat.reduceLT, List.length_map, List.length_range, splice, vcA, ↓vcB, vcC, aggT23, arr23, arr53, els35, els36, els43, elt35, elt36, elt43, fld45_0, fld45_1, notInt23, notInt3, notInt35, notInt36, notInt42, notInt43, notInt45, notInt47, notInt5, notInt55, notInt57, notInt60, notInt9, plc53, tab23, tab3, tab42, tab43, tab5, und23, und3, und35, und36, und4, und42, und43, und47, und49, und5, und53, und55, und57, und60, und9, zer23, zer45, zer53, e5, d3, d4, hsG_len, ea3, ea4, tn3, all_hsG, take32, len32, Nat.zero_add]
                      refine ⟨by omega, by omega, by omega, by omega, ?_⟩
                      refine (hBeg hS z).then ?_ (by rfl)
                      cases ec2 : begB S z with
                      | false =>
                        have e9 : cntI (anyB S acc (i + 1)) = w + 1 := by
                          rw [sx, eb, Bool.or_true, ← ew, nw1 ec2]; rfl
                        simp +contextual -implicitDefEqProofs (maxSteps := 2000000) (disch := omega) only [drawC, ↓lenV, binV, ↓unV, optV, ↓loadV, ↓indexAddrV, ↓buildSliceV, ↓sliceV, ↓appendV, ↓srcV, bound, cutTag, hiTag, fillE, GVal.cells, grp, GVal.ofConst, ↓resV, resG, List.map, List.headD, List.take, List.drop, ↓reduceIte, Nat.reduceEqDiff, Nat.reduceAdd, Nat.reduceSub, Nat.reduceLeDiff, reduceCtorEq, implies_true, ne_eq, ↓asrcV, aggV, Tag.cap, List.replicate, allSolid, GVal.solid, Nat.reduceBEq, Nat.reduceMul, Nat.reduceLT, List.length_map, List.length_range, splice, vcA, ↓vcB, vcC, aggT23, arr23, arr53, els35, els36, els43, elt35, elt36, elt43, fld45_0, fld45_1, notInt23, notInt3, notInt35, notInt36, notInt42, notInt43, notInt45, notInt47, notInt5, notInt55, notInt57, notInt60, notInt9, plc53, tab23, tab3, tab42, tab43, tab5, und23, und3, und35, und36, und4, und42, und43, und47, und49, und5, und53, und55, und57, und60, und9, zer23, zer45, zer53, e5, d3, d4, hsG_len, ea3, ea4, tn3, all_hsG, take32, len32, Nat.zero_add]
                        exact Into.at ⟨i + 1, by omega⟩ (by show _ < _; simp; omega) ⟨[], by simp⟩ (by simp [WL, leG_self, leG_any, leG_int, e9])
                      | true =>
                        have e9 : cntI (anyB S acc (i + 1)) = w := by
                          rw [sx, eb, Bool.or_true, ← ew, pv1 ec2]
                        simp +contextual -implicitDefEqProofs (maxSteps := 2000000) (disch := omega) only [drawC, ↓lenV, binV, ↓unV, optV, ↓loadV, ↓indexAddrV, ↓buildSliceV, ↓sliceV, ↓appendV, ↓srcV, bound, cutTag, hiTag, fillE, GVal.cells, grp, GVal.ofConst, ↓resV, resG, List.map, List.headD, List.take, List.drop, ↓reduceIte, Nat.reduceEqDiff, Nat.reduceAdd, Nat.reduceSub, Nat.reduceLeDiff, reduceCtorEq, implies_true, ne_eq, ↓asrcV, aggV, Tag.cap, List.replicate, allSolid, GVal.solid, Nat.reduceBEq, Nat.reduceMul, Nat.reduceLT, List.length_map, List.length_range, splice, vcA, ↓vcB, vcC, aggT23, arr23, arr53, els35, els36, els43, elt35, elt36, elt43, fld45_0, fld45_1, notInt23, notInt3, notInt35, notInt36, notInt42, notInt43, notInt45, notInt47, notInt5, notInt55, notInt57, notInt60, notInt9, plc53, tab23, tab3, tab42, tab43, tab5, und23, und3, und35, und36, und4, und42, und43, und47, und49, und5, und53, und55, und57, und60, und9, zer23, zer45, zer53, e5, d3, d4, hsG_len, ea3, ea4, tn3, all_hsG, take32, len32, Nat.zero_add]
                        exact Into.at ⟨i + 1, by omega⟩ (by show _ < _; simp; omega) ⟨[], by simp⟩ (by simp [WL, leG_self, leG_any, leG_int, e9])
                · have d3 : ((i : Int) < (acc.length : Int)) = False := eq_false (by omega)
                  have ei : i = acc.length := by omega
                  have e9 : cntI (anyB S acc i) = 1 := by rw [ei, anyB_all (p := p) (by omega) (by rw [ex]; exact hB)]; rfl
                  rw [e9]
                  simp +contextual -implicitDefEqProofs (maxSteps := 2000000) (disch := omega) only [drawC, ↓lenV, binV, ↓unV, optV, ↓loadV, ↓indexAddrV, ↓buildSliceV, ↓sliceV, ↓appendV, ↓srcV, bound, cutTag, hiTag, fillE, GVal.cells, grp, GVal.ofConst, ↓resV, resG, List.map, List.headD, List.take, List.drop, ↓reduceIte, Nat.reduceEqDiff, Nat.reduceAdd, Nat.reduceSub, Nat.reduceLeDiff, reduceCtorEq, implies_true, ne_eq, ↓asrcV, aggV, Tag.cap, List.replicate, allSolid, GVal.solid, Nat.reduceBEq, Nat.reduceMul, Nat.reduceLT, List.length_map, List.length_range, splice, vcA, ↓vcB, vcC, aggT23, arr23, arr53, els35, els36, els43, elt35, elt36, elt43, fld45_0, fld45_1, notInt23, notInt3, notInt35, notInt36, notInt42, notInt43, notInt45, notInt47, notInt5, notInt55, notInt57, notInt60, notInt9, plc53, tab23, tab3, tab42, tab43, tab5, und23, und3, und35, und36, und4, und42, und43, und47, und49, und5, und53, und55, und57, und60, und9, zer23, zer45, zer53, e5, d3, hsG_len]
      · have d0 : ((k : Int) < (l.length : Int)) = False := eq_false (by omega)
        simp +contextual -implicitDefEqProofs (maxSteps := 2000000) (disch := omega) only [drawC, ↓lenV, binV, ↓unV, optV, ↓loadV, ↓indexAddrV, ↓buildSliceV, ↓sliceV, ↓appendV, ↓srcV, bound, cutTag, hiTag, fillE, GVal.cells, grp, GVal.ofConst, ↓resV, resG, List.map, List.headD, List.take, List.drop, ↓reduceIte, Nat.reduceEqDiff, Nat.reduceAdd, Nat.reduceSub, Nat.reduceLeDiff, reduceCtorEq, implies_true, ne_eq, ↓asrcV, aggV, Tag.cap, List.replicate, allSolid, GVal.solid, Nat.reduceBEq, Nat.reduceMul, Nat.reduceLT, List.length_map, List.length_range, splice, vcA, ↓vcB, vcC, aggT23, arr23, arr53, els35, els36, els43, elt35, elt36, elt43, fld45_0, fld45_1, notInt23, notInt3, notInt35, notInt36, notInt42, notInt43, notInt45, notInt47, notInt5, notInt55, notInt57, notInt60, notInt9, plc53, tab23, tab3, tab42, tab43, tab5, und23, und3, und35, und36, und4, und42, und43, und47, und49, und5, und53, und55, und57, und60, und9, zer23, zer45, zer53, e5, d0]
        by_cases hne : acc = []
        · have hz : hsG (sortR acc) = [] := by rw [hne]; rfl
          have h0l : acc.length = 0 := by rw [hne]; rfl
          refine hKnown.then ?_ (by rfl)
          simp +contextual -implicitDefEqProofs (maxSteps := 2000000) (disch := omega) only [drawC, ↓lenV, binV, ↓unV, optV, ↓loadV, ↓indexAddrV, ↓buildSliceV, ↓sliceV, ↓appendV, ↓srcV, bound, cutTag, hiTag, fillE, GVal.cells, grp, GVal.ofConst, ↓resV, resG, List.map, List.headD, List.take, List.drop, ↓reduceIte, Nat.reduceEqDiff, Nat.reduceAdd, Nat.reduceSub, Nat.reduceLeDiff, reduceCtorEq, implies_true, ne_eq, ↓asrcV, aggV, Tag.cap, List.replicate, allSolid, GVal.solid, Nat.reduceBEq, Nat.reduceMul, Nat.reduceLT, List.length_map, List.length_range, splice, vcA, ↓vcB, vcC, aggT23, arr23, arr53, els35, els36, els43, elt35, elt36, elt43, fld45_0, fld45_1, notInt23, notInt3, notInt35, notInt36, notInt42, notInt43, notInt45, notInt47, notInt5, notInt55, notInt57, notInt60, notInt9, plc53, tab23, tab3, tab42, tab43, tab5, und23, und3, und35, und36, und4, und42, und43, und47, und49, und5, und53, und55, und57, und60, und9, zer23, zer45, zer53, e5]
          refine (GCalls.borrow (args' := [.slice (hsG acc) .none]) 4 (hSort acc .none (by omega) (by intro e; cases e)) (frzL_one' (frz_own rfl (hsG_len _).symm (frz_hs _ 2 _))) rfl ?_).mono ?_
          · rintro g O' ⟨rfl, rfl⟩
            exact ⟨by rw [hz]; rfl, by simp⟩
          rintro g O'' ⟨g0, O', ⟨rfl, rfl⟩, rfl, rfl⟩
          rw [hz]
          simp +contextual -implicitDefEqProofs (maxSteps := 2000000) (disch := omega) only [drawC, ↓lenV, binV, ↓unV, optV, ↓loadV, ↓indexAddrV, ↓buildSliceV, ↓sliceV, ↓appendV, ↓srcV, bound, cutTag, hiTag, fillE, GVal.cells, grp, GVal.ofConst, ↓resV, resG, List.map, List.headD, List.take, List.drop, ↓reduceIte, Nat.reduceEqDiff, Nat.reduceAdd, Nat.reduceSub, Nat.reduceLeDiff, reduceCtorEq, implies_true, ne_eq, ↓asrcV, aggV, Tag.cap, List.replicate, allSolid, GVal.solid, Nat.reduceBEq, Nat.reduceMul, Nat.reduceLT, List.length_map, List.length_range, splice, vcA, ↓vcB, vcC, aggT23, arr23, arr53, els35, els36, els43, elt35, elt36, elt43, fld45_0, fld45_1, notInt23, notInt3, notInt35, notInt36, notInt42, notInt43, notInt45, notInt47, notInt5, notInt55, notInt57, notInt60, notInt9, plc53, tab23, tab3, tab42, tab43, tab5, und23, und3, und35, und36, und4, und42, und43, und47, und49, und5, und53, und55, und57, und60, und9, zer23, zer45, zer53, e5, GVal.shift, List.append_nil]
          refine (GCalls.borrow (args' := [.slice (hsG []) .none, .slice (hsG acc) .none]) 4 (hSame [] acc .none .none (by simp)) (frzL_two' rfl (frz_own rfl (hsG_len _).symm (frz_hs _ 2 _))) rfl ?_).mono ?_
          · rintro g O' ⟨rfl, rfl⟩
            exact ⟨rfl, by simp⟩
          rintro g O'' ⟨g0, O', ⟨rfl, rfl⟩, rfl, rfl⟩
          rw [decide_eq_true hne.symm]
          simp +contextual -implicitDefEqProofs (maxSteps := 2000000) (disch := omega) only [drawC, ↓lenV, binV, ↓unV, optV, ↓loadV, ↓indexAddrV, ↓buildSliceV, ↓sliceV, ↓appendV, ↓srcV, bound, cutTag, hiTag, fillE, GVal.cells, grp, GVal.ofConst, ↓resV, resG, List.map, List.headD, List.take, List.drop, ↓reduceIte, Nat.reduceEqDiff, Nat.reduceAdd, Nat.reduceSub, Nat.reduceLeDiff, reduceCtorEq, implies_true, ne_eq, ↓asrcV, aggV, Tag.cap, List.replicate, allSolid, GVal.solid, Nat.reduceBEq, Nat.reduceMul, Nat.reduceLT, List.length_map, List.length_range, splice, vcA, ↓vcB, vcC, aggT23, arr23, arr53, els35, els36, els43, elt35, elt36, elt43, fld45_0, fld45_1, notInt23, notInt3, notInt35, notInt36, notInt42, notInt43, notInt45, notInt47, notInt5, notInt55, notInt57, notInt60, notInt9, plc53, tab23, tab3, tab42, tab43, tab5, und23, und3, und35, und36, und4, und42, und43, und47, und49, und5, und53, und55, und57, und60, und9, zer23, zer45, zer53, e5, GVal.shift, List.append_nil, hsG_len]
          refine vcSLoop_by (ι := Unit) (fun _ => ⟨[.slice (ints l) t, .int .i64 n, .any, .any, .any, .own 0 v 0 acc.length, .any, .int .i64 1] ++ List.replicate 124 .any, [.row v 32 (hsG acc)]⟩) (fun _ => 0) ?_ ?_
          · exact Into.first () ⟨[], by simp⟩ (by simp [WL, leG_self, leG_any, leG_int])
          · rintro ⟨⟩
            have d2 : ((1 : Int) < (acc.length : Int)) = False := eq_false (by omega)
            have d5 : ((acc.length : Int) = 0) = True := eq_true (by omega)
            simp +contextual -implicitDefEqProofs (maxSteps := 2000000) (disch := omega) only [drawC, ↓lenV, binV, ↓unV, optV, ↓loadV, ↓indexAddrV, ↓buildSliceV, ↓sliceV, ↓appendV, ↓srcV, bound, cutTag, hiTag, fillE, GVal.cells, grp, GVal.ofConst, ↓resV, resG, List.map, List.headD, List.take, List.drop, ↓reduceIte, Nat.reduceEqDiff, Nat.reduceAdd, Nat.reduceSub, Nat.reduceLeDiff, reduceCtorEq, implies_true, ne_eq, ↓asrcV, aggV, Tag.cap, List.replicate, allSolid, GVal.solid, Nat.reduceBEq, Nat.reduceMul, Nat.reduceLT, List.length_map, List.length_range, splice, vcA, ↓vcB, vcC, aggT23, arr23, arr53, els35, els36, els43, elt35, elt36, elt43, fld45_0, fld45_1, notInt23, notInt3, notInt35, notInt36, notInt42, notInt43, notInt45, notInt47, notInt5, notInt55, notInt57, notInt60, notInt9, plc53, tab23, tab3, tab42, tab43, tab5, und23, und3, und35, und36, und4, und42, und43, und47, und49, und5, und53, und55, und57, und60, und9, zer23, zer45, zer53, e5, d2, d5, hsG_len]
            exact fun hh => (hh trivial).elim
        · have hpos : 0 < acc.length := List.length_pos_iff.2 hne
          refine hKnown.then ?_ (by rfl)
          simp +contextual -implicitDefEqProofs (maxSteps := 2000000) (disch := omega) only [drawC, ↓lenV, binV, ↓unV, optV, ↓loadV, ↓indexAddrV, ↓buildSliceV, ↓sliceV, ↓appendV, ↓srcV, bound, cutTag, hiTag, fillE, GVal.cells, grp, GVal.ofConst, ↓resV, resG, List.map, List.headD, List.take, List.drop, ↓reduceIte, Nat.reduceEqDiff, Nat.reduceAdd, Nat.reduceSub, Nat.reduceLeDiff, reduceCtorEq, implies_true, ne_eq, ↓asrcV, aggV, Tag.cap, List.replicate, allSolid, GVal.solid, Nat.reduceBEq, Nat.reduceMul, Nat.reduceLT, List.length_map, List.length_range, splice, vcA, ↓vcB, vcC, aggT23, arr23, arr53, els35, els36, els43, elt35, elt36, elt43, fld45_0, fld45_1, notInt23, notInt3, notInt35, notInt36, notInt42, notInt43, notInt45, notInt47, notInt5, notInt55, notInt57, notInt60, notInt9, plc53, tab23, tab3, tab42, tab43, tab5, und23, und3, und35, und36, und4, und42, und43, und47, und49, und5, und53, und55, und57, und60, und9, zer23, zer45, zer53, e5]
          refine (GCalls.borrow (args' := [.slice (hsG acc) .none]) 4 (cSortNe acc (by omega) hne) (frzL_one' (frz_own rfl (hsG_len _).symm (frz_hs _ 2 _))) rfl ?_).mono ?_
          · rintro g O' ⟨st, rfl, rfl⟩
            exact ⟨rfl, by simp only [List.mem_singleton]; rintro x rfl; exact flat_hs _ _⟩
          rintro g O'' ⟨g0, O', ⟨st2, rfl, rfl⟩, rfl, rfl⟩
          rw [sortR_self hss]
          simp +contextual -implicitDefEqProofs (maxSteps := 2000000) (disch := omega) only [drawC, ↓lenV, binV, ↓unV, optV, ↓loadV, ↓indexAddrV, ↓buildSliceV, ↓sliceV, ↓appendV, ↓srcV, bound, cutTag, hiTag, fillE, GVal.cells, grp, GVal.ofConst, ↓resV, resG, List.map, List.headD, List.take, List.drop, ↓reduceIte, Nat.reduceEqDiff, Nat.reduceAdd, Nat.reduceSub, Nat.reduceLeDiff, reduceCtorEq, implies_true, ne_eq, ↓asrcV, aggV, Tag.cap, List.replicate, allSolid, GVal.solid, Nat.reduceBEq, Nat.reduceMul, Nat.reduceLT, List.length_map, List.length_range, splice, vcA, ↓vcB, vcC, aggT23, arr23, arr53, els35, els36, els43, elt35, elt36, elt43, fld45_0, fld45_1, notInt23, notInt3, notInt35, notInt36, notInt42, notInt43, notInt45, notInt47, notInt5, notInt55, notInt57, notInt60, notInt9, plc53, tab23, tab3, tab42, tab43, tab5, und23, und3, und35, und36, und4, und42, und43, und47, und49, und5, und53, und55, und57, und60, und9, zer23, zer45, zer53, e5, GVal.shift, List.cons_append, List.nil_append, List.length_cons, List.length_nil, Nat.zero_add]
          refine (GCalls.borrow (args' := [.slice (hsG acc) .none, .slice (hsG acc) .none]) 4 (hSame acc acc .none .none (by omega)) (frzL_two' (frz_own rfl (hsG_len _).symm (frz_hs _ 2 _)) (frz_own rfl (hsG_len _).symm (frz_hs _ 2 _))) rfl ?_).mono ?_
          · rintro g O' ⟨rfl, rfl⟩
            exact ⟨rfl, by simp⟩
          rintro g O'' ⟨g0, O', ⟨rfl, rfl⟩, rfl, rfl⟩
          rw [decide_eq_true rfl]
          simp +contextual -implicitDefEqProofs (maxSteps := 2000000) (disch := omega) only [drawC, ↓lenV, binV, ↓unV, optV, ↓loadV, ↓indexAddrV, ↓buildSliceV, ↓sliceV, ↓appendV, ↓srcV, bound, cutTag, hiTag, fillE, GVal.cells, grp, GVal.ofConst, ↓resV, resG, List.map, List.headD, List.take, List.drop, ↓reduceIte, Nat.reduceEqDiff, Nat.reduceAdd, Nat.reduceSub, Nat.reduceLeDiff, reduceCtorEq, implies_true, ne_eq, ↓asrcV, aggV, Tag.cap, List.replicate, allSolid, GVal.solid, Nat.reduceBEq, Nat.reduceMul, Nat.reduceLT, List.length_map, List.length_range, splice, vcA, ↓vcB, vcC, aggT23, arr23, arr53, els35, els36, els43, elt35, elt36, elt43, fld45_0, fld45_1, notInt23, notInt3, notInt35, notInt36, notInt42, notInt43, notInt45, notInt47, notInt5, notInt55, notInt57, notInt60, notInt9, plc53, tab23, tab3, tab42, tab43, tab5, und23, und3, und35, und36, und4, und42, und43, und47, und49, und5, und53, und55, und57, und60, und9, zer23, zer45, zer53, e5, GVal.shift, List.append_nil, hsG_len]
          refine vcSLoop_by (ι := { q : Nat // 1 ≤ q ∧ q ≤ acc.length }) (fun q => ⟨[.slice (ints l) t, .int .i64 n, .any, .any, .any, .own 0 v 0 acc.length, .any, .int .i64 (q.1 : Nat)] ++ List.replicate 124 .any, [.row v 32 (hsG acc), .row st2 32 (hsG acc)]⟩) (fun q => acc.length - q.1) ?_ ?_
          · exact Into.first ⟨1, by omega, by omega⟩ ⟨[], by simp⟩ (by simp [WL, leG_self, leG_any, leG_int])
          · rintro ⟨q, hq1, hq⟩
            by_cases h2 : q < acc.length
            · have d2 : ((q : Int) < (acc.length : Int)) = True := eq_true (by omega)
              have tn : ((q : Int) - 1).toNat = q - 1 := by omega
              have ea := hsG_at acc (q - 1) (by omega)
              have eb := hsG_at acc q h2
              have hlt := ss_at hss hq1 h2
              obtain ⟨x, ex⟩ : ∃ x, acc.getD (q - 1) h0 = x := ⟨_, rfl⟩
              obtain ⟨y, ey⟩ : ∃ y, acc.getD q h0 = y := ⟨_, rfl⟩
              rw [ex] at ea hlt
              rw [ey] at eb hlt
              simp +contextual -implicitDefEqProofs (maxSteps := 2000000) (disch := omega) only [drawC, ↓lenV, binV, ↓unV, optV, ↓loadV, ↓indexAddrV, ↓buildSliceV, ↓sliceV, ↓appendV, ↓srcV, bound, cutTag, hiTag, fillE, GVal.cells, grp, GVal.ofConst, ↓resV, resG, List.map, List.headD, List.take, List.drop, ↓reduceIte, Nat.reduceEqDiff, Nat.reduceAdd, Nat.reduceSub, Nat.reduceLeDiff, reduceCtorEq, implies_true, ne_eq, ↓asrcV, aggV, Tag.cap, List.replicate, allSolid, GVal.solid, Nat.reduceBEq, Nat.reduceMul, Nat.reduceLT, List.length_map, List.length_range, splice, vcA, ↓vcB, vcC, aggT23, arr23, arr53, els35, els36, els43, elt35, elt36, elt43, fld45_0, fld45_1, notInt23, notInt3, notInt35, notInt36, notInt42, notInt43, notInt45, notInt47, notInt5, notInt55, notInt57, notInt60, notInt9, plc53, tab23, tab3, tab42, tab43, tab5, und23, und3, und35, und36, und4, und42, und43, und47, und49, und5, und53, und55, und57, und60, und9, zer23, zer45, zer53, e5, d2, hsG_len, ea, eb, tn, all_hsG, take32, len32, Nat.zero_add]
              have e1 : ltB x.1 y.1 = true := hlt
              have e2 : ltB y.1 x.1 = false := lt_false hlt
              have e3 : Op.bytesLess (textL x.1) (textL y.1) = true := by rw [less_text (by rw [x.2, y.2]), e1]
              refine ⟨by omega, by omega, by omega, by omega, by omega, by omega, by omega, ?_⟩
              refine (hLess x.1 y.1 x.2 y.2).then ?_ (by rfl)
              rw [e1]
              simp +contextual -implicitDefEqProofs (maxSteps := 2000000) (disch := omega) only [drawC, ↓lenV, binV, ↓unV, optV, ↓loadV, ↓indexAddrV, ↓buildSliceV, ↓sliceV, ↓appendV, ↓srcV, bound, cutTag, hiTag, fillE, GVal.cells, grp, GVal.ofConst, ↓resV, resG, List.map, List.headD, List.take, List.drop, ↓reduceIte, Nat.reduceEqDiff, Nat.reduceAdd, Nat.reduceSub, Nat.reduceLeDiff, reduceCtorEq, implies_true, ne_eq, ↓asrcV, aggV, Tag.cap, List.replicate, allSolid, GVal.solid, Nat.reduceBEq, Nat.reduceMul, Nat.reduceLT, List.length_map, List.length_range, splice, vcA, ↓vcB, vcC, aggT23, arr23, arr53, els35, els36, els43, elt35, elt36, elt43, fld45_0, fld45_1, notInt23, notInt3, notInt35, notInt36, notInt42, notInt43, notInt45, notInt47, notInt5, notInt55, notInt57, notInt60, notInt9, plc53, tab23, tab3, tab42, tab43, tab5, und23, und3, und35, und36, und4, und42, und43, und47, und49, und5, und53, und55, und57, und60, und9, zer23, zer45, zer53, e5, d2, hsG_len, ea, eb, tn, all_hsG, take32, len32, Nat.zero_add]
              refine ⟨by omega, by omega, by omega, by omega, by omega, by omega, by omega, ?_⟩
              refine (hLess y.1 x.1 y.2 x.2).then ?_ (by rfl)
              rw [e2]
              simp +contextual -implicitDefEqProofs (maxSteps := 2000000) (disch := omega) only [drawC, ↓lenV, binV, ↓unV, optV, ↓loadV, ↓indexAddrV, ↓buildSliceV, ↓sliceV, ↓appendV, ↓srcV, bound, cutTag, hiTag, fillE, GVal.cells, grp, GVal.ofConst, ↓resV, resG, List.map, List.headD, List.take, List.drop, ↓reduceIte, Nat.reduceEqDiff, Nat.reduceAdd, Nat.reduceSub, Nat.reduceLeDiff, reduceCtorEq, implies_true, ne_eq, ↓asrcV, aggV, Tag.cap, List.replicate, allSolid, GVal.solid, Nat.reduceBEq, Nat.reduceMul, Nat.reduceLT, List.length_map, List.length_range, splice, vcA, ↓vcB, vcC, aggT23, arr23, arr53, els35, els36, els43, elt35, elt36, elt43, fld45_0, fld45_1, notInt23, notInt3, notInt35, notInt36, notInt42, notInt43, notInt45, notInt47, notInt5, notInt55, notInt57, notInt60, notInt9, plc53, tab23, tab3, tab42, tab43, tab5, und23, und3, und35, und36, und4, und42, und43, und47, und49, und5, und53, und55, und57, und60, und9, zer23, zer45, zer53, e5, d2, hsG_len, ea, eb, tn, all_hsG, take32, len32, Nat.zero_add]
              refine ⟨by omega, by omega, by omega, by omega, by omega, by omega, by omega, ?_⟩
              refine (hText x.1 x.2).then ?_ (by rfl)
              simp +contextual -implicitDefEqProofs (maxSteps := 2000000) (disch := omega) only [drawC, ↓lenV, binV, ↓unV, optV, ↓loadV, ↓indexAddrV, ↓buildSliceV, ↓sliceV, ↓appendV, ↓srcV, bound, cutTag, hiTag, fillE, GVal.cells, grp, GVal.ofConst, ↓resV, resG, List.map, List.headD, List.take, List.drop, ↓reduceIte, Nat.reduceEqDiff, Nat.reduceAdd, Nat.reduceSub, Nat.reduceLeDiff, reduceCtorEq, implies_true, ne_eq, ↓asrcV, aggV, Tag.cap, List.replicate, allSolid, GVal.solid, Nat.reduceBEq, Nat.reduceMul, Nat.reduceLT, List.length_map, List.length_range, splice, vcA, ↓vcB, vcC, aggT23, arr23, arr53, els35, els36, els43, elt35, elt36, elt43, fld45_0, fld45_1, notInt23, notInt3, notInt35, notInt36, notInt42, notInt43, notInt45, notInt47, notInt5, notInt55, notInt57, notInt60, notInt9, plc53, tab23, tab3, tab42, tab43, tab5, und23, und3, und35, und36, und4, und42, und43, und47, und49, und5, und53, und55, und57, und60, und9, zer23, zer45, zer53, e5, d2, hsG_len, ea, eb, tn, all_hsG, take32, len32, Nat.zero_add]
              refine ⟨⟨[], by simp⟩, ?_⟩
              refine (hText y.1 y.2).then ?_ (by rfl)
              simp +contextual -implicitDefEqProofs (maxSteps := 2000000) (disch := omega) only [drawC, ↓lenV, binV, ↓unV, optV, ↓loadV, ↓indexAddrV, ↓buildSliceV, ↓sliceV, ↓appendV, ↓srcV, bound, cutTag, hiTag, fillE, GVal.cells, grp, GVal.ofConst, ↓resV, resG, List.map, List.headD, List.take, List.drop, ↓reduceIte, Nat.reduceEqDiff, Nat.reduceAdd, Nat.reduceSub, Nat.reduceLeDiff, reduceCtorEq, implies_true, ne_eq, ↓asrcV, aggV, Tag.cap, List.replicate, allSolid, GVal.solid, Nat.reduceBEq, Nat.reduceMul, Nat.reduceLT, List.length_map, List.length_range, splice, vcA, ↓vcB, vcC, aggT23, arr23, arr53, els35, els36, els43, elt35, elt36, elt43, fld45_0, fld45_1, notInt23, notInt3, notInt35, notInt36, notInt42, notInt43, notInt45, notInt47, notInt5, notInt55, notInt57, notInt60, notInt9, plc53, tab23, tab3, tab42, tab43, tab5, und23, und3, und35, und36, und4, und42, und43, und47, und49, und5, und53, und55, und57, und60, und9, zer23, zer45, zer53, e5, d2, hsG_len, ea, eb, tn, all_hsG, take32, len32, Nat.zero_add, e3]
              exact Into.at ⟨q + 1, by omega, by omega⟩ (by show _ < _; simp; omega) ⟨[], by simp⟩ (by simp [WL, leG_self, leG_any, leG_int])
            · have d2 : ((q : Int) < (acc.length : Int)) = False := eq_false (by omega)
              have b1 := Int.emod_nonneg n (by omega : (acc.length : Int) ≠ 0)
              have b2 := Int.emod_lt_of_pos n (by omega : (0 : Int) < acc.length)
              simp +contextual -implicitDefEqProofs (maxSteps := 2000000) (disch := omega) only [drawC, ↓lenV, binV, ↓unV, optV, ↓loadV, ↓indexAddrV, ↓buildSliceV, ↓sliceV, ↓appendV, ↓srcV, bound, cutTag, hiTag, fillE, GVal.cells, grp, GVal.ofConst, ↓resV, resG, List.map, List.headD, List.take, List.drop, ↓reduceIte, Nat.reduceEqDiff, Nat.reduceAdd, Nat.reduceSub, Nat.reduceLeDiff, reduceCtorEq, implies_true, ne_eq, ↓asrcV, aggV, Tag.cap, List.replicate, allSolid, GVal.solid, Nat.reduceBEq, Nat.reduceMul, Nat.reduceLT, List.length_map, List.length_range, splice, vcA, ↓vcB, vcC, aggT23, arr23, arr53, els35, els36, els43, elt35, elt36, elt43, fld45_0, fld45_1, notInt23, notInt3, notInt35, notInt36, notInt42, notInt43, notInt45, notInt47, notInt5, notInt55, notInt57, notInt60, notInt9, plc53, tab23, tab3, tab42, tab43, tab5, und23, und3, und35, und36, und4, und42, und43, und47, und49, und5, und53, und55, und57, und60, und9, zer23, zer45, zer53, e5, d2, hsG_len]
              refine fun _ => (sPick n acc.length (by omega) (by omega)).then ?_ (by rfl)
              obtain ⟨p, ep⟩ : ∃ p : Nat, n % (acc.length : Int) = p := ⟨(n % (acc.length : Int)).toNat, by omega⟩
              rw [ep] at b1 b2
              have ea := hsG_at acc p (by omega)
              obtain ⟨x, ex⟩ : ∃ x, acc.getD p h0 = x := ⟨_, rfl⟩
              rw [ex] at ea
              simp +contextual -implicitDefEqProofs (maxSteps := 2000000) (disch := omega) only [drawC, ↓lenV, binV, ↓unV, optV, ↓loadV, ↓indexAddrV, ↓buildSliceV, ↓sliceV, ↓appendV, ↓srcV, bound, cutTag, hiTag, fillE, GVal.cells, grp, GVal.ofConst, ↓resV, resG, List.map, List.headD, List.take, List.drop, ↓reduceIte, Nat.reduceEqDiff, Nat.reduceAdd, Nat.reduceSub, Nat.reduceLeDiff, reduceCtorEq, implies_true, ne_eq, ↓asrcV, aggV, Tag.cap, List.replicate, allSolid, GVal.solid, Nat.reduceBEq, Nat.reduceMul, Nat.reduceLT, List.length_map, List.length_range, splice, vcA, ↓vcB, vcC, aggT23, arr23, arr53, els35, els36, els43, elt35, elt36, elt43, fld45_0, fld45_1, notInt23, notInt3, notInt35, notInt36, notInt42, notInt43, notInt45, notInt47, notInt5, notInt55, notInt57, notInt60, notInt9, plc53, tab23, tab3, tab42, tab43, tab5, und23, und3, und35, und36, und4, und42, und43, und47, und49, und5, und53, und55, und57, und60, und9, zer23, zer45, zer53, e5, d2, hsG_len, ep, ea, all_hsG, take32, len32, Nat.zero_add]
              refine ⟨by omega, by omega, by omega, by omega, ?_⟩
              refine (hText x.1 x.2).then ?_ (by rfl)
              have tx : (textL x.1).length = 64 := by rw [textL_len, x.2]
              simp +contextual -implicitDefEqProofs (maxSteps := 2000000) (disch := omega) only [drawC, ↓lenV, binV, ↓unV, optV, ↓loadV, ↓indexAddrV, ↓buildSliceV, ↓sliceV, ↓appendV, ↓srcV, bound, cutTag, hiTag, fillE, GVal.cells, grp, GVal.ofConst, ↓resV, resG, List.map, List.headD, List.take, List.drop, ↓reduceIte, Nat.reduceEqDiff, Nat.reduceAdd, Nat.reduceSub, Nat.reduceLeDiff, reduceCtorEq, implies_true, ne_eq, ↓asrcV, aggV, Tag.cap, List.replicate, allSolid, GVal.solid, Nat.reduceBEq, Nat.reduceMul, Nat.reduceLT, List.length_map, List.length_range, splice, vcA, ↓vcB, vcC, aggT23, arr23, arr53, els35, els36, els43, elt35, elt36, elt43, fld45_0, fld45_1, notInt23, notInt3, notInt35, notInt36, notInt42, notInt43, notInt45, notInt47, notInt5, notInt55, notInt57, notInt60, notInt9, plc53, tab23, tab3, tab42, tab43, tab5, und23, und3, und35, und36, und4, und42, und43, und47, und49, und5, und53, und55, und57, und60, und9, zer23, zer45, zer53, e5, d2, hsG_len, ep, ea, all_hsG, take32, len32, Nat.zero_add, tx]
              obtain ⟨m, em⟩ : ∃ m, norm IntKind.i64 (n.tdiv 30) = m := ⟨_, rfl⟩
              rw [em]
              have f1 := Int.emod_nonneg m (by decide : (65 : Int) ≠ 0)
              have f2 := Int.emod_lt_of_pos m (by decide : (0 : Int) < 65)
              refine ⟨fun h => h trivial, by omega, ?_⟩
              refine (sPick m 65 (by omega) (by omega)).then ?_ (by rfl)
              obtain ⟨c, ec⟩ : ∃ c : Nat, m % 65 = c := ⟨(m % 65).toNat, by omega⟩
              rw [ec] at f1 f2
              simp +contextual -implicitDefEqProofs (maxSteps := 2000000) (disch := omega) only [drawC, ↓lenV, binV, ↓unV, optV, ↓loadV, ↓indexAddrV, ↓buildSliceV, ↓sliceV, ↓appendV, ↓srcV, bound, cutTag, hiTag, fillE, GVal.cells, grp, GVal.ofConst, ↓resV, resG, List.map, List.headD, List.take, List.drop, ↓reduceIte, Nat.reduceEqDiff, Nat.reduceAdd, Nat.reduceSub, Nat.reduceLeDiff, reduceCtorEq, implies_true, ne_eq, ↓asrcV, aggV, Tag.cap, List.replicate, allSolid, GVal.solid, Nat.reduceBEq, Nat.reduceMul, Nat.reduceLT, List.length_map, List.length_range, splice, vcA, ↓vcB, vcC, aggT23, arr23, arr53, els35, els36, els43, elt35, elt36, elt43, fld45_0, fld45_1, notInt23, notInt3, notInt35, notInt36, notInt42, notInt43, notInt45, notInt47, notInt5, notInt55, notInt57, notInt60, notInt9, plc53, tab23, tab3, tab42, tab43, tab5, und23, und3, und35, und36, und4, und42, und43, und47, und49, und5, und53, und55, und57, und60, und9, zer23, zer45, zer53, e5, d2, hsG_len, ep, ea, all_hsG, take32, len32, Nat.zero_add, tx, ec]
              refine ⟨by omega, by omega, by omega, ?_⟩
              obtain ⟨S, eS⟩ : ∃ S, List.drop (Int.toNat 0) (List.take c (textL x.1)) = S := ⟨_, rfl⟩
              have hS : S.length ≤ 9223372036854775807 := by rw [← eS, List.length_drop, List.length_take, tx]; omega
              have hB : begB S x = true := by rw [← eS]; exact begins_self
              rw [eS]
              refine vcSLoop_by (ι := { i : Nat // i ≤ acc.length }) (fun i => ⟨[.slice (ints l) t, .int .i64 n, .any, .any, .any, .own 0 v 0 acc.length, .any, .any, .str S, .int .i64 (cntI (anyB S acc i.1)), .int .i64 (i.1 : Nat)] ++ List.replicate 121 .any, [.row v 32 (hsG acc), .row st2 32 (hsG acc)]⟩) (fun i => acc.length - i.1) ?_ ?_
              · exact Into.first ⟨0, by omega⟩ ⟨[], by simp⟩ (by simp [WL, leG_self, leG_any, leG_int, anyB_zero, cntI])
              · rintro ⟨i, hi⟩
                by_cases h3 : i < acc.length
                · have d3 : ((i : Int) < (acc.length : Int)) = True := eq_true (by omega)
                  have tn3 : ((i : Int) - 1).toNat = i - 1 := by omega
                  have ea3 := hsG_at acc i h3
                  have sx := anyB_succ (S := S) h3
                  have pv := fun hi1 : 1 ≤ i => anyB_prev (S := S) hi1 h3
                  have nw := fun (hi1 : 1 ≤ i) => anyB_new (S := S) hss hi1 h3
                  obtain ⟨y, ey⟩ : ∃ y, acc.getD i h0 = y := ⟨_, rfl⟩
                  obtain ⟨w, ew⟩ : ∃ w, cntI (anyB S acc i) = w := ⟨_, rfl⟩
                  have hw : 0 ≤ w ∧ w ≤ 1 := by rw [← ew]; cases anyB S acc i <;> simp [cntI]
                  rw [ey] at ea3 sx nw
                  rw [ew]
                  simp +contextual -implicitDefEqProofs (maxSteps := 2000000) (disch := omega) only [drawC, ↓lenV, binV, ↓unV, optV, ↓loadV, ↓indexAddrV, ↓buildSliceV, ↓sliceV, ↓appendV, ↓srcV, bound, cutTag, hiTag, fillE, GVal.cells, grp, GVal.ofConst, ↓resV, resG, List.map, List.headD, List.take, List.drop, ↓reduceIte, Nat.reduceEqDiff, Nat.reduceAdd, Nat.reduceSub, Nat.reduceLeDiff, reduceCtorEq, implies_true, ne_eq, ↓asrcV, aggV, Tag.cap, List.replicate, allSolid, GVal.solid, Nat.reduceBEq, Nat.reduceMul, Nat.reduceLT, List.length_map, List.length_range, splice, vcA, ↓vcB, vcC, aggT23, arr23, arr53, els35, els36, els43, elt35, elt36, elt43, fld45_0, fld45_1, notInt23, notInt3, notInt35, notInt36, notInt42, notInt43, notInt45, notInt47, notInt5, notInt55, notInt57, notInt60, notInt9, plc53, tab23, tab3, tab42, tab43, tab5, und23, und3, und35, und36, und4, und42, und43, und47, und49, und5, und53, und55, und57, und60, und9, zer23, zer45, zer53, e5, d3, hsG_len, ea3, all_hsG, take32, len32, Nat.zero_add]
                  refine ⟨by omega, by omega, by omega, ?_⟩
                  refine (hBeg hS y).then ?_ (by rfl)
                  cases eb : begB S y with
                  | false =>
                    have e9 : cntI (anyB S acc (i + 1)) = w := by rw [sx, eb, Bool.or_false, ew]
                    simp +contextual -implicitDefEqProofs (maxSteps := 2000000) (disch := omega) only [drawC, ↓lenV, binV, ↓unV, optV, ↓loadV, ↓indexAddrV, ↓buildSliceV, ↓sliceV, ↓appendV, ↓srcV, bound, cutTag, hiTag, fillE, GVal.cells, grp, GVal.ofConst, ↓resV, resG, List.map, List.headD, List.take, List.drop, ↓reduceIte, Nat.reduceEqDiff, Nat.reduceAdd, Nat.reduceSub, Nat.reduceLeDiff, reduceCtorEq, implies_true, ne_eq, ↓asrcV, aggV, Tag.cap, List.replicate, allSolid, GVal.solid, Nat.reduceBEq, Nat.reduceMul, Nat.reduceLT, List.length_map, List.length_range, splice, vcA, ↓vcB, vcC, aggT23, arr23, arr53, els35, els36, els43, elt35, elt36, elt43, fld45_0, fld45_1, notInt23, notInt3, notInt35, notInt36, notInt42, notInt43, notInt45, notInt47, notInt5, notInt55, notInt57, notInt60, notInt9, plc53, tab23, tab3, tab42, tab43, tab5, und23, und3, und35, und36, und4, und42, und43, und47, und49, und5, und53, und55, und57, und60, und9, zer23, zer45, zer53, e5, d3, hsG_len, ea3, all_hsG, take32, len32, Nat.zero_add]
                    exact Into.at ⟨i + 1, by omega⟩ (by show _ < _; simp; omega) ⟨[], by simp⟩ (by simp [WL, leG_self, leG_any, leG_int, e9])
                  | true =>
                    by_cases h4 : i = 0
                    · have d4 : ((i : Int) = 0) = True := eq_true (by omega)
                      have e9 : cntI (anyB S acc (i + 1)) = w + 1 := by
                        rw [sx, eb, Bool.or_true, ← ew, h4, anyB_zero]; rfl
                      simp +contextual -implicitDefEqProofs (maxSteps := 2000000) (disch := omega) only [drawC, ↓lenV, binV, ↓unV, optV, ↓loadV, ↓indexAddrV, ↓buildSliceV, ↓sliceV, ↓appendV, ↓srcV, bound, cutTag, hiTag, fillE, GVal.cells, grp, GVal.ofConst, ↓resV, resG, List.map, List.headD, List.take, List.drop, ↓reduceIte, Nat.reduceEqDiff, Nat.reduceAdd, Nat.reduceSub, Nat.reduceLeDiff, reduceCtorEq, implies_true, ne_eq, ↓asrcV, aggV, Tag.cap, List.replicate, allSolid, GVal.solid, Nat.reduceBEq, Nat.reduceMul, Nat.reduceLT, List.length_map, List.length_range, splice, vcA, ↓vcB, vcC, aggT23, arr23, arr53, els35, els36, els43, elt35, elt36, elt43, fld45_0, fld45_1, notInt23, notInt3, notInt35, notInt36, notInt42, notInt43, notInt45, notInt47, notInt5, notInt55, notInt57, notInt60, notInt9, plc53, tab23, tab3, tab42, tab43, tab5, und23, und3, und35, und36, und4, und42, und43, und47, und49, und5, und53, und55, und57, und60, und9, zer23, zer45, zer53, e5, d3, d4, hsG_len, ea3, all_hsG, take32, len32, Nat.zero_add]
                      refine ⟨?_, fun hh => (hh trivial).elim⟩
                      exact Into.at ⟨i + 1, by omega⟩ (by show _ < _; simp; omega) ⟨[], by simp⟩ (by simp [WL, leG_self, leG_any, leG_int, e9])
                    · have d4 : ((i : Int) = 0) = False := eq_false (by omega)
                      have ea4 := hsG_at acc (i - 1) (by omega)
                      have nw1 := nw (by omega) eb
                      have pv1 := pv (by omega)
                      obtain ⟨z, ez⟩ : ∃ z, acc.getD (i - 1) h0 = z := ⟨_, rfl⟩
                      rw [ez] at ea4 nw1 pv1
                      simp +contextual -implicitDefEqProofs (maxSteps := 2000000) (disch := omega) only [drawC, ↓lenV, binV, ↓unV, optV, ↓loadV, ↓indexAddrV, ↓buildSliceV, ↓sliceV, ↓appendV, ↓srcV, bound, cutTag, hiTag, fillE, GVal.cells, grp, GVal.ofConst, ↓resV, resG, List.map, List.headD, List.take, List.drop, ↓reduceIte, Nat.reduceEqDiff, Nat.reduceAdd, Nat.reduceSub, Nat.reduceLeDiff, reduceCtorEq, implies_true, ne_eq, ↓asrcV, aggV, Tag.cap, List.replicate, allSolid, GVal.solid, Nat.reduceBEq, Nat.reduceMul, Nat.reduceLT, List.length_map, List.length_range, splice, vcA, ↓vcB, vcC, aggT23, arr23, arr53, els35, els36, els43, elt35, elt36, elt43, fld45_0, fld45_1, notInt23, notInt3, notInt35, notInt36, notInt42, notInt43, notInt45, notInt47, notInt5, notInt55, notInt57, notInt60, notInt9, plc53, tab23, tab3, tab42, tab43, tab5, und23, und3, und35, und36, und4, und42, und43, und47, und49, und5, und53, und55, und57, und60, und9, zer23, zer45, zer53, e5, d3, d4, hsG_len, ea3, ea4, tn3, all_hsG, take32, len32, Nat.zero_add]
                      refine ⟨by omega, by omega, by omega, by omega, ?_⟩
                      refine (hBeg hS z).then ?_ (by rfl)
                      cases ec2 : begB S z with
                      | false =>
                        have e9 : cntI (anyB S acc (i + 1)) = w + 1 := by
                          rw [sx, eb, Bool.or_true, ← ew, nw1 ec2]; rfl
                        simp +contextual -implicitDefEqProofs (maxSteps := 2000000) (disch := omega) only [drawC, ↓lenV, binV, ↓unV, optV, ↓loadV, ↓indexAddrV, ↓buildSliceV, ↓sliceV, ↓appendV, ↓srcV, bound, cutTag, hiTag, fillE, GVal.cells, grp, GVal.ofConst, ↓resV, resG, List.map, List.headD, List.take, List.drop, ↓reduceIte, Nat.reduceEqDiff, Nat.reduceAdd, Nat.reduceSub, Nat.reduceLeDiff, reduceCtorEq, implies_true, ne_eq, ↓asrcV, aggV, Tag.cap, List.replicate, allSolid, GVal.solid, Nat.reduceBEq, Nat.reduceMul, Nat.reduceLT, List.length_map, List.length_range, splice, vcA, ↓vcB, vcC, aggT23, arr23, arr53, els35, els36, els43, elt35, elt36, elt43, fld45_0, fld45_1, notInt23, notInt3, notInt35, notInt36, notInt42, notInt43, notInt45, notInt47, notInt5, notInt55, notInt57, notInt60, notInt9, plc53, tab23, tab3, tab42, tab43, tab5, und23, und3, und35, und36, und4, und42, und43, und47, und49, und5, und53, und55, und57, und60, und9, zer23, zer45, zer53, e5, d3, d4, hsG_len, ea3, ea4, tn3, all_hsG, take32, len32, Nat.zero_add]
                        exact Into.at ⟨i + 1, by omega⟩ (by show _ < _; simp; omega) ⟨[], by simp⟩ (by simp [WL, leG_self, leG_any, leG_int, e9])
                      | true =>
                        have e9 : cntI (anyB S acc (i + 1)) = w := by
                          rw [sx, eb, Bool.or_true, ← ew, pv1 ec2]
                        simp +contextual -implicitDefEqProofs (maxSteps := 2000000) (disch := omega) only [drawC, ↓lenV, binV, ↓unV, optV, ↓loadV, ↓indexAddrV, ↓buildSliceV, ↓sliceV, ↓appendV, ↓srcV, bound, cutTag, hiTag, fillE, GVal.cells, grp, GVal.ofConst, ↓resV, resG, List.map, List.headD, List.take, List.drop, ↓reduceIte, Nat.reduceEqDiff, Nat.reduceAdd, Nat.reduceSub, Nat.reduceLeDiff, reduceCtorEq, implies_true, ne_eq, ↓asrcV, aggV, Tag.cap, List.replicate, allSolid, GVal.solid, Nat.reduceBEq, Nat.reduceMul, Nat.reduceLT, List.length_map, List.length_range, splice, vcA, ↓vcB, vcC, aggT23, arr23, arr53, els35, els36, els43, elt35, elt36, elt43, fld45_0, fld45_1, notInt23, notInt3, notInt35, notInt36, notInt42, notInt43, notInt45, notInt47, notInt5, notInt55, notInt57, notInt60, notInt9, plc53, tab23, tab3, tab42, tab43, tab5, und23, und3, und35, und36, und4, und42, und43, und47, und49, und5, und53, und55, und57, und60, und9, zer23, zer45, zer53, e5, d3, d4, hsG_len, ea3, ea4, tn3, all_hsG, take32, len32, Nat.zero_add]
                        exact Into.at ⟨i + 1, by omega⟩ (by show _ < _; simp; omega) ⟨[], by simp⟩ (by simp [WL, leG_self, leG_any, leG_int, e9])
                · have d3 : ((i : Int) < (acc.length : Int)) = False := eq_false (by omega)
                  have ei : i = acc.length := by omega
                  have e9 : cntI (anyB S acc i) = 1 := by rw [ei, anyB_all (p := p) (by omega) (by rw [ex]; exact hB)]; rfl
                  rw [e9]
                  simp +contextual -implicitDefEqProofs (maxSteps := 2000000) (disch := omega) only [drawC, ↓lenV, binV, ↓unV, optV, ↓loadV, ↓indexAddrV, ↓buildSliceV, ↓sliceV, ↓appendV, ↓srcV, bound, cutTag, hiTag, fillE, GVal.cells, grp, GVal.ofConst, ↓resV, resG, List.map, List.headD, List.take, List.drop, ↓reduceIte, Nat.reduceEqDiff, Nat.reduceAdd, Nat.reduceSub, Nat.reduceLeDiff, reduceCtorEq, implies_true, ne_eq, ↓asrcV, aggV, Tag.cap, List.replicate, allSolid, GVal.solid, Nat.reduceBEq, Nat.reduceMul, Nat.reduceLT, List.length_map, List.length_range, splice, vcA, ↓vcB, vcC, aggT23, arr23, arr53, els35, els36, els43, elt35, elt36, elt43, fld45_0, fld45_1, notInt23, notInt3, notInt35, notInt36, notInt42, notInt43, notInt45, notInt47, notInt5, notInt55, notInt57, notInt60, notInt9, plc53, tab23, tab3, tab42, tab43, tab5, und23, und3, und35, und36, und4, und42, und43, und47, und49, und5, und53, und55, und57, und60, und9, zer23, zer45, zer53, e5, d3, hsG_len]
end Gv.Try
