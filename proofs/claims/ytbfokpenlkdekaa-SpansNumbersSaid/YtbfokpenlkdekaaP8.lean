import Derived.Test.YtbfokpenlkdekaaP6
import Derived.Test.YtbfokpenlkdekaaProg
import Derived.KernelRfl
import Derived.Test.YtbfokpenlkdekaaP7
import Derived.Test.YtbfokpenlkdekaaSlimSpc
import Derived.Shelf.SlSortCmp.WholeK
import Derived.Shelf.SlicesG.Cmp
set_option maxRecDepth 100000
set_option linter.defProp false
namespace Gv.Try
open Go Gv Go.Proofs
theorem aggT29 : aggT Try.prog 29 = (some [(.int), (.int)]) := by kernel_rfl
theorem els22 : els Try.prog 22 = (some (1, false)) := by kernel_rfl
theorem els23 : els Try.prog 23 = (some (2, true)) := by kernel_rfl
theorem els56 : els Try.prog 56 = (some (1, false)) := by kernel_rfl
theorem elt22 : elt Try.prog 22 = (some (1, (8, [(.int (.i64) 0)]))) := by kernel_rfl
theorem elt23 : elt Try.prog 23 = (some (2, (16, [(.int (.i64) 0), (.int (.i64) 0)]))) := by kernel_rfl
theorem elt56 : elt Try.prog 56 = (some (1, (24, [(.slice [] (.nil))]))) := by kernel_rfl
theorem fld29_0 : fld Try.prog 29 0 = (some (0, (1, false))) := by kernel_rfl
theorem fld29_1 : fld Try.prog 29 1 = (some (1, (1, false))) := by kernel_rfl
theorem notInt22 : notInt Try.prog 22 = true := by kernel_rfl
theorem notInt23 : notInt Try.prog 23 = true := by kernel_rfl
theorem notInt29 : notInt Try.prog 29 = false := by kernel_rfl
theorem notInt3 : notInt Try.prog 3 = false := by kernel_rfl
theorem notInt4 : notInt Try.prog 4 = false := by kernel_rfl
theorem notInt48 : notInt Try.prog 48 = false := by kernel_rfl
theorem notInt53 : notInt Try.prog 53 = false := by kernel_rfl
theorem notInt56 : notInt Try.prog 56 = true := by kernel_rfl
theorem plc29 : plc Try.prog 29 = (some (.inl [(0, 1), (1, 1)])) := by kernel_rfl
theorem tab23 : tab Try.prog 23 = (some (1, false)) := by kernel_rfl
theorem tab29 : tab Try.prog 29 = (some (2, true)) := by kernel_rfl
theorem tab3 : tab Try.prog 3 = (some (1, false)) := by kernel_rfl
theorem und22 : Go.Program.underlying Try.prog 22 = (some (.slice 3)) := by kernel_rfl
theorem und23 : Go.Program.underlying Try.prog 23 = (some (.slice 29)) := by kernel_rfl
theorem und3 : Go.Program.underlying Try.prog 3 = (some (.int (.i64))) := by kernel_rfl
theorem und4 : Go.Program.underlying Try.prog 4 = (some (.bool)) := by kernel_rfl
theorem und48 : Go.Program.underlying Try.prog 48 = (some (.func #[29, 29] #[3] false)) := by kernel_rfl
theorem und53 : Go.Program.underlying Try.prog 53 = (some (.func #[29] #[4] false)) := by kernel_rfl
theorem und56 : Go.Program.underlying Try.prog 56 = (some (.slice 23)) := by kernel_rfl
theorem und9 : Go.Program.underlying Try.prog 9 = (some (.string)) := by kernel_rfl
theorem zer29 : zer Try.prog 29 = (some [(.int (.i64) 0), (.int (.i64) 0)]) := by kernel_rfl
def fbSpc := And.intro aggT29 <| And.intro els22 <| And.intro els23 <| And.intro els56 <| And.intro elt22 <| And.intro elt23 <| And.intro elt56 <| And.intro fld29_0 <| And.intro fld29_1 <| And.intro notInt22 <| And.intro notInt23 <| And.intro notInt29 <| And.intro notInt3 <| And.intro notInt4 <| And.intro notInt48 <| And.intro notInt53 <| And.intro notInt56 <| And.intro plc29 <| And.intro tab23 <| And.intro tab29 <| And.intro tab3 <| And.intro und22 <| And.intro und23 <| And.intro und3 <| And.intro und4 <| And.intro und48 <| And.intro und53 <| And.intro und56 <| And.intro und9 <| zer29
end Gv.Try
/- Contracts: small functions over spans. -/
set_option linter.unusedVariables false
set_option linter.unusedSimpArgs false
namespace Gv.Try
open Go Gv Go.Proofs
theorem mixS : Try.prog.follows .mixedOrders = true := by kernel_rfl

theorem sBeyond (s x : Sp.S) (h1 : -9223372036854775808 ≤ s.1 ∧ s.1 ≤ 9223372036854775807) (h2 : -9223372036854775808 ≤ x.2 ∧ x.2 ≤ 9223372036854775807) :
    GPure Try.prog 45 [.agg (spG s), .agg (spG x)] (.bool (decide (x.2 + 1 < s.1))) := by
  refine h45.pure mixS (by simp) ?_
  simp only [gstart, s45, List.cons_append, List.nil_append, List.length_cons, List.length_nil, Nat.reduceAdd, Nat.reduceSub, List.replicate_succ, List.replicate_zero]
  unfold spG
  simp +contextual -implicitDefEqProofs (maxSteps := 2000000) (disch := omega) only [binV, ↓loadV, ↓fieldAddrV, ↓boxV, GVal.cells, grp, GVal.ofConst, ↓resV, resG, List.map, List.headD, List.take, List.drop, ↓reduceIte, Nat.reduceEqDiff, Nat.reduceAdd, Nat.reduceSub, Nat.reduceLeDiff, reduceCtorEq, implies_true, ne_eq, Tag.cap, List.replicate, allSolid, GVal.solid, Nat.reduceBEq, Nat.reduceMul, Nat.reduceLT, List.length_map, List.length_range, splice, vcA, ↓vcB, vcC, fbSpc, e45]
  trace_state
  exact ⟨fun h => by simp; omega, fun h => by simp; omega⟩

theorem sSize (s : Sp.S) (h1 : 0 ≤ s.1 ∧ s.1 ≤ s.2 ∧ s.2 ≤ 9223372036854775807) :
    GPure Try.prog 47 [.agg (spG s)] (.int .i64 (min 9223372036854775807 (s.2 - s.1 + 1))) := by
  refine h47.pure mixS (by simp) ?_
  simp only [gstart, s47, List.cons_append, List.nil_append, List.length_cons, List.length_nil, Nat.reduceAdd, Nat.reduceSub, List.replicate_succ, List.replicate_zero]
  unfold spG
  simp +contextual -implicitDefEqProofs (maxSteps := 2000000) (disch := omega) only [binV, ↓loadV, ↓fieldAddrV, ↓boxV, GVal.cells, grp, GVal.ofConst, ↓resV, resG, List.map, List.headD, List.take, List.drop, ↓reduceIte, Nat.reduceEqDiff, Nat.reduceAdd, Nat.reduceSub, Nat.reduceLeDiff, reduceCtorEq, implies_true, ne_eq, aggV, Tag.cap, List.replicate, allSolid, GVal.solid, Nat.reduceBEq, Nat.reduceMul, Nat.reduceLT, List.length_map, List.length_range, splice, vcA, ↓vcB, vcC, fbSpc, e47]
  exact ⟨by omega, by omega⟩

theorem tmod_pick (n m : Int) (hm : 0 < m) : (n.tmod m < 0 → n.tmod m + m = n % m) ∧ (0 ≤ n.tmod m → n.tmod m = n % m) := by
  have h := Int.tmod_eq_emod (a := n) (b := m)
  have h1 := Int.emod_nonneg n (by omega : m ≠ 0)
  have h2 := Int.emod_lt_of_pos n hm
  split at h <;> rename_i h3
  · simp at h; omega
  · have : m ∣ n ↔ n % m = 0 := Int.dvd_iff_emod_eq_zero
    have : n % m ≠ 0 := fun e => h3 (.inr (this.2 e))
    omega

theorem sPick (n m : Int) (hm : 0 < m) (hm2 : m ≤ 1000000000) : GPure Try.prog 27 [.int .i64 n, .int .i64 m] (.int .i64 (n % m)) := by
  refine h27.pure mixS (by simp) ?_
  simp only [gstart, s27, List.cons_append, List.nil_append, List.length_cons, List.length_nil, Nat.reduceAdd, Nat.reduceSub, List.replicate_succ, List.replicate_zero]
  simp +contextual -implicitDefEqProofs (maxSteps := 2000000) (disch := omega) only [binV, GVal.cells, grp, GVal.ofConst, ↓resV, resG, List.map, List.headD, List.take, List.drop, ↓reduceIte, Nat.reduceEqDiff, Nat.reduceAdd, Nat.reduceSub, Nat.reduceLeDiff, reduceCtorEq, implies_true, ne_eq, Tag.cap, List.replicate, allSolid, GVal.solid, Nat.reduceBEq, Nat.reduceMul, Nat.reduceLT, List.length_map, List.length_range, splice, vcA, ↓vcB, vcC, fbSpc, e27]
  obtain ⟨h1, h2⟩ := tmod_pick n m hm
  have h3 := Int.emod_nonneg n (by omega : m ≠ 0)
  have h4 := Int.emod_lt_of_pos n hm
  exact ⟨by omega, fun h => by rw [h1 h, norm_i64 (by omega)], h2⟩
end Gv.Try
/- Contracts: tests over spans; the law's set. -/
set_option linter.unusedVariables false
set_option linter.unusedSimpArgs false
set_option maxRecDepth 20000
set_option maxHeartbeats 4000000
namespace Gv.Try
open Go Gv Go.Proofs

def rightB : Int → List Sp.S → Bool
  | _, [] => true
  | b, s :: r => decide (b ≤ s.1) && (decide (s.1 ≤ s.2) && rightB (s.2 + 2) r)
theorem rightB_iff : ∀ (l : List Sp.S) (b : Int), rightB b l = true ↔ Sp.Rt b l
  | [], b => by simp [rightB, Sp.Rt]
  | s :: r, b => by simp [rightB, Sp.Rt, rightB_iff r]
def bnd (l : List Sp.S) (k : Nat) : Int := if k = 0 then 0 else (l.getD (k - 1) (0, 0)).2 + 2
theorem rightB_step (l : List Sp.S) (k : Nat) (h : k < l.length) : rightB (bnd l k) (l.drop k) = (decide (bnd l k ≤ (l.getD k (0, 0)).1) && (decide ((l.getD k (0, 0)).1 ≤ (l.getD k (0, 0)).2) && rightB (bnd l (k + 1)) (l.drop (k + 1)))) := by
  rw [drop_getD h]; rfl

theorem toNat_pred (n : Nat) : ((n : Int) - 1).toNat = n - 1 := by omega
theorem cellsEq_pair (a b c d : Int) : cellsEq [Sk.int, Sk.int] [.int .i64 a, .int .i64 b] [.int .i64 c, .int .i64 d] = some (decide (a = c) && decide (b = d)) := by
  simp only [cellsEq, ceq, if_true, Bool.and_true]; rfl

theorem sRight (l : List Sp.S) (t : Tag) (hl : l.length ≤ 17592186044416) (ho : Sp.Ok l) : GPure Try.prog 17 [.slice (spl l) t] (.bool (rightB 0 l)) := by
  refine h17.pure mixS (by simp) ?_
  simp only [gstart, s17, List.cons_append, List.nil_append, List.length_cons, List.length_nil, Nat.reduceAdd, Nat.reduceSub, List.replicate_succ, List.replicate_zero]
  simp +contextual -implicitDefEqProofs (maxSteps := 2000000) (disch := omega) only [drawC, ↓lenV, binV, ↓unV, ↓loadV, ↓storeV, ↓fieldAddrV, ↓indexAddrV, ↓allocV, GVal.cells, grp, GVal.ofConst, ↓resV, resG, List.map, List.headD, List.take, List.drop, ↓reduceIte, Nat.reduceEqDiff, Nat.reduceAdd, Nat.reduceSub, Nat.reduceLeDiff, reduceCtorEq, implies_true, ne_eq, Tag.cap, List.replicate, allSolid, GVal.solid, Nat.reduceBEq, Nat.reduceMul, Nat.reduceLT, List.length_map, List.length_range, splice, vcA, ↓vcB, vcC, fbSpc, e17, spl_length]
  refine vcSLoop_by (ι := { k : Nat // k ≤ l.length ∧ 0 ≤ bnd l k ∧ rightB 0 l = rightB (bnd l k) (l.drop k) }) (fun k => ⟨[.slice (spl l) t, .any, .any, .any, .any, .slice (spl l) t, .int .i64 l.length, .int .i64 (k.1 : Nat)] ++ List.replicate 29 .any, []⟩) (fun k => l.length - k.1) ?_ ?_
  · exact Into.first ⟨0, by omega, by simp [bnd], by simp [bnd]⟩ ⟨[], by simp⟩ (by simp [WL, leG_self, leG_any])
  · rintro ⟨k, hk, hb, hr⟩
    by_cases h : k < l.length
    · have d0 : ((k : Int) < (l.length : Int)) = True := eq_true (by omega)
      have eS := spl_at l k h
      have hs := ho.at k
      have hs' := ho.at (k - 1)
      have eP := fun h' => spl_at l (k - 1) h'
      rw [rightB_step l k h] at hr
      have hbn : k ≠ 0 → bnd l k = (l.getD (k - 1) (0, 0)).2 + 2 := fun e => by simp [bnd, e]
      have hb0 : k = 0 → bnd l k = 0 := fun e => by simp [bnd, e]
      have hbs : bnd l (k + 1) = (l.getD k (0, 0)).2 + 2 := by simp [bnd]
      generalize l.getD k (0, 0) = s at *
      generalize l.getD (k - 1) (0, 0) = x at *
      simp +contextual -implicitDefEqProofs (maxSteps := 2000000) (disch := omega) only [drawC, ↓lenV, binV, ↓unV, ↓loadV, ↓storeV, ↓fieldAddrV, ↓indexAddrV, ↓allocV, GVal.cells, grp, GVal.ofConst, ↓resV, resG, List.map, List.headD, List.take, List.drop, ↓reduceIte, Nat.reduceEqDiff, Nat.reduceAdd, Nat.reduceSub, Nat.reduceLeDiff, reduceCtorEq, implies_true, ne_eq, Tag.cap, List.replicate, allSolid, GVal.solid, Nat.reduceBEq, Nat.reduceMul, Nat.reduceLT, List.length_map, List.length_range, splice, vcA, ↓vcB, vcC, fbSpc, e17, spl_length, d0, eS, eP, spG, toNat_pred]
      refine ⟨by omega, fun st => ⟨fun h1 => ?_, fun h1 => ⟨fun h2 => ?_, fun h2 => ⟨fun h3 => ?_, fun h3 => ?_⟩⟩⟩⟩
      · rw [hr, decide_eq_false (p := bnd l k ≤ s.1) (by omega)]; rfl
      · rw [hr, decide_eq_false (p := s.1 ≤ s.2) (by omega)]; simp
      · refine ⟨by omega, by omega, ?_⟩
        refine (sBeyond s x (by omega) (by omega)).then ?_ (by rfl)
        simp +contextual -implicitDefEqProofs (maxSteps := 2000000) (disch := omega) only [drawC, ↓lenV, binV, ↓unV, ↓loadV, ↓storeV, ↓fieldAddrV, ↓indexAddrV, ↓allocV, GVal.cells, grp, GVal.ofConst, ↓resV, resG, List.map, List.headD, List.take, List.drop, ↓reduceIte, Nat.reduceEqDiff, Nat.reduceAdd, Nat.reduceSub, Nat.reduceLeDiff, reduceCtorEq, implies_true, ne_eq, Tag.cap, List.replicate, allSolid, GVal.solid, Nat.reduceBEq, Nat.reduceMul, Nat.reduceLT, List.length_map, List.length_range, splice, vcA, ↓vcB, vcC, fbSpc, e17]
        have hb' := hbn (by omega)
        refine ⟨fun h4 => ?_, fun h4 => ?_⟩
        · rw [decide_eq_true (p := bnd l k ≤ s.1) (by omega), decide_eq_true (p := s.1 ≤ s.2) h2, Bool.true_and, Bool.true_and] at hr
          exact Into.at ⟨k + 1, by omega, by omega, hr⟩ (by show _ < _; simp; omega) ⟨[.row st 2 [[.int .i64 s.1, .int .i64 s.2]]], by simp⟩ (by simp [WL, leG_self, leG_any])
        · rw [hr, decide_eq_false (p := bnd l k ≤ s.1) (by omega)]; rfl
      · have e0 : k = 0 := by omega
        rw [hb0 e0, decide_eq_true (p := (0 : Int) ≤ s.1) h1, decide_eq_true (p := s.1 ≤ s.2) h2, Bool.true_and, Bool.true_and] at hr
        exact Into.at ⟨k + 1, by omega, by omega, hr⟩ (by show _ < _; simp; omega) ⟨[.row st 2 [[.int .i64 s.1, .int .i64 s.2]]], by simp⟩ (by simp [WL, leG_self, leG_any])
    · have hk' : k = l.length := by omega
      subst hk'
      have d0 : ((l.length : Int) < (l.length : Int)) = False := eq_false (by omega)
      simp +contextual -implicitDefEqProofs (maxSteps := 2000000) (disch := omega) only [drawC, ↓lenV, binV, ↓unV, ↓loadV, ↓storeV, ↓fieldAddrV, ↓indexAddrV, ↓allocV, GVal.cells, grp, GVal.ofConst, ↓resV, resG, List.map, List.headD, List.take, List.drop, ↓reduceIte, Nat.reduceEqDiff, Nat.reduceAdd, Nat.reduceSub, Nat.reduceLeDiff, reduceCtorEq, implies_true, ne_eq, Tag.cap, List.replicate, allSolid, GVal.solid, Nat.reduceBEq, Nat.reduceMul, Nat.reduceLT, List.length_map, List.length_range, splice, vcA, ↓vcB, vcC, fbSpc, e17, spl_length, d0, false_imp_iff, true_and, Int.le_refl, true_imp_iff]
      rw [hr, List.drop_length]; rfl

theorem sSameSpans (a b : List Sp.S) (ta tb : Tag) (ha : a.length ≤ 17592186044416) : GPure Try.prog 13 [.slice (spl a) ta, .slice (spl b) tb] (.bool (decide (a = b))) := by
  refine h13.pure mixS (by simp) ?_
  simp only [gstart, s13, List.cons_append, List.nil_append, List.length_cons, List.length_nil, Nat.reduceAdd, Nat.reduceSub, List.replicate_succ, List.replicate_zero]
  simp +contextual -implicitDefEqProofs (maxSteps := 2000000) (disch := omega) only [drawC, ↓lenV, binV, ↓loadV, ↓indexAddrV, GVal.cells, grp, GVal.ofConst, ↓resV, resG, List.map, List.headD, List.take, List.drop, ↓reduceIte, Nat.reduceEqDiff, Nat.reduceAdd, Nat.reduceSub, Nat.reduceLeDiff, reduceCtorEq, implies_true, ne_eq, aggV, Tag.cap, List.replicate, allSolid, GVal.solid, Nat.reduceBEq, Nat.reduceMul, Nat.reduceLT, List.length_map, List.length_range, splice, vcA, ↓vcB, vcC, fbSpc, e13, spl_length]
  refine ⟨fun h => (decide_eq_false (fun e => h (by rw [e]))).symm, fun h => ?_⟩
  have hlen : a.length = b.length := by omega
  refine vcSLoop_by (ι := { k : Nat // k ≤ a.length ∧ ∀ j, j < k → a.getD j (0, 0) = b.getD j (0, 0) }) (fun k => ⟨[.slice (spl a) ta, .slice (spl b) tb, .any, .any, .any, .int .i64 (k.1 : Nat)] ++ List.replicate 20 .any, []⟩) (fun k => a.length - k.1) ?_ ?_
  · exact Into.first ⟨0, by omega, by omega⟩ ⟨[], by simp⟩ (by simp [WL, leG_self, leG_any])
  · rintro ⟨k, hk, hj⟩
    by_cases h : k < a.length
    · have d0 : ((k : Int) < (a.length : Int)) = True := eq_true (by omega)
      have eA := spl_at a k h
      have eB := spl_at b k (by omega)
      simp +contextual -implicitDefEqProofs (maxSteps := 2000000) (disch := omega) only [drawC, ↓lenV, binV, ↓loadV, ↓indexAddrV, GVal.cells, grp, GVal.ofConst, ↓resV, resG, List.map, List.headD, List.take, List.drop, ↓reduceIte, Nat.reduceEqDiff, Nat.reduceAdd, Nat.reduceSub, Nat.reduceLeDiff, reduceCtorEq, implies_true, ne_eq, aggV, Tag.cap, List.replicate, allSolid, GVal.solid, Nat.reduceBEq, Nat.reduceMul, Nat.reduceLT, List.length_map, List.length_range, splice, vcA, ↓vcB, vcC, fbSpc, e13, spl_length, d0, eA, eB, spG, cellsEq_pair]
      refine ⟨by omega, by omega, by omega, ?_⟩
      by_cases e : a.getD k (0, 0) = b.getD k (0, 0)
      · have e1 : (decide ((a.getD k (0, 0)).1 = (b.getD k (0, 0)).1) && decide ((a.getD k (0, 0)).2 = (b.getD k (0, 0)).2)) = true := by rw [e]; simp
        rw [e1]
        refine Into.at ⟨k + 1, by omega, fun j hj' => ?_⟩ (by show _ < _; simp; omega) ⟨[], by simp⟩ (by simp [WL, leG_self, leG_any, leG_int])
        by_cases ej : j = k
        · rw [ej, e]
        · exact hj j (by omega)
      · have e1 : (decide ((a.getD k (0, 0)).1 = (b.getD k (0, 0)).1) && decide ((a.getD k (0, 0)).2 = (b.getD k (0, 0)).2)) = false := by
          rw [Bool.eq_false_iff]; intro e'; simp at e'; exact e (Prod.ext e'.1 e'.2)
        rw [e1]
        exact (decide_eq_false (fun e' => e (by rw [e']))).symm
    · have d0 : ((k : Int) < (a.length : Int)) = False := eq_false (by omega)
      simp +contextual -implicitDefEqProofs (maxSteps := 2000000) (disch := omega) only [drawC, ↓lenV, binV, ↓loadV, ↓indexAddrV, GVal.cells, grp, GVal.ofConst, ↓resV, resG, List.map, List.headD, List.take, List.drop, ↓reduceIte, Nat.reduceEqDiff, Nat.reduceAdd, Nat.reduceSub, Nat.reduceLeDiff, reduceCtorEq, implies_true, ne_eq, aggV, Tag.cap, List.replicate, allSolid, GVal.solid, Nat.reduceBEq, Nat.reduceMul, Nat.reduceLT, List.length_map, List.length_range, splice, vcA, ↓vcB, vcC, fbSpc, e13, spl_length, d0]
      refine (decide_eq_true ?_).symm
      apply List.ext_getElem hlen
      intro i h3 h4
      have := hj i (by omega)
      simpa [List.getD, h3, h4] using this

theorem sSameInts (a b : List Int) (ta tb : Tag) (ha : a.length ≤ 17592186044416) : GPure Try.prog 30 [.slice (ints a) ta, .slice (ints b) tb] (.bool (decide (a = b))) := by
  refine h30.pure mixS (by simp) ?_
  simp only [gstart, s30, List.cons_append, List.nil_append, List.length_cons, List.length_nil, Nat.reduceAdd, Nat.reduceSub, List.replicate_succ, List.replicate_zero]
  simp +contextual -implicitDefEqProofs (maxSteps := 2000000) (disch := omega) only [drawC, ↓lenV, binV, ↓loadV, ↓indexAddrV, GVal.cells, grp, GVal.ofConst, ↓resV, resG, List.map, List.headD, List.take, List.drop, ↓reduceIte, Nat.reduceEqDiff, Nat.reduceAdd, Nat.reduceSub, Nat.reduceLeDiff, reduceCtorEq, implies_true, ne_eq, aggV, Tag.cap, List.replicate, allSolid, GVal.solid, Nat.reduceBEq, Nat.reduceMul, Nat.reduceLT, List.length_map, List.length_range, splice, vcA, ↓vcB, vcC, fbSpc, e30]
  refine ⟨fun h => (decide_eq_false (fun e => h (by rw [e]))).symm, fun h => ?_⟩
  have hlen : a.length = b.length := by omega
  refine vcSLoop_by (ι := { k : Nat // k ≤ a.length ∧ ∀ j, j < k → a.getD j 0 = b.getD j 0 }) (fun k => ⟨[.slice (ints a) ta, .slice (ints b) tb, .any, .any, .any, .int .i64 (k.1 : Nat)] ++ List.replicate 20 .any, []⟩) (fun k => a.length - k.1) ?_ ?_
  · exact Into.first ⟨0, by omega, by omega⟩ ⟨[], by simp⟩ (by simp [WL, leG_self, leG_any])
  rintro ⟨k, hk, hj⟩
  simp +contextual -implicitDefEqProofs (maxSteps := 2000000) (disch := omega) only [drawC, ↓lenV, binV, ↓loadV, ↓indexAddrV, GVal.cells, grp, GVal.ofConst, ↓resV, resG, List.map, List.headD, List.take, List.drop, ↓reduceIte, Nat.reduceEqDiff, Nat.reduceAdd, Nat.reduceSub, Nat.reduceLeDiff, reduceCtorEq, implies_true, ne_eq, aggV, Tag.cap, List.replicate, allSolid, GVal.solid, Nat.reduceBEq, Nat.reduceMul, Nat.reduceLT, List.length_map, List.length_range, splice, vcA, ↓vcB, vcC, fbSpc, e30]
  refine ⟨fun h1 => ⟨by omega, by omega, by omega, fun h2 => ?_, fun h2 => ?_⟩, fun h1 => ?_⟩
  · exact (decide_eq_false (fun e => h2 (by rw [e]))).symm
  · refine Into.at ⟨k + 1, by omega, fun j hj' => ?_⟩ (by show _ < _; simp; omega) ⟨[], by simp⟩ (by simp [WL, leG_self, leG_any, leG_int])
    by_cases e : j = k
    · rw [e, h2]
    · exact hj j (by omega)
  · refine (decide_eq_true ?_).symm
    apply List.ext_getElem hlen
    intro i h3 h4
    have := hj i (by omega)
    simpa [List.getD, h3, h4] using this

/-- the law's spans of raw numbers -/
def elS (x y : Int) (w : Bool) : Sp.S := if w = true ∧ x.tmod 7 = 6 then (9223372036854775807 - y % 5 - (x.tdiv 7) % 6, 9223372036854775807 - y % 5) else (x % 60 - 2, x % 60 - 2 + y % 9 - 2)
def setN (l : List Int) (w : Bool) (k : Nat) : List Sp.S := (List.range k).map fun j => elS (l.getD (2 * j) 0) (l.getD (2 * j + 1) 0) w
def setF (l : List Int) (w : Bool) : List Sp.S := setN l w (min 12 (l.length / 2))
theorem sSet (l : List Int) (w : Bool) (t : Tag) (hl : l.length ≤ 9223372036854775807) (hi : ∀ i, -9223372036854775808 ≤ l.getD i 0 ∧ l.getD i 0 ≤ 9223372036854775807) :
    GPure Try.prog 9 [.slice (ints l) t, .bool w] (.slice (spl (setF l w)) .none) := by
  refine h9.pure mixS (by simp) ?_
  simp only [gstart, s9, List.cons_append, List.nil_append, List.length_cons, List.length_nil, Nat.reduceAdd, Nat.reduceSub, List.replicate_succ, List.replicate_zero]
  simp +contextual -implicitDefEqProofs (maxSteps := 2000000) (disch := omega) only [drawC, ↓lenV, binV, optV, ↓loadV, ↓storeV, ↓fieldAddrV, ↓indexAddrV, ↓allocV, ↓buildV, ↓buildSliceV, ↓sliceV, ↓appendV, ↓srcV, bound, cutTag, hiTag, fillG, fillE, place, GVal.cells, grp, GVal.ofConst, ↓resV, resG, List.map, List.headD, List.take, List.drop, ↓reduceIte, Nat.reduceEqDiff, Nat.reduceAdd, Nat.reduceSub, Nat.reduceLeDiff, reduceCtorEq, implies_true, ne_eq, ↓asrcV, aggV, Tag.cap, List.replicate, allSolid, GVal.solid, Nat.reduceBEq, Nat.reduceMul, Nat.reduceLT, List.length_map, List.length_range, splice, vcA, ↓vcB, vcC, fbSpc, e9]
  refine vcSLoop_by (ι := { p : Nat × Nat // p.1 ≤ min 12 (l.length / 2) }) (fun p => ⟨[.slice (ints l) t, .bool w, .any, .any, .any, .slice (spl (setN l w p.1.1)) (.tok 0 p.1.2), .int .i64 ((2 * p.1.1 : Nat) : Int)] ++ List.replicate 62 .any, [.tok p.1.2 2]⟩) (fun p => 12 - p.1.1) ?_ ?_
  · refine Into.tok 5 2 [] rfl rfl ?_
    simp +contextual -implicitDefEqProofs (maxSteps := 2000000) (disch := omega) only [drawC, ↓lenV, binV, optV, ↓loadV, ↓storeV, ↓fieldAddrV, ↓indexAddrV, ↓allocV, ↓buildV, ↓buildSliceV, ↓sliceV, ↓appendV, ↓srcV, bound, cutTag, hiTag, fillG, fillE, place, GVal.cells, grp, GVal.ofConst, ↓resV, resG, List.map, List.headD, List.take, List.drop, ↓reduceIte, Nat.reduceEqDiff, Nat.reduceAdd, Nat.reduceSub, Nat.reduceLeDiff, reduceCtorEq, implies_true, ne_eq, ↓asrcV, aggV, Tag.cap, List.replicate, allSolid, GVal.solid, Nat.reduceBEq, Nat.reduceMul, Nat.reduceLT, List.length_map, List.length_range, splice, vcA, ↓vcB, vcC, fbSpc, e9]
    intro t0
    exact Into.first ⟨(0, t0), by omega⟩ ⟨[], by simp⟩ (by simp [WL, leG_self, leG_any, setN, spl_nil])
  · rintro ⟨⟨k, v⟩, hk⟩
    change k ≤ min 12 (l.length / 2) at hk
    have hx := hi (2 * k)
    have hy := hi (2 * k + 1)
    by_cases h : k < min 12 (l.length / 2)
    · have d0 : (((2 * k : Nat) : Int) + 1 < (l.length : Int)) = True := eq_true (by omega)
      have d1 : (((2 * k : Nat) : Int) < 24) = True := eq_true (by omega)
      have tn1 : (((2 * k : Nat) : Int) + 1).toNat = 2 * k + 1 := by omega
      have eN : setN l w (k + 1) = setN l w k ++ [elS (l.getD (2 * k) 0) (l.getD (2 * k + 1) 0) w] := by simp [setN, List.range_succ]
      obtain ⟨x, ex⟩ : ∃ x, l.getD (2 * k) 0 = x := ⟨_, rfl⟩
      obtain ⟨y, ey⟩ : ∃ y, l.getD (2 * k + 1) 0 = y := ⟨_, rfl⟩
      rw [ex] at hx eN; rw [ey] at hy eN
      have ee1 := Int.emod_nonneg x (by decide : (60 : Int) ≠ 0)
      have e2 := Int.emod_lt_of_pos x (by decide : (0 : Int) < 60)
      have e3 := Int.emod_nonneg y (by decide : (9 : Int) ≠ 0)
      have e4 := Int.emod_lt_of_pos y (by decide : (0 : Int) < 9)
      have e5 := Int.emod_nonneg y (by decide : (5 : Int) ≠ 0)
      have e6 := Int.emod_lt_of_pos y (by decide : (0 : Int) < 5)
      have e7 := Int.emod_nonneg (x.tdiv 7) (by decide : (6 : Int) ≠ 0)
      have e8 := Int.emod_lt_of_pos (x.tdiv 7) (by decide : (0 : Int) < 6)
      simp +contextual -implicitDefEqProofs (maxSteps := 2000000) (disch := omega) only [drawC, ↓lenV, binV, optV, ↓loadV, ↓storeV, ↓fieldAddrV, ↓indexAddrV, ↓allocV, ↓buildV, ↓buildSliceV, ↓sliceV, ↓appendV, ↓srcV, bound, cutTag, hiTag, fillG, fillE, place, GVal.cells, grp, GVal.ofConst, ↓resV, resG, List.map, List.headD, List.take, List.drop, ↓reduceIte, Nat.reduceEqDiff, Nat.reduceAdd, Nat.reduceSub, Nat.reduceLeDiff, reduceCtorEq, implies_true, ne_eq, ↓asrcV, aggV, Tag.cap, List.replicate, allSolid, GVal.solid, Nat.reduceBEq, Nat.reduceMul, Nat.reduceLT, List.length_map, List.length_range, splice, vcA, ↓vcB, vcC, fbSpc, e9, d0, d1, spl_length, all_spl, ex]
      refine ⟨by omega, by omega, ?_⟩
      refine (sPick x 60 (by omega) (by omega)).then ?_ (by rfl)
      simp +contextual -implicitDefEqProofs (maxSteps := 2000000) (disch := omega) only [drawC, ↓lenV, binV, optV, ↓loadV, ↓storeV, ↓fieldAddrV, ↓indexAddrV, ↓allocV, ↓buildV, ↓buildSliceV, ↓sliceV, ↓appendV, ↓srcV, bound, cutTag, hiTag, fillG, fillE, place, GVal.cells, grp, GVal.ofConst, ↓resV, resG, List.map, List.headD, List.take, List.drop, ↓reduceIte, Nat.reduceEqDiff, Nat.reduceAdd, Nat.reduceSub, Nat.reduceLeDiff, reduceCtorEq, implies_true, ne_eq, ↓asrcV, aggV, Tag.cap, List.replicate, allSolid, GVal.solid, Nat.reduceBEq, Nat.reduceMul, Nat.reduceLT, List.length_map, List.length_range, splice, vcA, ↓vcB, vcC, fbSpc, e9, d0, d1, spl_length, all_spl, tn1, ex, ey]
      intro st
      refine ⟨by omega, ?_⟩
      refine (sPick y 9 (by omega) (by omega)).then ?_
      simp +contextual -implicitDefEqProofs (maxSteps := 2000000) (disch := omega) only [drawC, ↓lenV, binV, optV, ↓loadV, ↓storeV, ↓fieldAddrV, ↓indexAddrV, ↓allocV, ↓buildV, ↓buildSliceV, ↓sliceV, ↓appendV, ↓srcV, bound, cutTag, hiTag, fillG, fillE, place, GVal.cells, grp, GVal.ofConst, ↓resV, resG, List.map, List.headD, List.take, List.drop, ↓reduceIte, Nat.reduceEqDiff, Nat.reduceAdd, Nat.reduceSub, Nat.reduceLeDiff, reduceCtorEq, implies_true, ne_eq, ↓asrcV, aggV, Tag.cap, List.replicate, allSolid, GVal.solid, Nat.reduceBEq, Nat.reduceMul, Nat.reduceLT, List.length_map, List.length_range, splice, vcA, ↓vcB, vcC, fbSpc, e9, d0, d1, spl_length, all_spl, tn1, ex, ey]
      have hsl : (setN l w k).length = k := by simp [setN]
      have nxt : ∀ (st_1 : Nat) (s : Sp.S), s = elS x y w → spl (setN l w k) ++ [[.int .i64 s.1, .int .i64 s.2]] = spl (setN l w (k + 1)) := fun _ s e => by
        rw [eN, spl_append, spl_one, ← e]; rfl
      refine ⟨⟨[], by simp⟩, ?_⟩
      have plain : ¬ (w = true ∧ x.tmod 7 = 6) → (x % 60 - 2, x % 60 - 2 + y % 9 - 2) = elS x y w := fun h => by unfold elS; rw [if_neg h]
      have wildE : (w = true ∧ x.tmod 7 = 6) → (9223372036854775807 - y % 5 - (x.tdiv 7) % 6, 9223372036854775807 - y % 5) = elS x y w := fun h => by unfold elS; rw [if_pos h]
      cases w with
      | false =>
        refine ⟨by omega, by omega, fun st_1 => ?_⟩
        refine Into.at ⟨(k + 1, st_1), by show k + 1 ≤ _; omega⟩ (by show _ < _; simp; omega) ⟨[.row st 2 [[.int .i64 (x % 60 - 2), .int .i64 (x % 60 - 2 + y % 9 - 2)]]], by simp⟩ ?_
        have := nxt st_1 _ (plain (by simp))
        simp only [] at this
        simp [WL, leG_self, leG_any, leG_tok, leG_int, this]; omega
      | true =>
        refine ⟨by omega, by omega, by omega, fun h1 => ⟨by omega, ?_⟩, fun h1 => ⟨by omega, by omega, fun st_1 => ?_⟩⟩
        · refine (sPick y 5 (by omega) (by omega)).then ?_
          have hq : -9223372036854775808 ≤ x.tdiv 7 ∧ x.tdiv 7 ≤ 9223372036854775807 := by
            have hs7 : Int.sign 7 = 1 := rfl
            rw [Int.tdiv_eq_ediv, hs7]; split <;> omega
          have hn := norm_i64 hq
          simp +contextual -implicitDefEqProofs (maxSteps := 2000000) (disch := omega) only [drawC, ↓lenV, binV, optV, ↓loadV, ↓storeV, ↓fieldAddrV, ↓indexAddrV, ↓allocV, ↓buildV, ↓buildSliceV, ↓sliceV, ↓appendV, ↓srcV, bound, cutTag, hiTag, fillG, fillE, place, GVal.cells, grp, GVal.ofConst, ↓resV, resG, List.map, List.headD, List.take, List.drop, ↓reduceIte, Nat.reduceEqDiff, Nat.reduceAdd, Nat.reduceSub, Nat.reduceLeDiff, reduceCtorEq, implies_true, ne_eq, ↓asrcV, aggV, Tag.cap, List.replicate, allSolid, GVal.solid, Nat.reduceBEq, Nat.reduceMul, Nat.reduceLT, List.length_map, List.length_range, splice, vcA, ↓vcB, vcC, fbSpc, e9, d0, d1, spl_length, all_spl, tn1, ex, ey, hn]
          refine ⟨by omega, by omega, by omega, ?_⟩
          refine (sPick (x.tdiv 7) 6 (by omega) (by omega)).then ?_
          simp +contextual -implicitDefEqProofs (maxSteps := 2000000) (disch := omega) only [drawC, ↓lenV, binV, optV, ↓loadV, ↓storeV, ↓fieldAddrV, ↓indexAddrV, ↓allocV, ↓buildV, ↓buildSliceV, ↓sliceV, ↓appendV, ↓srcV, bound, cutTag, hiTag, fillG, fillE, place, GVal.cells, grp, GVal.ofConst, ↓resV, resG, List.map, List.headD, List.take, List.drop, ↓reduceIte, Nat.reduceEqDiff, Nat.reduceAdd, Nat.reduceSub, Nat.reduceLeDiff, reduceCtorEq, implies_true, ne_eq, ↓asrcV, aggV, Tag.cap, List.replicate, allSolid, GVal.solid, Nat.reduceBEq, Nat.reduceMul, Nat.reduceLT, List.length_map, List.length_range, splice, vcA, ↓vcB, vcC, fbSpc, e9, d0, d1, spl_length, all_spl, tn1, ex, ey, hn]
          refine ⟨⟨[], by simp⟩, by omega, by omega, fun st_1 => ?_⟩
          refine Into.at ⟨(k + 1, st_1), by show k + 1 ≤ _; omega⟩ (by show _ < _; simp; omega) ⟨[.row st 2 [[.int .i64 (9223372036854775807 - y % 5 - (x.tdiv 7) % 6), .int .i64 (9223372036854775807 - y % 5)]]], by simp⟩ ?_
          have := nxt st_1 _ (wildE ⟨rfl, h1⟩)
          simp only [] at this
          simp [WL, leG_self, leG_any, leG_tok, leG_int, this]; omega
        · refine Into.at ⟨(k + 1, st_1), by show k + 1 ≤ _; omega⟩ (by show _ < _; simp; omega) ⟨[.row st 2 [[.int .i64 (x % 60 - 2), .int .i64 (x % 60 - 2 + y % 9 - 2)]]], by simp⟩ ?_
          have := nxt st_1 _ (plain (fun h => h1 h.2))
          simp only [] at this
          simp [WL, leG_self, leG_any, leG_tok, leG_int, this]; omega
    · have hk' : k = min 12 (l.length / 2) := by omega
      have fin : setN l w k = setF l w := by rw [hk']; rfl
      simp +contextual -implicitDefEqProofs (maxSteps := 2000000) (disch := omega) only [drawC, ↓lenV, binV, optV, ↓loadV, ↓storeV, ↓fieldAddrV, ↓indexAddrV, ↓allocV, ↓buildV, ↓buildSliceV, ↓sliceV, ↓appendV, ↓srcV, bound, cutTag, hiTag, fillG, fillE, place, GVal.cells, grp, GVal.ofConst, ↓resV, resG, List.map, List.headD, List.take, List.drop, ↓reduceIte, Nat.reduceEqDiff, Nat.reduceAdd, Nat.reduceSub, Nat.reduceLeDiff, reduceCtorEq, implies_true, ne_eq, ↓asrcV, aggV, Tag.cap, List.replicate, allSolid, GVal.solid, Nat.reduceBEq, Nat.reduceMul, Nat.reduceLT, List.length_map, List.length_range, splice, vcA, ↓vcB, vcC, fbSpc, e9]
      exact ⟨fun h1 => ⟨fun h2 => by omega, fun _ => by rw [fin]⟩, fun _ => by rw [fin]⟩
end Gv.Try
/- slices.SortFunc over rows of structs, as a contract over ghost values. -/
set_option linter.unusedVariables false
namespace Gv
open Go Go.Proofs Go.Shelf Go.RowKit Go.Lib Go.Sort

section
variable {P : Program} {ρ : Ren}
set_option maxHeartbeats 2000000 in
theorem insertion_none (L : SlLaysF0.n20 P ρ) (p : Option Addr) (cap : Nat) (fv : Value) (w : World) :
    Calls P (ρ.f 20) #[.slice p 0 cap, .int .i64 0, .int .i64 0, fv] w fun e w' => e = .returned (.tuple #[]) ∧ w' = w := by
  have mixed := L.mixed; have t0 := L.t0; have a0 := L.a0; have z0 := L.z0; have v0 := L.v0; have t3 := L.t3; have a3 := L.a3; have z3 := L.z3; have v3 := L.v3; have t4 := L.t4; have a4 := L.a4; have z4 := L.z4; have v4 := L.v4; have t22 := L.t22; have a22 := L.a22; have z22 := L.z22; have v22 := L.v22; have t25 := L.t25; have a25 := L.a25; have z25 := L.z25; have v25 := L.v25
  obtain ⟨_, _, FG⟩ := L.f20
  go_enter FG, SlBodyF.n20_ntmps ρ
  go_wp2
  refine wp_loop_rounds 1 ?_
  rw [rounds_succ]
  go_wp2
  go_end0
  exact ⟨rfl, rfl⟩

set_option maxHeartbeats 2000000 in
theorem pdq_none (L : SlLaysF0.n14 P ρ) (p : Option Addr) (cap : Nat) (lim : Int) (fv : Value) (w : World) :
    Calls P (ρ.f 14) #[.slice p 0 cap, .int .i64 0, .int .i64 0, .int .i64 lim, fv] w fun e w' => e = .returned (.tuple #[]) ∧ w' = w := by
  have mixed := L.mixed; have t0 := L.t0; have a0 := L.a0; have z0 := L.z0; have v0 := L.v0; have t3 := L.t3; have a3 := L.a3; have z3 := L.z3; have v3 := L.v3; have t4 := L.t4; have a4 := L.a4; have z4 := L.z4; have v4 := L.v4; have t5 := L.t5; have a5 := L.a5; have z5 := L.z5; have v5 := L.v5; have t9 := L.t9; have a9 := L.a9; have z9 := L.z9; have v9 := L.v9; have t22 := L.t22; have a22 := L.a22; have z22 := L.z22; have v22 := L.v22; have t25 := L.t25; have a25 := L.a25; have z25 := L.z25; have v25 := L.v25; have t39 := L.t39; have a39 := L.a39; have z39 := L.z39; have v39 := L.v39; have t45 := L.t45; have a45 := L.a45; have z45 := L.z45; have v45 := L.v45; have t46 := L.t46; have a46 := L.a46; have z46 := L.z46; have v46 := L.v46; have t50 := L.t50; have a50 := L.a50; have z50 := L.z50; have v50 := L.v50; have t53 := L.t53; have a53 := L.a53; have z53 := L.z53; have v53 := L.v53; have t55 := L.t55; have a55 := L.a55; have z55 := L.z55; have v55 := L.v55; have t66 := L.t66; have a66 := L.a66; have z66 := L.z66; have v66 := L.v66; have t70 := L.t70; have a70 := L.a70; have z70 := L.z70; have v70 := L.v70; have t76 := L.t76; have a76 := L.a76; have z76 := L.z76; have v76 := L.v76; have t77 := L.t77; have a77 := L.a77; have z77 := L.z77; have v77 := L.v77
  have e20 : ∀ args w, (callFunc (ρ.f 20) args).run P w = .ok (.enter (ρ.f 20) args) w := L.f20.enters rfl
  have hi := fun W => insertion_none (P := P) (ρ := ρ) { L with } p cap fv W
  obtain ⟨_, _, FG⟩ := L.f14
  go_enter FG, SlBodyF.n14_ntmps ρ
  go_wp2
  refine wp_loop_rounds 1 ?_
  rw [rounds_succ]
  go_wp2_with (go_at_fn (ρ.f 20); refine (hi _).mono ?_; rintro e w' ⟨rfl, rfl⟩)
  (try simp only [Exit.inBlock, Exit.then]); refine bodyPost_ret (results_none rfl _ _ _) rfl ?_
  exact ⟨rfl, rfl⟩

set_option maxHeartbeats 2000000 in
theorem sort_none (L : SlLaysF0.n6 P ρ) (p : Option Addr) (cap : Nat) (fv : Value) (w : World) :
    Calls P (ρ.f 6) #[.slice p 0 cap, fv] w fun e w' => e = .returned (.tuple #[]) ∧ w' = w := by
  have mixed := L.mixed; have t0 := L.t0; have a0 := L.a0; have z0 := L.z0; have v0 := L.v0; have t3 := L.t3; have a3 := L.a3; have z3 := L.z3; have v3 := L.v3; have t4 := L.t4; have a4 := L.a4; have z4 := L.z4; have v4 := L.v4; have t5 := L.t5; have a5 := L.a5; have z5 := L.z5; have v5 := L.v5; have t9 := L.t9; have a9 := L.a9; have z9 := L.z9; have v9 := L.v9; have t22 := L.t22; have a22 := L.a22; have z22 := L.z22; have v22 := L.v22; have t25 := L.t25; have a25 := L.a25; have z25 := L.z25; have v25 := L.v25; have t39 := L.t39; have a39 := L.a39; have z39 := L.z39; have v39 := L.v39; have t45 := L.t45; have a45 := L.a45; have z45 := L.z45; have v45 := L.v45; have t46 := L.t46; have a46 := L.a46; have z46 := L.z46; have v46 := L.v46; have t50 := L.t50; have a50 := L.a50; have z50 := L.z50; have v50 := L.v50; have t53 := L.t53; have a53 := L.a53; have z53 := L.z53; have v53 := L.v53; have t55 := L.t55; have a55 := L.a55; have z55 := L.z55; have v55 := L.v55; have t66 := L.t66; have a66 := L.a66; have z66 := L.z66; have v66 := L.v66; have t70 := L.t70; have a70 := L.a70; have z70 := L.z70; have v70 := L.v70; have t76 := L.t76; have a76 := L.a76; have z76 := L.z76; have v76 := L.v76; have t77 := L.t77; have a77 := L.a77; have z77 := L.z77; have v77 := L.v77
  have e14 : ∀ args w, (callFunc (ρ.f 14) args).run P w = .ok (.enter (ρ.f 14) args) w := L.f14.enters rfl
  have e15 : ∀ args w, (callFunc (ρ.f 15) args).run P w = .ok (.enter (ρ.f 15) args) w := enters_of L.f15 (by kernel_rfl) rfl
  have hp := fun lim W => pdq_none (P := P) (ρ := ρ) { L with } p cap lim fv W
  have hl : ∀ W, Calls P (ρ.f 15) #[.int .u64 0] W fun e w' => e = .returned (.int .i64 (Lib.bitLen 0 : Nat)) ∧ w' = W := fun W => by
    have h := Any.bits_Len (SlLaysF0.n15.bits (P := P) (ρ := ρ) { L with }) 0 W (by omega) (by omega)
    exact h
  obtain ⟨_, _, FG⟩ := L.f6
  go_enter FG, SlBodyF.n6_ntmps ρ
  go_wp2_with (first | (go_at_fn (ρ.f 15); refine (hl _).mono ?_; rintro e w' ⟨rfl, rfl⟩) | (go_at_fn (ρ.f 14); refine (hp _ _).mono ?_; rintro e w' ⟨rfl, rfl⟩))
  go_end0
  exact ⟨rfl, rfl⟩
end

theorem flatMap_at {α : Type} (G : α → List GVal) (k : Nat) (hG : ∀ x, (G x).length = k) : ∀ (xs : List α) (t : Nat), (xs.map G).flatten[t]? = (xs[t / k]?).bind fun x => (G x)[t % k]?
  | [], t => by simp
  | x :: r, t => by
    rw [List.map_cons, List.flatten_cons]
    by_cases h : t < k
    · rw [List.getElem?_append_left (by rw [hG]; exact h), Nat.div_eq_of_lt h, Nat.mod_eq_of_lt h]
      rfl
    · rw [List.getElem?_append_right (by rw [hG]; omega), hG, flatMap_at G k hG r]
      by_cases hk : k = 0
      · subst hk
        have : ∀ y, G y = [] := fun y => List.eq_nil_of_length_eq_zero (hG y)
        simp [this]
      · have e : t = (t - k) + k := by omega
        have e1 : t / k = (t - k) / k + 1 := by
          conv => lhs; rw [e]
          rw [Nat.add_div_right _ (by omega)]
        have e2 : t % k = (t - k) % k := by
          conv => lhs; rw [e]
          rw [Nat.add_mod_right]
        rw [e1, e2, List.getElem?_cons_succ]

section
variable {α : Type} [Inhabited α]
theorem sortWorld_at (enc : α → List Value) (k : Nat) (w : World) (blk off m : Nat) (dk : Array α) (os : Array Obj) {cur : Array Value} {el : TypeId} {fr : Nat × Nat} (hc : w.heap[blk]? = some (.cells cur el fr)) :
    (sortWorldK enc k w blk off m dk os).os = w.os ∧ (sortWorldK enc k w blk off m dk os).output = w.output ∧ w.heap.size ≤ (sortWorldK enc k w blk off m dk os).heap.size ∧
    (∀ b, b < w.heap.size → b ≠ blk → (sortWorldK enc k w blk off m dk os).heap[b]? = w.heap[b]?) ∧
    (sortWorldK enc k w blk off m dk os).heap[blk]? = some (.cells (putCells id off (flatK enc k dk) cur) el fr) := by
  have e : (sortWorldK enc k w blk off m dk os).heap = (w.heap.modify blk (onCells (putCells id off (flatK enc k dk)))) ++ os := rfl
  have hlt := (Array.getElem?_eq_some_iff.1 hc).1
  refine ⟨rfl, rfl, by rw [e]; simp, fun b hb hn => ?_, ?_⟩
  · rw [e, Array.getElem?_append, if_pos (by simpa using hb), Array.getElem?_modify, if_neg (fun h => hn h.symm)]
  · rw [e, Array.getElem?_append, if_pos (by simpa using hlt), Array.getElem?_modify, if_pos rfl, hc]; rfl

theorem putCells_at (off : Nat) (d : Array Value) (c : Array Value) (j : Nat) (hj : j < d.size) (hc : off + j < c.size) : (putCells id off d c)[off + j]? = some d[j]! := by
  simp only [putCells, Array.getElem?_mapIdx, Array.getElem?_eq_getElem hc, Option.map_some]
  rw [if_pos ⟨by omega, by omega⟩, show off + j - off = j by omega]; rfl
theorem putCells_size (off : Nat) (d : Array Value) (c : Array Value) : (putCells id off d c).size = c.size := by simp [putCells]
theorem getBang_of {β : Type} [Inhabited β] {l : List β} {i : Nat} {x : β} (h : l[i]? = some x) : l[i]! = x := by simp [h]
end

theorem set_same {β : Type} {l : List β} {i : Nat} {x : β} (h : l[i]? = some x) : l.set i x = l := by
  apply List.ext_getElem?
  intro j
  rw [List.getElem?_set]
  by_cases e : i = j
  · subst e; rw [if_pos rfl, h, if_pos (List.getElem?_eq_some_iff.1 h).1]
  · rw [if_neg e]

theorem gcalls_sort {P : Program} {ρ : Ren} {α : Type} [Inhabited α] (L : SlLaysF0.n6 P ρ) (k : Nat) (aE : ∀ w, (isAgg (ρ.t 24)).run P w = .ok true w) (zE : ∀ w, (Go.sizeOf (ρ.t 24)).run P w = .ok k w)
    (enc : α → List Value) (G : α → List GVal) (hk : ∀ x, (enc x).length = k) (h1 : ∀ x, ∀ v ∈ enc x, v.oneCell' = true) (hG : ∀ x, (G x).length = k)
    (hdet : ∀ E x (j : Nat) g v, (G x)[j]? = some g → VR E v g → (enc x)[j]? = some v) (hback : ∀ E x (j : Nat) g, (G x)[j]? = some g → ∃ v, (enc x)[j]? = some v ∧ VR E v g)
    (cf : α → α → Int) (hO : SWO (ltOf cf)) (c : FuncId) (eg : ∀ args w, (callFunc c args).run P w = .ok (.enter c args) w)
    (hcmp : ∀ x y W, Calls P c #[.agg (enc x).toArray, .agg (enc y).toArray] W fun e w' => e = .returned (.int .i64 (cf x y)) ∧ ∃ q os', w' = grow (W.drewN q) os')
    (hen : enterable P (ρ.f 6) = true) (xs : List α) (hsz : xs.length < 4611686018427387904) {O : List GObj} {o st : Nat} (hOo : O[o]? = some (.row st k (xs.map G))) (hc : clockOf O = none) :
    GCalls P (ρ.f 6) [.own o st 0 xs.length, .func (.func c) [] []] O (fun r O' => r = .tuple [] ∧ ∃ ys : List α, ys.Perm xs ∧ ys.Pairwise (fun a b => ¬ cf b a < 0) ∧ O' = O.set o (.row st k (ys.map G))) := by
  refine ⟨hen, fun E w vs hs ha => ?_⟩
  obtain ⟨hvs, hva⟩ := ha
  have h2 : vs.size = 2 := hvs
  have hv0 := hva 0 _ rfl
  have hv1 := hva 1 _ rfl
  obtain ⟨v0, v1, rfl⟩ : ∃ a b, vs = #[a, b] := by
    refine ⟨vs[0], vs[1], Array.ext (by simp [h2]) fun i a b => ?_⟩
    have : i = 0 ∨ i = 1 := by omega
    rcases this with rfl | rfl <;> rfl
  have e0 : (#[v0, v1] : Array Value).getD 0 undef = v0 := rfl
  have e1 : (#[v0, v1] : Array Value).getD 1 undef = v1 := rfl
  rw [e0] at hv0; rw [e1] at hv1
  clear hva hvs h2 e0 e1
  cases hv1 with
  | func _ fs cs _ _ hf hkk hfs hcs =>
    have ef : fs = #[] := Array.eq_empty_of_size_eq_zero hf
    have ec : cs = #[] := Array.eq_empty_of_size_eq_zero hkk
    subst ef; subst ec
    have hreal := hs.real _ _ hOo
    cases hv0 with
    | own a _ cap _ _ _ l hl hcap hadr =>
      obtain ⟨l', hl', hsz', hrow, hm⟩ := hreal
      rw [hl] at hl'; cases hl'
      by_cases hx : xs = []
      · subst hx
        refine (sort_none L a cap _ w).mono ?_
        rintro e w' ⟨rfl, rfl⟩
        exact ⟨_, E, O, .tuple [], rfl, hs, .refl _ _ _, .tuple _ _ rfl (fun j g h => by simp at h), rfl, [], .refl _, .nil, (set_same hOo).symm⟩
      · have hpos : 0 < xs.length := List.length_pos_iff.2 hx
        rcases hadr with h0 | ⟨b, hb, rfl, htot⟩
        · omega
        rw [hb] at hm
        obtain ⟨cur, el, hw, hcs', hle, hrows, hsn⟩ := hm
        have hmul : (0 : Nat) * l.size = 0 := Nat.zero_mul _
        rw [hmul, Nat.add_zero]
        have hle' : l.off + xs.length * k ≤ cur.size := by rw [hcs']; simpa using hle
        have hlt := (Array.getElem?_eq_some_iff.1 hw).1
        have hcell : ∀ t, t < xs.length * k → ∃ v, cur[l.off + t]? = some v ∧ (flatK enc k xs.toArray)[t]! = v := fun t ht => by
          have hk0 : 0 < k := Nat.pos_of_ne_zero fun e => by subst e; simp at ht
          have hd : t / k < xs.length := Nat.div_lt_of_lt_mul (by rw [Nat.mul_comm]; exact ht)
          have hmd : t % k < k := Nat.mod_lt _ hk0
          have hx? : xs[t / k]? = some xs[t / k] := List.getElem?_eq_getElem hd
          have hg : (G xs[t / k])[t % k]? = some ((G xs[t / k])[t % k]'(by rw [hG]; exact hmd)) := List.getElem?_eq_getElem _
          obtain ⟨v, q1, _, q3⟩ := hrows t _ (by rw [flatMap_at G k hG, hx?]; exact hg)
          refine ⟨v, q1, ?_⟩
          rw [get_flatK _ _ _ _ (by simpa using ht)]
          have := hdet E _ _ _ _ hg q3
          have e1 : xs.toArray[t / k]! = xs[t / k] := by
            rw [getElem!_pos _ _ (by simpa using hd)]; rfl
          rw [e1]; exact getBang_of this
        have hH : HoldsK enc k w b l.off xs.toArray := fun t ht => by
          have ht' : t < xs.length * k := by simpa using ht
          obtain ⟨v, q1, q2⟩ := hcell t ht'
          refine ⟨?_, ?_⟩
          · show w.cell? _ = some (flatK enc k xs.toArray)[t]!
            rw [q2]; simp [World.cell?, hw, q1]
          · simp [World.frozen?, hw]
        have hcmp' : CmpLays P c #[] enc k cf b l.off xs.toArray.size w := fun m os dk _ x y => hcmp x y _
        refine (AnyQ.slices_SortFunc L k aE zE enc hk h1 cf hO c #[] b l.off cap xs.toArray w eg hcmp' hH hlt (by simpa using hsz)).mono ?_
        rintro e w' ⟨rfl, d', n, os, ⟨p1, p2, p3⟩, hsort, rfl⟩
        have hlen : d'.size = xs.length := by simpa using p1
        have hperm : d'.toList.Perm xs := by
          have q1 : d'.extract 0 xs.toArray.size = d' := by rw [← p1]; simp
          have q2 : xs.toArray.extract 0 xs.toArray.size = xs.toArray := by simp
          rw [q1, q2] at p3; exact p3
        have hpw : d'.toList.Pairwise (fun a b => ¬ cf b a < 0) := by
          rw [List.pairwise_iff_getElem]
          intro i j hi hj hij
          have := hsort i j (Nat.zero_le _) hij (by simp at hj; rw [← p1]; exact hj)
          rw [getElem!_pos d' j (by simpa using hj), getElem!_pos d' i (by simpa using hi)] at this
          simpa [ltOf] using this
        obtain ⟨s1, s2, s3, s4, s5⟩ := sortWorld_at enc k w b l.off n d' os hw
        have hup := hs.upd (E' := E) (w' := sortWorldK enc k w b l.off n d' os) (obj' := .row st k (d'.toList.map G)) (b := b) (t := b) hOo (.inl (by simp [GObj.blk, hl, hb])) (.inl rfl) (.refl E) hs.fin ⟨rfl, rfl⟩ s1 ⟨s2, trivial⟩ s3 s4 (fun _ _ _ _ hv => hv)
          (fun o v hv => by rw [hsn o] at hv; cases hv)
          (by
            refine ⟨l, hl, hsz', fun y hy => ?_, ?_⟩
            · obtain ⟨z, _, rfl⟩ := List.mem_map.1 hy; exact hG z
            rw [hb]
            refine ⟨_, el, s5, by rw [putCells_size]; exact hcs', by simp [hlen]; rw [← hcs']; exact hle', fun j g hj => ?_, hsn⟩
            rw [flatMap_at G k hG] at hj
            cases hq : d'.toList[j / k]? with
            | none => rw [hq] at hj; cases hj
            | some x =>
              rw [hq] at hj
              have hj' : (G x)[j % k]? = some g := hj
              obtain ⟨v, q1, q2⟩ := hback E x _ g hj'
              have hi : j / k < d'.size := by simpa using (List.getElem?_eq_some_iff.1 hq).1
              have hk0 : 0 < k := Nat.pos_of_ne_zero fun e => by
                have := (List.getElem?_eq_some_iff.1 hj').1; rw [hG, e] at this; omega
              have hjk : j < d'.size * k := (Nat.div_lt_iff_lt_mul hk0).1 hi
              have e3 : d'[j / k]! = x := by
                rw [getElem!_pos d' (j / k) hi]
                have := (List.getElem?_eq_some_iff.1 hq).2
                simpa using this
              refine ⟨v, ?_, h1 x v (List.mem_of_getElem? q1), q2⟩
              rw [putCells_at l.off _ _ j (by simpa using hjk) (by rw [hlen] at hjk; omega), get_flatK _ _ _ _ hjk, e3, getBang_of q1])
          (fun kk hkk => by simp [GObj.blk, hl, hb] at hkk; exact hkk.symm)
        exact ⟨_, E, _, .tuple [], rfl, hup.1, hup.2, .tuple _ _ rfl (fun j g h => by simp at h), rfl, d'.toList, hperm, hpw, rfl⟩
end Gv
/- slices.SortFunc of spans by their low ends, as a contract. -/
set_option linter.unusedVariables false
set_option maxRecDepth 100000
namespace Go.Proofs
open Go.Shelf
def Try.sortSp_ren : Go.Shelf.Ren := ⟨fun | 6 => 42 | 15 => 53 | 14 => 52 | 28 => 64 | 29 => 65 | 20 => 56 | 21 => 57 | 22 => 58 | 23 => 59 | 24 => 60 | 25 => 61 | 26 => 62 | 27 => 63 | 46 => 66 | 47 => 67 | 48 => 68 | 49 => 69 | 50 => 70 | 57 => 71 | n => n, fun | 22 => 23 | 24 => 29 | 25 => 48 | 3 => 3 | 39 => 59 | 0 => 0 | 53 => 70 | 55 => 72 | 4 => 4 | 46 => 64 | 45 => 63 | 50 => 42 | 5 => 5 | 9 => 9 | 66 => 73 | 70 => 77 | 76 => 79 | 77 => 80 | n => n, fun | n => n⟩
theorem Try.sortSp : Go.Proofs.SlLaysF0.n6 Try.prog Try.sortSp_ren := {
  mixed := by kernel_rfl
  f6 := ⟨Try.f42.name, by decide, Try.func42.trans (congrArg some (by kernel_rfl))⟩
  f14 := ⟨Try.f52.name, by decide, Try.func52.trans (congrArg some (by kernel_rfl))⟩
  f15 := Try.func53.trans (congrArg some (by kernel_rfl))
  f20 := ⟨Try.f56.name, by decide, Try.func56.trans (congrArg some (by kernel_rfl))⟩
  f21 := ⟨Try.f57.name, by decide, Try.func57.trans (congrArg some (by kernel_rfl))⟩
  f22 := ⟨Try.f58.name, by decide, Try.func58.trans (congrArg some (by kernel_rfl))⟩
  f23 := ⟨Try.f59.name, by decide, Try.func59.trans (congrArg some (by kernel_rfl))⟩
  f24 := ⟨Try.f60.name, by decide, Try.func60.trans (congrArg some (by kernel_rfl))⟩
  f25 := ⟨Try.f61.name, by decide, Try.func61.trans (congrArg some (by kernel_rfl))⟩
  f26 := ⟨Try.f62.name, by decide, Try.func62.trans (congrArg some (by kernel_rfl))⟩
  f27 := ⟨Try.f63.name, by decide, Try.func63.trans (congrArg some (by kernel_rfl))⟩
  f28 := Try.func64.trans (congrArg some (by kernel_rfl))
  f29 := Try.func65.trans (congrArg some (by kernel_rfl))
  f46 := ⟨Try.f66.name, by decide, Try.func66.trans (congrArg some (by kernel_rfl))⟩
  f47 := Try.func67.trans (congrArg some (by kernel_rfl))
  f48 := Try.func68.trans (congrArg some (by kernel_rfl))
  f49 := ⟨Try.f69.name, by decide, Try.func69.trans (congrArg some (by kernel_rfl))⟩
  f50 := ⟨Try.f70.name, by decide, Try.func70.trans (congrArg some (by kernel_rfl))⟩
  f57 := ⟨Try.f71.name, by decide, Try.func71.trans (congrArg some (by kernel_rfl))⟩
  t0 := Try.underlying0
  a0 := Try.isAgg0
  z0 := Try.sizeOf0
  v0 := Try.zeroValue0
  t3 := Try.underlying3
  a3 := Try.isAgg3
  z3 := Try.sizeOf3
  v3 := Try.zeroValue3
  t4 := Try.underlying4
  a4 := Try.isAgg4
  z4 := Try.sizeOf4
  v4 := Try.zeroValue4
  t5 := Try.underlying5
  a5 := Try.isAgg5
  z5 := Try.sizeOf5
  v5 := Try.zeroValue5
  t9 := Try.underlying9
  a9 := Try.isAgg9
  z9 := Try.sizeOf9
  v9 := Try.zeroValue9
  t22 := Try.underlying23
  a22 := Try.isAgg23
  z22 := Try.sizeOf23
  v22 := Try.zeroValue23
  t25 := Try.underlying48
  a25 := Try.isAgg48
  z25 := Try.sizeOf48
  v25 := Try.zeroValue48
  t39 := Try.underlying59
  a39 := Try.isAgg59
  z39 := Try.sizeOf59
  v39 := Try.zeroValue59
  t45 := Try.underlying63
  a45 := Try.isAgg63
  z45 := Try.sizeOf63
  v45 := Try.zeroValue63
  t46 := Try.underlying64
  a46 := Try.isAgg64
  z46 := Try.sizeOf64
  v46 := Try.zeroValue64
  t50 := Try.underlying42
  a50 := Try.isAgg42
  z50 := Try.sizeOf42
  v50 := Try.zeroValue42
  t53 := Try.underlying70
  a53 := Try.isAgg70
  z53 := Try.sizeOf70
  v53 := Try.zeroValue70
  t55 := Try.underlying72
  a55 := Try.isAgg72
  z55 := Try.sizeOf72
  v55 := Try.zeroValue72
  t66 := Try.underlying73
  a66 := Try.isAgg73
  z66 := Try.sizeOf73
  v66 := Try.zeroValue73
  t70 := Try.underlying77
  a70 := Try.isAgg77
  z70 := Try.sizeOf77
  v70 := Try.zeroValue77
  t76 := Try.underlying79
  a76 := Try.isAgg79
  z76 := Try.sizeOf79
  v76 := Try.zeroValue79
  t77 := Try.underlying80
  a77 := Try.isAgg80
  z77 := Try.sizeOf80
  v77 := Try.zeroValue80 }
def Try.cmpInt_ren : Go.Shelf.Ren := ⟨fun | 5 => 44 | 7 => 54 | n => n, fun | 22 => 3 | 3 => 3 | 4 => 4 | n => n, fun | n => n⟩
theorem Try.cmpInt : Go.Proofs.SlLaysC2.n5 Try.prog Try.cmpInt_ren := {
  mixed := by kernel_rfl
  f5 := ⟨Try.f44.name, by decide, Try.func44.trans (congrArg some (by kernel_rfl))⟩
  f7 := ⟨Try.f54.name, by decide, Try.func54.trans (congrArg some (by kernel_rfl))⟩
  t3 := Try.underlying3
  a3 := Try.isAgg3
  z3 := Try.sizeOf3
  v3 := Try.zeroValue3
  t4 := Try.underlying4
  a4 := Try.isAgg4
  z4 := Try.sizeOf4
  v4 := Try.zeroValue4
  t22 := Try.underlying3
  a22 := Try.isAgg3
  z22 := Try.sizeOf3
  v22 := Try.zeroValue3 }
end Go.Proofs
namespace Gv.Try
open Go Gv Go.Proofs Go.Shelf Go.RowKit Go.Lib Go.Sort
set_option maxHeartbeats 2000000 in
theorem sortClosure (x y : Sp.S) (W : World) : Calls Try.prog 43 #[.agg #[.int .i64 x.1, .int .i64 x.2], .agg #[.int .i64 y.1, .int .i64 y.2]] W fun e w' => e = .returned (.int .i64 (Lib.compareInt x.1 y.1)) ∧ ∃ q os', w' = grow (W.drewN q) os' := by
  have hcon := fun W' => AnyG.cmp_Compare_int Try.cmpInt x.1 y.1 W'
  change ∀ W', Calls Try.prog 44 _ _ _ at hcon
  generalize Lib.compareInt x.1 y.1 = r at hcon ⊢
  go_enter Try.func43, Try.ntmps43
  go_wp2_with (go_at_call 44; refine (hcon _).mono ?_; rintro e w' ⟨rfl, rfl⟩)
  go_ret
  exact ⟨rfl, 0, _, by rw [alloc_eq_grow, alloc_eq_grow, grow_grow]; rfl⟩

theorem ltLo (x y : Sp.S) : ltOf (fun x y : Sp.S => Lib.compareInt x.1 y.1) x y = decide (x.1 < y.1) := by
  unfold ltOf Lib.compareInt
  by_cases h1 : x.1 < y.1
  · simp [h1]
  · by_cases h2 : y.1 < x.1 <;> simp [h1, h2]
theorem swoLo : SWO (ltOf fun x y : Sp.S => Lib.compareInt x.1 y.1) where
  irrefl x := by rw [ltLo]; simp
  trans x y z h1 h2 := by rw [ltLo] at *; simp at *; omega
  ntrans x y z h1 h2 := by rw [ltLo] at *; simp at *; omega
def encSp (s : Sp.S) : List Value := [.int .i64 s.1, .int .i64 s.2]

theorem sSort (xs : List Sp.S) (hsz : xs.length < 4611686018427387904) {O : List GObj} {o st : Nat} (hO : O[o]? = some (.row st 2 (spl xs))) (hc : clockOf O = none) :
    GCalls Try.prog 42 [.own o st 0 xs.length, .func (.func 43) [] []] O (fun r O' => r = .tuple [] ∧ ∃ ys : List Sp.S, ys.Perm xs ∧ ys.Pairwise (fun a b => a.1 ≤ b.1) ∧ O' = O.set o (.row st 2 (spl ys))) := by
  have h := gcalls_sort (α := Sp.S) Try.sortSp 2 Try.isAgg29 Try.sizeOf29 encSp spG (fun _ => rfl)
    (fun x v hv => by simp [encSp] at hv; rcases hv with rfl | rfl <;> rfl) (fun _ => rfl)
    (fun E x j g v hg hv => by
      match j, hg with
      | 0, hg => simp [spG] at hg; subst hg; cases hv; rfl
      | 1, hg => simp [spG] at hg; subst hg; cases hv; rfl
      | j + 2, hg => simp [spG] at hg)
    (fun E x j g hg => by
      match j, hg with
      | 0, hg => simp [spG] at hg; subst hg; exact ⟨_, rfl, .int _ _⟩
      | 1, hg => simp [spG] at hg; subst hg; exact ⟨_, rfl, .int _ _⟩
      | j + 2, hg => simp [spG] at hg)
    (fun x y => Lib.compareInt x.1 y.1) swoLo 43 (enters_of Try.func43 (by kernel_rfl) rfl) (fun x y W => sortClosure x y W) (by kernel_rfl) xs hsz hO hc
  refine h.mono ?_
  rintro g O' ⟨rfl, ys, h1, h2, rfl⟩
  refine ⟨rfl, ys, h1, h2.imp fun {a b} hab => ?_, rfl⟩
  have := ltLo b a
  unfold ltOf at this
  have h3 : decide (b.1 < a.1) = false := by rw [← this]; exact decide_eq_false hab
  have := of_decide_eq_false h3
  omega
end Gv.Try
/- Contract: spans.Make. -/
set_option linter.unusedVariables false
set_option linter.unusedSimpArgs false
set_option maxRecDepth 20000
set_option maxHeartbeats 4000000
namespace Gv.Try
open Go Gv Go.Proofs

def clampL : List Sp.S → List Sp.S
  | [] => []
  | s :: r => (if max s.1 0 ≤ s.2 then [(max s.1 0, s.2)] else []) ++ clampL r
theorem clampL_app : ∀ (a b : List Sp.S), clampL (a ++ b) = clampL a ++ clampL b
  | [], b => rfl
  | s :: r, b => by simp [clampL, clampL_app r b]
theorem clampL_step (l : List Sp.S) (k : Nat) (h : k < l.length) : clampL (l.take (k + 1)) = clampL (l.take k) ++ (if max (l.getD k (0, 0)).1 0 ≤ (l.getD k (0, 0)).2 then [(max (l.getD k (0, 0)).1 0, (l.getD k (0, 0)).2)] else []) := by
  rw [take_getD h, clampL_app]; simp [clampL]
theorem clampL_len (l : List Sp.S) : (clampL l).length ≤ l.length := by
  induction l with
  | nil => simp [clampL]
  | cons s r ih => unfold clampL; split <;> simp <;> omega
theorem clampL_take (l : List Sp.S) (k : Nat) : (clampL (l.take k)).length ≤ l.length := by
  have := clampL_len (l.take k); simp at this; omega
theorem clampL_has (n : Int) (l : List Sp.S) : Sp.has (clampL l) n ↔ Sp.has l n := by
  induction l with
  | nil => rfl
  | cons s r ih =>
    unfold clampL
    rw [Sp.has_app, ih, Sp.has_cons]
    refine or_congr ?_ Iff.rfl
    split
    · simp only [Sp.has_cons, Sp.has_nil, or_false]; omega
    · rw [Sp.has_nil]; exact ⟨False.elim, fun h => by omega⟩
theorem clampL_mem (l : List Sp.S) : ∀ s ∈ clampL l, 0 ≤ s.1 ∧ s.1 ≤ s.2 := by
  induction l with
  | nil => simp [clampL]
  | cons x r ih =>
    intro s hs
    unfold clampL at hs
    rcases List.mem_append.1 hs with h | h
    · split at h
      · simp at h; subst h; rename_i h'; exact ⟨by show 0 ≤ max _ _; omega, h'⟩
      · simp at h
    · exact ih s h
theorem clampL_ok {l : List Sp.S} (h : Sp.Ok l) : Sp.Ok (clampL l) := by
  induction l with
  | nil => exact h
  | cons x r ih =>
    intro s hs
    unfold clampL at hs
    rcases List.mem_append.1 hs with h' | h'
    · split at h'
      · simp at h'; subst h'
        have := h x (by simp)
        exact ⟨⟨by show _ ≤ max _ _; omega, by show max _ _ ≤ _; omega⟩, this.2⟩
      · simp at h'
    · exact ih (fun z hz => h z (by simp [hz])) s h'
/-- the state of the merge -/
def MOk (zs out : List Sp.S) : Prop := Sp.Rt 0 out ∧ (∀ n, Sp.has out n ↔ Sp.has zs n) ∧ (∀ x ∈ out, ∃ z ∈ zs, x.1 = z.1) ∧ out.length ≤ zs.length ∧ Sp.Ok out
theorem MOk.more {zs out : List Sp.S} (h : MOk zs out) (s : Sp.S) (hs : 0 ≤ s.1 ∧ s.1 ≤ s.2 ∧ s.2 ≤ 9223372036854775807) (hge : ∀ z ∈ zs, z.1 ≤ s.1) (hq : ∀ x, out.getLast? = some x → x.2 + 1 < s.1) : MOk (zs ++ [s]) (out ++ [s]) := by
  obtain ⟨h1, h2, h3, h4, h5⟩ := h
  refine ⟨(Sp.Rt_snoc s out 0).2 ⟨h1, hs.1, hs.2.1, fun y hy => ?_⟩, fun n => by rw [Sp.has_app, Sp.has_app, h2], fun x hx => ?_, by simp; omega, h5.app (fun x hx => by simp at hx; subst hx; omega)⟩
  · rcases List.eq_nil_or_concat out with e | ⟨A, x, e⟩
    · subst e; simp at hy
    · rw [List.concat_eq_append] at e; subst e
      have := hq x (by simp)
      rcases List.mem_append.1 hy with h | h
      · have q := ((Sp.Rt_snoc x A 0).1 h1).2.2.2 y h
        have := ((Sp.Rt_snoc x A 0).1 h1).2.2.1
        omega
      · simp at h; subst h; omega
  · rcases List.mem_append.1 hx with h | h
    · obtain ⟨z, hz, e⟩ := h3 x h; exact ⟨z, by simp [hz], e⟩
    · exact ⟨s, by simp, by simp at h; rw [h]⟩
theorem MOk.grow {zs A : List Sp.S} {x : Sp.S} (h : MOk zs (A ++ [x])) (s : Sp.S) (hs : 0 ≤ s.1 ∧ s.1 ≤ s.2 ∧ s.2 ≤ 9223372036854775807) (hge : ∀ z ∈ zs, z.1 ≤ s.1) (hq : s.1 ≤ x.2 + 1) : MOk (zs ++ [s]) (A ++ [(x.1, max x.2 s.2)]) := by
  obtain ⟨h1, h2, h3, h4, h5⟩ := h
  obtain ⟨r1, r2, r3, r4⟩ := (Sp.Rt_snoc x A 0).1 h1
  obtain ⟨z, hz, ez⟩ := h3 x (by simp)
  have hz' := hge z hz
  refine ⟨(Sp.Rt_snoc _ A 0).2 ⟨r1, r2, by show x.1 ≤ max _ _; omega, r4⟩, fun n => ?_, fun y hy => ?_, by simp at *; omega, fun y hy => ?_⟩
  · have := h2 n
    rw [Sp.has_app, Sp.has_cons, Sp.has_nil] at this
    rw [Sp.has_app, Sp.has_app, Sp.has_cons, Sp.has_cons, Sp.has_nil, ← this]
    simp only [or_false, or_assoc]
    refine or_congr Iff.rfl ?_
    omega
  · rcases List.mem_append.1 hy with h | h
    · obtain ⟨z, hz, e⟩ := h3 y (by simp [h]); exact ⟨z, by simp [hz], e⟩
    · simp at h; subst h; exact ⟨z, by simp [hz], ez⟩
  · rcases List.mem_append.1 hy with h | h
    · exact h5 y (by simp [h])
    · simp at h; subst h
      have := h5 x (by simp)
      exact ⟨this.1, by show _ ≤ max _ _; omega, by show max _ _ ≤ _; omega⟩

theorem cMake (l : List Sp.S) (t : Tag) (hl : l.length ≤ 4398046511104) (ho : Sp.Ok l) :
    GCalls Try.prog 15 [.slice (spl l) t] [] (fun g O' => ∃ st0 st1 ys, g = .own 1 st1 0 (Sp.nf l).length ∧ O' = [.row st0 2 (spl ys), .row st1 2 (spl (Sp.nf l))]) := by
  refine h15.calls mixS (by simp) ?_
  simp only [gstart, s15, List.cons_append, List.nil_append, List.length_cons, List.length_nil, Nat.reduceAdd, Nat.reduceSub, List.replicate_succ, List.replicate_zero]
  simp +contextual -implicitDefEqProofs (maxSteps := 2000000) (disch := omega) only [drawC, ↓lenV, binV, ↓unV, optV, ↓loadV, ↓storeV, ↓fieldAddrV, ↓indexAddrV, ↓allocV, ↓buildSliceV, ↓sliceV, ↓appendV, ↓srcV, ↓minV, bound, cutTag, hiTag, fillE, GVal.cells, grp, GVal.ofConst, ↓resV, resG, List.map, List.headD, List.take, List.drop, ↓reduceIte, Nat.reduceEqDiff, Nat.reduceAdd, Nat.reduceSub, Nat.reduceLeDiff, reduceCtorEq, implies_true, ne_eq, ↓asrcV, Tag.cap, List.replicate, allSolid, GVal.solid, Nat.reduceBEq, Nat.reduceMul, Nat.reduceLT, List.length_map, List.length_range, splice, vcA, ↓vcB, vcC, fbSpc, e15, spl_length]
  refine vcSLoop_by (ι := { p : Nat × Nat // p.1 ≤ l.length }) (fun p => ⟨[.slice (spl l) t, .any, .any, .own 0 p.1.2 0 (clampL (l.take p.1.1)).length, .slice [] .nil, .any, .any, .any, .any, .any, .slice (spl l) t, .int .i64 l.length, .int .i64 (p.1.1 : Nat)] ++ List.replicate 59 .any, [.row p.1.2 2 (spl (clampL (l.take p.1.1)))]⟩) (fun p => l.length - p.1.1) ?_ ?_
  · refine Into.row 3 2 rfl rfl ?_
    simp +contextual -implicitDefEqProofs (maxSteps := 2000000) (disch := omega) only [drawC, ↓lenV, binV, ↓unV, optV, ↓loadV, ↓storeV, ↓fieldAddrV, ↓indexAddrV, ↓allocV, ↓buildSliceV, ↓sliceV, ↓appendV, ↓srcV, ↓minV, bound, cutTag, hiTag, fillE, GVal.cells, grp, GVal.ofConst, ↓resV, resG, List.map, List.headD, List.take, List.drop, ↓reduceIte, Nat.reduceEqDiff, Nat.reduceAdd, Nat.reduceSub, Nat.reduceLeDiff, reduceCtorEq, implies_true, ne_eq, ↓asrcV, Tag.cap, List.replicate, allSolid, GVal.solid, Nat.reduceBEq, Nat.reduceMul, Nat.reduceLT, List.length_map, List.length_range, splice, vcA, ↓vcB, vcC, fbSpc, e15]
    intro t0
    exact Into.first ⟨(0, t0), by omega⟩ ⟨[], by simp [clampL, spl]⟩ (by simp [WL, leG_self, leG_any, clampL])
  · rintro ⟨⟨k, v⟩, hk⟩
    change k ≤ l.length at hk
    have hs := ho.at k
    have hcl := clampL_take l k
    have hk' : k = l.length → l.take k = l := fun e => by rw [e, List.take_length]
    by_cases h : k < l.length
    · have d0 : ((k : Int) < (l.length : Int)) = True := eq_true (by omega)
      have eS := spl_at l k h
      have eN := clampL_step l k h
      generalize l.getD k (0, 0) = s at *
      generalize clampL (l.take k) = A at *
      simp +contextual -implicitDefEqProofs (maxSteps := 2000000) (disch := omega) only [drawC, ↓lenV, binV, ↓unV, optV, ↓loadV, ↓storeV, ↓fieldAddrV, ↓indexAddrV, ↓allocV, ↓buildSliceV, ↓sliceV, ↓appendV, ↓srcV, ↓minV, bound, cutTag, hiTag, fillE, GVal.cells, grp, GVal.ofConst, ↓resV, resG, List.map, List.headD, List.take, List.drop, ↓reduceIte, Nat.reduceEqDiff, Nat.reduceAdd, Nat.reduceSub, Nat.reduceLeDiff, reduceCtorEq, implies_true, ne_eq, ↓asrcV, Tag.cap, List.replicate, allSolid, GVal.solid, Nat.reduceBEq, Nat.reduceMul, Nat.reduceLT, List.length_map, List.length_range, splice, vcA, ↓vcB, vcC, fbSpc, e15, spl_length, d0, eS, spG, all_spl]
      refine ⟨by omega, fun st => ⟨fun h1 => ⟨by omega, by omega, by omega, fun st_1 => ?_⟩, fun h1 => ?_⟩⟩
      · rw [if_pos h1] at eN
        have eO : List.take A.length (spl A) ++ [[.int .i64 (max s.1 0), .int .i64 s.2]] = spl (clampL (l.take (k + 1))) := by
          rw [List.take_of_length_le (by rw [spl_length]; exact Nat.le_refl _), eN, spl_append, spl_one]; rfl
        have eL : A.length + 1 = (clampL (l.take (k + 1))).length := by rw [eN]; simp
        refine Into.at ⟨(k + 1, st_1), by show k + 1 ≤ _; omega⟩ (by show _ < _; simp; omega) ⟨[.row st 2 [[.int .i64 (max s.1 0), .int .i64 s.2]]], by rw [eO]; rfl⟩ ?_
        simp [WL, leG_self, leG_any, eL]
      · rw [if_neg (by omega), List.append_nil] at eN
        refine Into.at ⟨(k + 1, v), by show k + 1 ≤ _; omega⟩ (by show _ < _; simp; omega) ⟨[.row st 2 [[.int .i64 (max s.1 0), .int .i64 s.2]]], by rw [eN]; rfl⟩ ?_
        simp [WL, leG_self, leG_any, eN]
    · have e : k = l.length := by omega
      rw [hk' e] at *
      clear hk'
      subst e
      have hm := clampL_mem l
      have hh := fun n => clampL_has n l
      have hok := clampL_ok ho
      have hxl := clampL_len l
      generalize clampL l = xs at *
      have d0 : ((l.length : Int) < (l.length : Int)) = False := eq_false (by omega)
      simp +contextual -implicitDefEqProofs (maxSteps := 2000000) (disch := omega) only [drawC, ↓lenV, binV, ↓unV, optV, ↓loadV, ↓storeV, ↓fieldAddrV, ↓indexAddrV, ↓allocV, ↓buildSliceV, ↓sliceV, ↓appendV, ↓srcV, ↓minV, bound, cutTag, hiTag, fillE, GVal.cells, grp, GVal.ofConst, ↓resV, resG, List.map, List.headD, List.take, List.drop, ↓reduceIte, Nat.reduceEqDiff, Nat.reduceAdd, Nat.reduceSub, Nat.reduceLeDiff, reduceCtorEq, implies_true, ne_eq, ↓asrcV, Tag.cap, List.replicate, allSolid, GVal.solid, Nat.reduceBEq, Nat.reduceMul, Nat.reduceLT, List.length_map, List.length_range, splice, vcA, ↓vcB, vcC, fbSpc, e15, spl_length, d0]
      refine (sSort xs (by omega) rfl rfl).mono ?_
      rintro _ _ ⟨rfl, ys, hp, hw, rfl⟩
      have hyl : ys.length = xs.length := hp.length_eq
      have hym : ∀ s ∈ ys, (0 ≤ s.1 ∧ s.1 ≤ s.2) ∧ s.2 ≤ 9223372036854775807 := fun s hs => ⟨hm s (hp.mem_iff.1 hs), (hok s (hp.mem_iff.1 hs)).2.2⟩
      have hyh : ∀ n, Sp.has ys n ↔ Sp.has l n := fun n => by rw [Sp.has_perm hp, hh]
      rw [← hyl]
      simp +contextual -implicitDefEqProofs (maxSteps := 2000000) (disch := omega) only [drawC, ↓lenV, binV, ↓unV, optV, ↓loadV, ↓storeV, ↓fieldAddrV, ↓indexAddrV, ↓allocV, ↓buildSliceV, ↓sliceV, ↓appendV, ↓srcV, ↓minV, bound, cutTag, hiTag, fillE, GVal.cells, grp, GVal.ofConst, ↓resV, resG, List.map, List.headD, List.take, List.drop, ↓reduceIte, Nat.reduceEqDiff, Nat.reduceAdd, Nat.reduceSub, Nat.reduceLeDiff, reduceCtorEq, implies_true, ne_eq, ↓asrcV, Tag.cap, List.replicate, allSolid, GVal.solid, Nat.reduceBEq, Nat.reduceMul, Nat.reduceLT, List.length_map, List.length_range, splice, vcA, ↓vcB, vcC, fbSpc, e15, spl_length]
      refine vcSLoop_by (ι := { p : Nat × List Sp.S × Nat // p.1 ≤ ys.length ∧ MOk (ys.take p.1) p.2.1 }) (fun p => ⟨[.any, .any, .any, .any, .own 1 p.1.2.2 0 p.1.2.1.length] ++ List.replicate 27 .any ++ [.own 0 v 0 ys.length, .int .i64 ys.length, .int .i64 (p.1.1 : Nat)] ++ List.replicate 37 .any, [.row v 2 (spl ys), .row p.1.2.2 2 (spl p.1.2.1)]⟩) (fun p => ys.length - p.1.1) ?_ ?_
      · refine Into.row 4 2 rfl rfl ?_
        simp +contextual -implicitDefEqProofs (maxSteps := 2000000) (disch := omega) only [drawC, ↓lenV, binV, ↓unV, optV, ↓loadV, ↓storeV, ↓fieldAddrV, ↓indexAddrV, ↓allocV, ↓buildSliceV, ↓sliceV, ↓appendV, ↓srcV, ↓minV, bound, cutTag, hiTag, fillE, GVal.cells, grp, GVal.ofConst, ↓resV, resG, List.map, List.headD, List.take, List.drop, ↓reduceIte, Nat.reduceEqDiff, Nat.reduceAdd, Nat.reduceSub, Nat.reduceLeDiff, reduceCtorEq, implies_true, ne_eq, ↓asrcV, Tag.cap, List.replicate, allSolid, GVal.solid, Nat.reduceBEq, Nat.reduceMul, Nat.reduceLT, List.length_map, List.length_range, splice, vcA, ↓vcB, vcC, fbSpc, e15]
        intro t1
        exact Into.first ⟨(0, [], t1), by omega, by simp [MOk, Sp.Rt, Sp.has, Sp.Ok]⟩ ⟨[], by simp [spl]⟩ (by simp [WL, leG_self, leG_any])
      · rintro ⟨⟨k, out, w⟩, hk, hM⟩
        change k ≤ ys.length at hk
        change MOk (ys.take k) out at hM
        by_cases h : k < ys.length
        · have d0 : ((k : Int) < (ys.length : Int)) = True := eq_true (by omega)
          have eS := spl_at ys k h
          have hs : (0 ≤ (ys.getD k (0, 0)).1 ∧ (ys.getD k (0, 0)).1 ≤ (ys.getD k (0, 0)).2) ∧ (ys.getD k (0, 0)).2 ≤ 9223372036854775807 := by
            rw [List.getD_eq_getElem?_getD, List.getElem?_eq_getElem h]; exact hym _ (List.getElem_mem h)
          have hge : ∀ z ∈ ys.take k, z.1 ≤ (ys.getD k (0, 0)).1 := fun z hz => by
            obtain ⟨i, hi, e⟩ := List.getElem_of_mem hz
            rw [List.length_take] at hi
            rw [List.getElem_take] at e
            have := (List.pairwise_iff_getElem.1 hw) i k (by omega) h (by omega)
            rw [List.getD_eq_getElem?_getD, List.getElem?_eq_getElem h, ← e]; exact this
          have eN := take_getD h
          generalize ys.getD k (0, 0) = s at *
          have hol : out.length ≤ ys.length := by have := hM.2.2.2.1; rw [List.length_take] at this; omega
          rcases List.eq_nil_or_concat out with e | ⟨A, x, e⟩
          · subst e
            have d3 : ((0 : Int) < 0) = False := eq_false (by omega)
            simp +contextual -implicitDefEqProofs (maxSteps := 2000000) (disch := omega) only [drawC, ↓lenV, binV, ↓unV, optV, ↓loadV, ↓storeV, ↓fieldAddrV, ↓indexAddrV, ↓allocV, ↓buildSliceV, ↓sliceV, ↓appendV, ↓srcV, ↓minV, bound, cutTag, hiTag, fillE, GVal.cells, grp, GVal.ofConst, ↓resV, resG, List.map, List.headD, List.take, List.drop, ↓reduceIte, Nat.reduceEqDiff, Nat.reduceAdd, Nat.reduceSub, Nat.reduceLeDiff, reduceCtorEq, implies_true, ne_eq, ↓asrcV, Tag.cap, List.replicate, allSolid, GVal.solid, Nat.reduceBEq, Nat.reduceMul, Nat.reduceLT, List.length_map, List.length_range, splice, vcA, ↓vcB, vcC, fbSpc, e15, spl_length, d0, d3, eS, spG, all_spl]
            refine ⟨by omega, h, h, fun st st_1 => ?_⟩
            refine Into.at ⟨(k + 1, [s], st_1), by show k + 1 ≤ _; omega, by show MOk _ _; rw [eN]; exact hM.more s ⟨hs.1.1, hs.1.2, hs.2⟩ hge (by simp)⟩ (by show _ < _; simp; omega) ⟨[.row st 2 [[.int .i64 s.1, .int .i64 s.2]]], by rfl⟩ ?_
            simp [WL, leG_self, leG_any]
          · rw [List.concat_eq_append] at e; subst e
            have hx := hM.2.2.2.2 x (by simp)
            have eX : (spl (A ++ [x])).getD A.length [] = spG x := by rw [spl_append, spl_one, ← spl_length A, getD_last]
            have eL : (A ++ [x]).length = A.length + 1 := by simp
            rw [eL] at hol ⊢
            have d1 : ((0 : Int) < ((A.length : Int) + 1)) = True := eq_true (by omega)
            have d2 : ((A.length : Int) + 1 - 1).toNat = A.length := by omega
            simp +contextual -implicitDefEqProofs (maxSteps := 2000000) (disch := omega) only [drawC, ↓lenV, binV, ↓unV, optV, ↓loadV, ↓storeV, ↓fieldAddrV, ↓indexAddrV, ↓allocV, ↓buildSliceV, ↓sliceV, ↓appendV, ↓srcV, ↓minV, bound, cutTag, hiTag, fillE, GVal.cells, grp, GVal.ofConst, ↓resV, resG, List.map, List.headD, List.take, List.drop, ↓reduceIte, Nat.reduceEqDiff, Nat.reduceAdd, Nat.reduceSub, Nat.reduceLeDiff, reduceCtorEq, implies_true, ne_eq, ↓asrcV, Tag.cap, List.replicate, allSolid, GVal.solid, Nat.reduceBEq, Nat.reduceMul, Nat.reduceLT, List.length_map, List.length_range, splice, vcA, ↓vcB, vcC, fbSpc, e15, spl_length, d0, d1, d2, eS, eX, eL, spG, all_spl]
            refine ⟨by omega, h, h, fun st => ⟨by omega, by omega, ?_⟩⟩
            refine (sBeyond s x (by omega) (by omega)).then ?_
            simp +contextual -implicitDefEqProofs (maxSteps := 2000000) (disch := omega) only [drawC, ↓lenV, binV, ↓unV, optV, ↓loadV, ↓storeV, ↓fieldAddrV, ↓indexAddrV, ↓allocV, ↓buildSliceV, ↓sliceV, ↓appendV, ↓srcV, ↓minV, bound, cutTag, hiTag, fillE, GVal.cells, grp, GVal.ofConst, ↓resV, resG, List.map, List.headD, List.take, List.drop, ↓reduceIte, Nat.reduceEqDiff, Nat.reduceAdd, Nat.reduceSub, Nat.reduceLeDiff, reduceCtorEq, implies_true, ne_eq, ↓asrcV, Tag.cap, List.replicate, allSolid, GVal.solid, Nat.reduceBEq, Nat.reduceMul, Nat.reduceLT, List.length_map, List.length_range, splice, vcA, ↓vcB, vcC, fbSpc, e15, spl_length, d0, d1, d2, eS, eX, eL, spG, all_spl]
            refine ⟨fun h5 => ⟨by omega, by omega, by omega, fun st_1 => ?_⟩, fun h5 => ⟨by omega, by omega, by omega, by omega, ?_⟩⟩
            · refine Into.at ⟨(k + 1, A ++ [x] ++ [s], st_1), by show k + 1 ≤ _; omega, by show MOk _ _; rw [eN]; exact hM.more s ⟨hs.1.1, hs.1.2, hs.2⟩ hge (fun z hz => by simp at hz; subst hz; exact h5)⟩ (by show _ < _; simp; omega) ⟨[.row st 2 [[.int .i64 s.1, .int .i64 s.2]]], ?_⟩ ?_
              · rw [List.take_of_length_le (by rw [spl_length, eL]; exact Nat.le_refl _), spl_append _ [s], spl_one]; rfl
              · simp [WL, leG_self, leG_any]
            · refine Into.at ⟨(k + 1, A ++ [(x.1, max x.2 s.2)], w), by show k + 1 ≤ _; omega, by show MOk _ _; rw [eN]; exact hM.grow s ⟨hs.1.1, hs.1.2, hs.2⟩ hge h5⟩ (by show _ < _; simp; omega) ⟨[.row st 2 [[.int .i64 s.1, .int .i64 s.2]]], ?_⟩ ?_
              · have := spl_setLast A x (x.1, max x.2 s.2)
                simp only [spG] at this
                rw [this]; rfl
              · simp [WL, leG_self, leG_any]
        · have d0 : ((k : Int) < (ys.length : Int)) = False := eq_false (by omega)
          have hk' : k = ys.length := by omega
          rw [hk', List.take_length] at hM
          simp +contextual -implicitDefEqProofs (maxSteps := 2000000) (disch := omega) only [drawC, ↓lenV, binV, ↓unV, optV, ↓loadV, ↓storeV, ↓fieldAddrV, ↓indexAddrV, ↓allocV, ↓buildSliceV, ↓sliceV, ↓appendV, ↓srcV, ↓minV, bound, cutTag, hiTag, fillE, GVal.cells, grp, GVal.ofConst, ↓resV, resG, List.map, List.headD, List.take, List.drop, ↓reduceIte, Nat.reduceEqDiff, Nat.reduceAdd, Nat.reduceSub, Nat.reduceLeDiff, reduceCtorEq, implies_true, ne_eq, ↓asrcV, Tag.cap, List.replicate, allSolid, GVal.solid, Nat.reduceBEq, Nat.reduceMul, Nat.reduceLT, List.length_map, List.length_range, splice, vcA, ↓vcB, vcC, fbSpc, e15, spl_length, d0]
          have eR : Sp.nf l = out := Sp.nf_eq hM.1 fun n => by rw [hM.2.1, hyh]
          rw [eR]
          exact ⟨v, w, ys, rfl, rfl⟩

theorem sMake (l : List Sp.S) (t : Tag) (hl : l.length ≤ 4398046511104) (ho : Sp.Ok l) : GPure Try.prog 15 [.slice (spl l) t] (.slice (spl (Sp.nf l)) .none) :=
  GCalls.toPure ((cMake l t hl ho).mono fun g O' ⟨st0, st1, ys, e1, e2⟩ => ⟨4, .slice (spl (Sp.nf l)) .none, by
    rw [e1, e2]; exact frz_own rfl (spl_length _).symm (frz_spl _ 2 _), by rw [leA_slice]⟩)
end Gv.Try
/- Sets of numbers: tests, a span taken away, counts. -/
set_option linter.unusedVariables false
namespace Gv.Sp
open Gv
def hasB (l : List S) (n : Int) : Bool := l.any fun s => decide (0 ≤ n) && (decide (s.1 ≤ n) && decide (n ≤ s.2))
theorem hasB_iff (l : List S) (n : Int) : hasB l n = true ↔ has l n := by
  simp only [hasB, List.any_eq_true, Bool.and_eq_true, decide_eq_true_eq, has]
theorem hasB_eq {a b : List S} {n : Int} (h : has a n ↔ has b n) : hasB a n = hasB b n := by
  rw [Bool.eq_iff_iff, hasB_iff, hasB_iff, h]
theorem hasB_cons (s : S) (l : List S) (n : Int) : hasB (s :: l) n = ((decide (0 ≤ n) && (decide (s.1 ≤ n) && decide (n ≤ s.2))) || hasB l n) := rfl
theorem ins_cons (x s : S) (r : List S) : ins (x :: r) s = if x.2 + 1 < s.1 then x :: ins r s else if s.2 + 1 < x.1 then s :: x :: r else ins r (min s.1 x.1, max s.2 x.2) := rfl
theorem ins_nil (s : S) : ins [] s = [s] := rfl
/-- a right list without a span -/
def cut : List S → S → List S
  | [], _ => []
  | s :: r, y => (if s.2 < y.1 ∨ y.2 < s.1 then [s] else (if s.1 < y.1 then [(s.1, y.1 - 1)] else []) ++ (if y.2 < s.2 then [(y.2 + 1, s.2)] else [])) ++ cut r y
theorem cut_app : ∀ (a b : List S) (y : S), cut (a ++ b) y = cut a y ++ cut b y
  | [], b, y => rfl
  | s :: r, b, y => by simp [cut, cut_app r b y]
theorem cut_len : ∀ (l : List S) (y : S), (cut l y).length ≤ 2 * l.length
  | [], y => by simp [cut]
  | s :: r, y => by
    unfold cut
    have := cut_len r y
    split
    · simp; omega
    · split <;> split <;> simp <;> omega
theorem cut_rt (y : S) (hy : y.1 ≤ y.2) : ∀ (l : List S) (b : Int), Rt b l → Rt b (cut l y)
  | [], b, _ => trivial
  | s :: r, b, ⟨h1, h2, h3⟩ => by
    have h := cut_rt y hy r _ h3
    unfold cut
    split
    · exact ⟨h1, h2, h⟩
    · split
      · split
        · exact ⟨h1, by show s.1 ≤ y.1 - 1; omega, by show y.1 - 1 + 2 ≤ y.2 + 1; omega, by show y.2 + 1 ≤ s.2; omega, h⟩
        · exact ⟨h1, by show s.1 ≤ y.1 - 1; omega, h.weak (by show y.1 - 1 + 2 ≤ _; omega)⟩
      · split
        · exact ⟨by show b ≤ y.2 + 1; omega, by show y.2 + 1 ≤ s.2; omega, h⟩
        · exact h.weak (by omega)
theorem cut_has (y : S) (hy : y.1 ≤ y.2) (n : Int) : ∀ (l : List S), has (cut l y) n ↔ has l n ∧ ¬ (y.1 ≤ n ∧ n ≤ y.2)
  | [] => by simp [cut, has_nil]
  | s :: r => by
    unfold cut
    rw [has_app, cut_has y hy n r, has_cons]
    have : has (if s.2 < y.1 ∨ y.2 < s.1 then [s] else (if s.1 < y.1 then [(s.1, y.1 - 1)] else []) ++ (if y.2 < s.2 then [(y.2 + 1, s.2)] else [])) n ↔ (0 ≤ n ∧ s.1 ≤ n ∧ n ≤ s.2) ∧ ¬ (y.1 ≤ n ∧ n ≤ y.2) := by
      split
      · simp only [has_cons, has_nil, or_false]; omega
      · rw [has_app]
        split <;> split <;> simp only [has_cons, has_nil, or_false, false_or] <;> exact ⟨fun h => by first | exact h.elim | omega, fun h => by omega⟩
    rw [this]
    constructor
    · rintro (⟨h, k⟩ | ⟨h, k⟩)
      · exact ⟨.inl h, k⟩
      · exact ⟨.inr h, k⟩
    · rintro ⟨h | h, k⟩
      · exact .inl ⟨h, k⟩
      · exact .inr ⟨h, k⟩
theorem cut_id (y : S) : ∀ (l : List S) (b : Int), Rt b l → y.2 < b → cut l y = l
  | [], b, _, _ => rfl
  | s :: r, b, ⟨h1, h2, h3⟩, h => by
    unfold cut
    rw [if_pos (by omega), cut_id y r _ h3 (by omega)]; rfl
theorem cut_len2 (y : S) (hy : y.1 ≤ y.2) : ∀ (l : List S) (b : Int), Rt b l → (cut l y).length ≤ l.length + 1
  | [], b, _ => by simp [cut]
  | s :: r, b, ⟨h1, h2, h3⟩ => by
    have ih := cut_len2 y hy r _ h3
    unfold cut
    split
    · simp; omega
    · by_cases h4 : y.2 < s.2
      · rw [cut_id y r _ h3 (by omega)]
        rw [if_pos h4]
        split <;> simp <;> omega
      · rw [if_neg h4]
        split <;> simp <;> omega
theorem cut_cons (s y : S) (r : List S) : cut (s :: r) y = (if s.2 < y.1 ∨ y.2 < s.1 then [s] else (if s.1 < y.1 then [(s.1, y.1 - 1)] else []) ++ (if y.2 < s.2 then [(y.2 + 1, s.2)] else [])) ++ cut r y := rfl
/-- all pairs' meets, so far -/
theorem has_take (N : List S) (k : Nat) (h : k < N.length) (n : Int) : has (N.take (k + 1)) n ↔ has (N.take k) n ∨ (0 ≤ n ∧ (N.getD k (0, 0)).1 ≤ n ∧ n ≤ (N.getD k (0, 0)).2) := by
  rw [take_getD h, has_app, has_cons, has_nil, or_false]
/-- how many -/
def tot : List S → Int
  | [] => 0
  | s :: r => (s.2 - s.1 + 1) + tot r
theorem tot_app : ∀ (a b : List S), tot (a ++ b) = tot a + tot b
  | [], b => by simp [tot]
  | s :: r, b => by simp only [List.cons_append, tot, tot_app r b]; omega
theorem tot_pos : ∀ {l : List S} {b : Int}, Rt b l → 0 ≤ tot l
  | [], _, _ => Int.le_refl _
  | s :: r, b, ⟨h1, h2, h3⟩ => by have := tot_pos h3; unfold tot; omega
theorem cnt_step (N : List S) (k : Nat) (h : k < N.length) : tot (N.take (k + 1)) = tot (N.take k) + ((N.getD k (0, 0)).2 - (N.getD k (0, 0)).1 + 1) := by
  rw [take_getD h, tot_app]; simp [tot]
theorem tot_le {N : List S} (h : Rt 0 N) (k : Nat) : tot (N.take k) ≤ tot N := by
  have e : tot N = tot (N.take k) + tot (N.drop k) := by rw [← tot_app, List.take_append_drop]
  have : ∀ (l : List S) (b : Int) (k : Nat), Rt b l → 0 ≤ tot (l.drop k) := by
    intro l
    induction l with
    | nil => intro b k _; simp [tot]
    | cons s r ih =>
      intro b k hr
      cases k with
      | zero => exact tot_pos hr
      | succ k => exact ih _ k hr.2.2
  have := this N 0 k h
  omega
theorem tot_pre {N : List S} (h : Rt 0 N) (k : Nat) : 0 ≤ tot (N.take k) := by
  have : ∀ (l : List S) (b : Int) (k : Nat), Rt b l → 0 ≤ tot (l.take k) := by
    intro l
    induction l with
    | nil => intro b k _; simp [tot]
    | cons s r ih =>
      intro b k hr
      cases k with
      | zero => simp [tot]
      | succ k =>
        have h1 := ih _ k hr.2.2
        have h2 := hr.2.1
        simp only [List.take_succ_cons, tot]; omega
  exact this N 0 k h
/-- all pairs' meets -/
def meets (A B : List S) : List S := A.flatMap fun x => B.map fun y => (max x.1 y.1, min x.2 y.2)
theorem meets_has (A B : List S) (n : Int) : has (meets A B) n ↔ has A n ∧ has B n := by
  simp only [has, meets, List.mem_flatMap, List.mem_map]
  constructor
  · rintro ⟨s, ⟨x, hx, y, hy, rfl⟩, h0, h1, h2⟩
    simp only at h1 h2
    exact ⟨⟨x, hx, h0, by omega, by omega⟩, ⟨y, hy, h0, by omega, by omega⟩⟩
  · rintro ⟨⟨x, hx, h0, h1, h2⟩, ⟨y, hy, _, h3, h4⟩⟩
    exact ⟨_, ⟨x, hx, y, hy, rfl⟩, h0, by show max _ _ ≤ n; omega, by show n ≤ min _ _; omega⟩
theorem rt_mem_le {N : List S} (h : Rt 0 N) (i : Nat) (hi : i < N.length) : 0 ≤ (N.getD i (0, 0)).1 ∧ (N.getD i (0, 0)).1 ≤ (N.getD i (0, 0)).2 := h.at i hi
end Gv.Sp
