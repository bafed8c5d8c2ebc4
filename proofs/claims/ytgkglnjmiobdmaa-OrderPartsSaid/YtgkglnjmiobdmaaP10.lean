/- Contracts: the reference's graph: find, Has, Parents. -/
import Derived.Test.YtgkglnjmiobdmaaP9
import Derived.Test.YtgkglnjmiobdmaaP6
set_option linter.unusedVariables false
set_option linter.unusedSimpArgs false
set_option maxRecDepth 20000
set_option maxHeartbeats 4000000
namespace Gv.Try
open Go Gv Go.Proofs
abbrev rObj (rt : Nat) (L : GM) : List GObj := [.row rt 1 [[.slice (csG L) .none]]]
abbrev SSC (L : GM) : Prop := L.Pairwise fun a b => LT a.1 b.1
def findO (L : GM) (h : Hs) : Option Nat := L.findIdx? fun c => decide (c.1 = h)
def findZ (L : GM) (h : Hs) : Int := match findO L h with
  | some i => (i : Int)
  | none => -1
theorem find_look : ∀ (L : GM) (h : Hs), (∀ i, findO L h = some i → i < L.length ∧ look L h = some (L.getD i default).2 ∧ (L.getD i default).1 = h) ∧ (findO L h = none → look L h = none)
  | [], h => ⟨fun i e => by simp [findO] at e, fun _ => rfl⟩
  | c :: r, h => by
    unfold findO
    rw [List.findIdx?_cons, look]
    by_cases e : c.1 = h
    · rw [decide_eq_true e, if_pos e.symm]
      exact ⟨fun i hi => by simp at hi; subst hi; exact ⟨by simp, by simp, by simpa using e⟩, fun q => by simp at q⟩
    · rw [decide_eq_false e, if_neg (c := h = c.1) (fun q => e q.symm)]
      obtain ⟨h1, h2⟩ := find_look r h
      refine ⟨fun i hi => ?_, fun q => h2 (by unfold findO; simpa using q)⟩
      cases hr : findO r h with
      | none => unfold findO at hr; rw [hr] at hi; simp at hi
      | some j =>
        have hr' := hr
        unfold findO at hr'
        rw [hr'] at hi
        simp at hi
        subst hi
        obtain ⟨a, b, c⟩ := h1 j hr
        exact ⟨by simp; exact a, by simpa using b, by simpa using c⟩
theorem ssc_lt {L : GM} (h : SSC L) {i j : Nat} (h1 : i < j) (h2 : j < L.length) : LT (L.getD i default).1 (L.getD j default).1 := by
  have := (List.pairwise_iff_getElem.1 h) i j (by omega) h2 h1
  have e1 : L.getD i default = L[i] := by simp [List.getD, show i < L.length by omega]
  have e2 : L.getD j default = L[j] := by simp [List.getD, h2]
  rw [e1, e2]; exact this
theorem find_end {L : GM} (hL : SSC L) {h : Hs} {k : Nat} (hk : k ≤ L.length) (h1 : ∀ i, i < k → LT (L.getD i default).1 h) (h2 : ∀ i, k ≤ i → i < L.length → ¬ LT (L.getD i default).1 h) :
    (k < L.length → (L.getD k default).1 = h → findO L h = some k) ∧ ((k < L.length → (L.getD k default).1 ≠ h) → findO L h = none) := by
  have eg : ∀ i (q : i < L.length), L[i] = L.getD i default := fun i q => by simp [List.getD, q]
  refine ⟨fun a e => ?_, fun a => ?_⟩
  · unfold findO
    rw [List.findIdx?_eq_some_iff_getElem]
    refine ⟨a, by rw [eg k a]; exact decide_eq_true e, fun j hj => ?_⟩
    rw [eg j (by omega)]
    have := h1 j hj
    simp only [decide_eq_true_eq]
    intro q
    rw [q] at this
    exact LT.irrefl _ this
  · unfold findO
    rw [List.findIdx?_eq_none_iff]
    intro c hc
    obtain ⟨j, hj, rfl⟩ := List.getElem_of_mem hc
    rw [eg j hj]
    simp only [decide_eq_false_iff_not]
    intro q
    rcases Nat.lt_trichotomy j k with q1 | q1 | q1
    · have := h1 j q1
      rw [q] at this
      exact LT.irrefl _ this
    · subst q1; exact a hj q
    · have hk2 : k < L.length := by omega
      have n1 := a hk2
      have n2 := h2 k (Nat.le_refl _) hk2
      have l1 : LT h (L.getD k default).1 := LT.total (by cases e : ltB (L.getD k default).1.1 h.1 with | true => exact absurd e n2 | false => rfl) n1
      have l2 := ssc_lt hL q1 hj
      rw [q] at l2
      exact LT.irrefl _ (l1.trans l2)
theorem has_find (L : GM) (h : Hs) : decide (0 ≤ findZ L h) = (look L h).isSome := by
  obtain ⟨h1, h2⟩ := find_look L h
  unfold findZ
  cases e : findO L h with
  | none => rw [h2 e]; rfl
  | some i => rw [(h1 i e).2.1]; simp
theorem rFind (L : GM) (hL : SSC L) (hl : L.length ≤ 1000000) (h : Hs) (rt : Nat) : GCalls Try.prog 37 [.ptr 0 rt 0 0, .agg (bytesG h.1)] (rObj rt L) (fun g O' => g = .int .i64 (findZ L h) ∧ O' = rObj rt L) := by
  refine h37.calls mixS (by simp) ?_
  simp only [gstart, s37, List.cons_append, List.nil_append, List.length_cons, List.length_nil, Nat.reduceAdd, Nat.reduceSub, List.replicate_succ, List.replicate_zero]
  simp +contextual -implicitDefEqProofs (maxSteps := 2000000) (disch := omega) only [drawC, drawK, keepT, ↓lenV, binV, ↓loadV, ↓fieldAddrV, ↓indexAddrV, ↓boxV, ↓nilV, GVal.cells, grp, GVal.ofConst, ↓resV, resG, List.map, List.headD, List.take, List.drop, ↓reduceIte, Nat.reduceEqDiff, Nat.reduceAdd, Nat.reduceSub, Nat.reduceLeDiff, reduceCtorEq, implies_true, ne_eq, aggV, Tag.cap, List.replicate, allSolid, GVal.solid, Nat.reduceBEq, Nat.reduceMul, Nat.reduceLT, List.length_map, List.length_range, splice, vcA, ↓vcB, vcC, fbFd, e37, csG_len, take32, len32, solidH]
  refine vcSLoop_by (ι := { p : Nat × Nat // p.1 ≤ p.2 ∧ p.2 ≤ L.length ∧ (∀ i, i < p.1 → LT (L.getD i default).1 h) ∧ (∀ i, p.2 ≤ i → i < L.length → ¬ LT (L.getD i default).1 h) }) (fun p => ⟨[.ptr 0 rt 0 0, .any, .any, .ref (bytesG h.1), .any, .int .i64 (p.1.1 : Nat), .int .i64 (p.1.2 : Nat)] ++ List.replicate 46 .any, rObj rt L⟩) (fun p => p.1.2 - p.1.1) ?_ ?_
  · exact Into.first ⟨(0, L.length), Nat.zero_le _, Nat.le_refl _, fun i hi => by omega, fun i h1 h2 => by omega⟩ ⟨[], by simp⟩ (by simp [WL, leG_self, leG_any])
  · rintro ⟨⟨lo, hi⟩, hlh, hhl, ha, hb⟩
    change lo ≤ hi at hlh
    change hi ≤ L.length at hhl
    have ha : ∀ i, i < lo → LT (L.getD i default).1 h := ha
    have hb : ∀ i, hi ≤ i → i < L.length → ¬ LT (L.getD i default).1 h := hb
    by_cases hc : lo < hi
    · have d0 : ((lo : Int) < (hi : Int)) = True := eq_true (by omega)
      obtain ⟨m, hm⟩ : ∃ m, (lo + hi) / 2 = m := ⟨_, rfl⟩
      have em : ((lo : Int) + (hi : Int)).tdiv 2 = (m : Int) := by
        rw [show (lo : Int) + (hi : Int) = ((lo + hi : Nat) : Int) by omega, ← hm]; rfl
      have en : norm .i64 (m : Int) = (m : Int) := norm_i64 (by omega)
      have eS := csG_at L m (by omega)
      obtain ⟨xh, xp, hx⟩ : ∃ xh xp, L.getD m default = (xh, xp) := ⟨_, _, rfl⟩
      have hup : LT xh h → ∀ i, i < m + 1 → LT (L.getD i default).1 h := fun q i hi => by
        by_cases e : i = m
        · subst e; rw [hx]; exact q
        · have := ssc_lt hL (show i < m by omega) (by omega)
          rw [hx] at this
          exact LT.trans this q
      have hdn : ¬ LT xh h → ∀ i, m ≤ i → i < L.length → ¬ LT (L.getD i default).1 h := fun q i h1 h2 => by
        by_cases e : i = m
        · subst e; rw [hx]; exact q
        · have := ssc_lt hL (show m < i by omega) h2
          rw [hx] at this
          exact fun r => q (LT.trans this r)
      rw [hx] at eS
      have cL := hLessR xh.1 h.1 xh.2 h.2
      cases el : ltB xh.1 h.1 with
      | true =>
        rw [el] at cL
        simp +contextual -implicitDefEqProofs (maxSteps := 2000000) (disch := omega) only [drawC, drawK, keepT, ↓lenV, binV, ↓loadV, ↓fieldAddrV, ↓indexAddrV, ↓boxV, ↓nilV, GVal.cells, grp, GVal.ofConst, ↓resV, resG, List.map, List.headD, List.take, List.drop, ↓reduceIte, Nat.reduceEqDiff, Nat.reduceAdd, Nat.reduceSub, Nat.reduceLeDiff, reduceCtorEq, implies_true, ne_eq, aggV, Tag.cap, List.replicate, allSolid, GVal.solid, Nat.reduceBEq, Nat.reduceMul, Nat.reduceLT, List.length_map, List.length_range, splice, vcA, ↓vcB, vcC, fbFd, e37, d0, em, en, csG_len, eS, comG, take32a, drop32a, drop33a, take33a, len33, solid33, solidH, len32, take32]
        refine ⟨by decide, by omega, by omega, ?_⟩
        refine cL.then ?_ (by rfl)
        simp +contextual -implicitDefEqProofs (maxSteps := 2000000) (disch := omega) only [drawC, drawK, keepT, ↓lenV, binV, ↓loadV, ↓fieldAddrV, ↓indexAddrV, ↓boxV, ↓nilV, GVal.cells, grp, GVal.ofConst, ↓resV, resG, List.map, List.headD, List.take, List.drop, ↓reduceIte, Nat.reduceEqDiff, Nat.reduceAdd, Nat.reduceSub, Nat.reduceLeDiff, reduceCtorEq, implies_true, ne_eq, aggV, Tag.cap, List.replicate, allSolid, GVal.solid, Nat.reduceBEq, Nat.reduceMul, Nat.reduceLT, List.length_map, List.length_range, splice, vcA, ↓vcB, vcC, fbFd, e37]
        exact Into.at ⟨(m + 1, hi), by show m + 1 ≤ hi; omega, hhl, hup el, hb⟩ (by show hi - (m + 1) < hi - lo; omega) ⟨[], by simp⟩ (by simp [WL, leG_self, leG_any, leG_int])
      | false =>
        rw [el] at cL
        simp +contextual -implicitDefEqProofs (maxSteps := 2000000) (disch := omega) only [drawC, drawK, keepT, ↓lenV, binV, ↓loadV, ↓fieldAddrV, ↓indexAddrV, ↓boxV, ↓nilV, GVal.cells, grp, GVal.ofConst, ↓resV, resG, List.map, List.headD, List.take, List.drop, ↓reduceIte, Nat.reduceEqDiff, Nat.reduceAdd, Nat.reduceSub, Nat.reduceLeDiff, reduceCtorEq, implies_true, ne_eq, aggV, Tag.cap, List.replicate, allSolid, GVal.solid, Nat.reduceBEq, Nat.reduceMul, Nat.reduceLT, List.length_map, List.length_range, splice, vcA, ↓vcB, vcC, fbFd, e37, d0, em, en, csG_len, eS, comG, take32a, drop32a, drop33a, take33a, len33, solid33, solidH, len32, take32]
        refine ⟨by decide, by omega, by omega, ?_⟩
        refine cL.then ?_ (by rfl)
        simp +contextual -implicitDefEqProofs (maxSteps := 2000000) (disch := omega) only [drawC, drawK, keepT, ↓lenV, binV, ↓loadV, ↓fieldAddrV, ↓indexAddrV, ↓boxV, ↓nilV, GVal.cells, grp, GVal.ofConst, ↓resV, resG, List.map, List.headD, List.take, List.drop, ↓reduceIte, Nat.reduceEqDiff, Nat.reduceAdd, Nat.reduceSub, Nat.reduceLeDiff, reduceCtorEq, implies_true, ne_eq, aggV, Tag.cap, List.replicate, allSolid, GVal.solid, Nat.reduceBEq, Nat.reduceMul, Nat.reduceLT, List.length_map, List.length_range, splice, vcA, ↓vcB, vcC, fbFd, e37]
        exact Into.at ⟨(lo, m), by show lo ≤ m; omega, by show m ≤ L.length; omega, ha, hdn (by unfold LT; rw [el]; simp)⟩ (by show m - lo < hi - lo; omega) ⟨[], by simp⟩ (by simp [WL, leG_self, leG_any, leG_int])
    · have d0 : ((lo : Int) < (hi : Int)) = False := eq_false (by omega)
      have e : hi = lo := by omega
      subst e
      obtain ⟨f1, f2⟩ := find_end hL hhl ha hb
      by_cases hk : hi < L.length
      · have d1 : ((hi : Int) < (L.length : Int)) = True := eq_true (by omega)
        have eS := csG_at L hi hk
        obtain ⟨xh, xp, hx⟩ : ∃ xh xp, L.getD hi default = (xh, xp) := ⟨_, _, rfl⟩
        rw [hx] at eS f1 f2
        by_cases e : xh = h
        · subst e
          have eZ : findZ L xh = (hi : Int) := by unfold findZ; rw [f1 hk rfl]
          have ce := cellsEq_hs xh xh
          rw [decide_eq_true rfl] at ce
          rw [eZ]
          simp +contextual -implicitDefEqProofs (maxSteps := 2000000) (disch := omega) only [drawC, drawK, keepT, ↓lenV, binV, ↓loadV, ↓fieldAddrV, ↓indexAddrV, ↓boxV, ↓nilV, GVal.cells, grp, GVal.ofConst, ↓resV, resG, List.map, List.headD, List.take, List.drop, ↓reduceIte, Nat.reduceEqDiff, Nat.reduceAdd, Nat.reduceSub, Nat.reduceLeDiff, reduceCtorEq, implies_true, ne_eq, aggV, Tag.cap, List.replicate, allSolid, GVal.solid, Nat.reduceBEq, Nat.reduceMul, Nat.reduceLT, List.length_map, List.length_range, splice, vcA, ↓vcB, vcC, fbFd, e37, d0, d1, csG_len, eS, comG, take32a, drop32a, drop33a, take33a, len33, solid33, solidH, len32, take32, ce]
          omega
        · have eZ : findZ L h = -1 := by unfold findZ; rw [f2 fun _ => e]
          have ce := cellsEq_hs xh h
          rw [decide_eq_false e] at ce
          rw [eZ]
          simp +contextual -implicitDefEqProofs (maxSteps := 2000000) (disch := omega) only [drawC, drawK, keepT, ↓lenV, binV, ↓loadV, ↓fieldAddrV, ↓indexAddrV, ↓boxV, ↓nilV, GVal.cells, grp, GVal.ofConst, ↓resV, resG, List.map, List.headD, List.take, List.drop, ↓reduceIte, Nat.reduceEqDiff, Nat.reduceAdd, Nat.reduceSub, Nat.reduceLeDiff, reduceCtorEq, implies_true, ne_eq, aggV, Tag.cap, List.replicate, allSolid, GVal.solid, Nat.reduceBEq, Nat.reduceMul, Nat.reduceLT, List.length_map, List.length_range, splice, vcA, ↓vcB, vcC, fbFd, e37, d0, d1, csG_len, eS, comG, take32a, drop32a, drop33a, take33a, len33, solid33, solidH, len32, take32, ce]
          omega
      · have d1 : ((hi : Int) < (L.length : Int)) = False := eq_false (by omega)
        have eZ : findZ L h = -1 := by unfold findZ; rw [f2 fun q => absurd q hk]
        rw [eZ]
        simp +contextual -implicitDefEqProofs (maxSteps := 2000000) (disch := omega) only [drawC, drawK, keepT, ↓lenV, binV, ↓loadV, ↓fieldAddrV, ↓indexAddrV, ↓boxV, ↓nilV, GVal.cells, grp, GVal.ofConst, ↓resV, resG, List.map, List.headD, List.take, List.drop, ↓reduceIte, Nat.reduceEqDiff, Nat.reduceAdd, Nat.reduceSub, Nat.reduceLeDiff, reduceCtorEq, implies_true, ne_eq, aggV, Tag.cap, List.replicate, allSolid, GVal.solid, Nat.reduceBEq, Nat.reduceMul, Nat.reduceLT, List.length_map, List.length_range, splice, vcA, ↓vcB, vcC, fbFd, e37, d0, d1, csG_len]
theorem rHas (L : GM) (hL : SSC L) (hl : L.length ≤ 1000000) (h : Hs) (rt : Nat) : GCalls Try.prog 22 [.ptr 0 rt 0 0, .agg (bytesG h.1)] (rObj rt L) (fun g O' => g = .bool (look L h).isSome ∧ O' = rObj rt L) := by
  have cF := rFind L hL hl h rt
  have eh := has_find L h
  by_cases c : 0 ≤ findZ L h
  · have d : (0 ≤ findZ L h) = True := eq_true c
    rw [decide_eq_true c] at eh
    rw [← eh]
    refine h22.calls mixS (by simp) ?_
    simp only [gstart, s22, List.cons_append, List.nil_append, List.length_cons, List.length_nil, Nat.reduceAdd, Nat.reduceSub, List.replicate_succ, List.replicate_zero]
    simp +contextual -implicitDefEqProofs (maxSteps := 2000000) (disch := omega) only [binV, ↓loadV, ↓boxV, GVal.cells, grp, GVal.ofConst, ↓resV, resG, List.map, List.headD, List.take, List.drop, ↓reduceIte, Nat.reduceEqDiff, Nat.reduceAdd, Nat.reduceSub, Nat.reduceLeDiff, reduceCtorEq, implies_true, ne_eq, Tag.cap, List.replicate, allSolid, GVal.solid, Nat.reduceBEq, Nat.reduceMul, Nat.reduceLT, List.length_map, List.length_range, splice, vcA, ↓vcB, vcC, fbFd, e22, take32, len32, solidH]
    refine cF.mono ?_
    rintro g O' ⟨rfl, rfl⟩
    simp +contextual -implicitDefEqProofs (maxSteps := 2000000) (disch := omega) only [binV, ↓loadV, ↓boxV, GVal.cells, grp, GVal.ofConst, ↓resV, resG, List.map, List.headD, List.take, List.drop, ↓reduceIte, Nat.reduceEqDiff, Nat.reduceAdd, Nat.reduceSub, Nat.reduceLeDiff, reduceCtorEq, implies_true, ne_eq, Tag.cap, List.replicate, allSolid, GVal.solid, Nat.reduceBEq, Nat.reduceMul, Nat.reduceLT, List.length_map, List.length_range, splice, vcA, ↓vcB, vcC, fbFd, e22, d]
  · have d : (0 ≤ findZ L h) = False := eq_false c
    rw [decide_eq_false c] at eh
    rw [← eh]
    refine h22.calls mixS (by simp) ?_
    simp only [gstart, s22, List.cons_append, List.nil_append, List.length_cons, List.length_nil, Nat.reduceAdd, Nat.reduceSub, List.replicate_succ, List.replicate_zero]
    simp +contextual -implicitDefEqProofs (maxSteps := 2000000) (disch := omega) only [binV, ↓loadV, ↓boxV, GVal.cells, grp, GVal.ofConst, ↓resV, resG, List.map, List.headD, List.take, List.drop, ↓reduceIte, Nat.reduceEqDiff, Nat.reduceAdd, Nat.reduceSub, Nat.reduceLeDiff, reduceCtorEq, implies_true, ne_eq, Tag.cap, List.replicate, allSolid, GVal.solid, Nat.reduceBEq, Nat.reduceMul, Nat.reduceLT, List.length_map, List.length_range, splice, vcA, ↓vcB, vcC, fbFd, e22, take32, len32, solidH]
    refine cF.mono ?_
    rintro g O' ⟨rfl, rfl⟩
    simp +contextual -implicitDefEqProofs (maxSteps := 2000000) (disch := omega) only [binV, ↓loadV, ↓boxV, GVal.cells, grp, GVal.ofConst, ↓resV, resG, List.map, List.headD, List.take, List.drop, ↓reduceIte, Nat.reduceEqDiff, Nat.reduceAdd, Nat.reduceSub, Nat.reduceLeDiff, reduceCtorEq, implies_true, ne_eq, Tag.cap, List.replicate, allSolid, GVal.solid, Nat.reduceBEq, Nat.reduceMul, Nat.reduceLT, List.length_map, List.length_range, splice, vcA, ↓vcB, vcC, fbFd, e22, d]
    rfl
theorem rPar1 (L : GM) (hL : SSC L) (hl : L.length ≤ 1000000) (h : Hs) (rt : Nat) (i : Nat) (hi : i < L.length) (e : findZ L h = (i : Int)) (x : Cm) (hx : L.getD i default = x) : GCalls Try.prog 50 [.ptr 0 rt 0 0, .agg (bytesG h.1)] (rObj rt L) (fun g O' => g = .slice (hsG x.2) .none ∧ O' = rObj rt L) := by
  have cF := rFind L hL hl h rt
  rw [e] at cF
  have d : (0 ≤ (i : Int)) = True := eq_true (by omega)
  have eS := csG_at L i hi
  rw [hx] at eS
  obtain ⟨xh, xp⟩ := x
  refine h50.calls mixS (by simp) ?_
  simp only [gstart, s50, List.cons_append, List.nil_append, List.length_cons, List.length_nil, Nat.reduceAdd, Nat.reduceSub, List.replicate_succ, List.replicate_zero]
  simp +contextual -implicitDefEqProofs (maxSteps := 2000000) (disch := omega) only [binV, optV, ↓loadV, ↓fieldAddrV, ↓indexAddrV, ↓boxV, ↓sliceV, ↓nilV, bound, cutTag, hiTag, GVal.cells, grp, GVal.ofConst, ↓resV, resG, List.map, List.headD, List.take, List.drop, ↓reduceIte, Nat.reduceEqDiff, Nat.reduceAdd, Nat.reduceSub, Nat.reduceLeDiff, reduceCtorEq, implies_true, ne_eq, Tag.cap, List.replicate, allSolid, GVal.solid, Nat.reduceBEq, Nat.reduceMul, Nat.reduceLT, List.length_map, List.length_range, splice, vcA, ↓vcB, vcC, fbFd, e50, take32, len32, solidH]
  refine cF.mono ?_
  rintro g O' ⟨rfl, rfl⟩
  simp +contextual -implicitDefEqProofs (maxSteps := 2000000) (disch := omega) only [binV, optV, ↓loadV, ↓fieldAddrV, ↓indexAddrV, ↓boxV, ↓sliceV, ↓nilV, bound, cutTag, hiTag, GVal.cells, grp, GVal.ofConst, ↓resV, resG, List.map, List.headD, List.take, List.drop, ↓reduceIte, Nat.reduceEqDiff, Nat.reduceAdd, Nat.reduceSub, Nat.reduceLeDiff, reduceCtorEq, implies_true, ne_eq, Tag.cap, List.replicate, allSolid, GVal.solid, Nat.reduceBEq, Nat.reduceMul, Nat.reduceLT, List.length_map, List.length_range, splice, vcA, ↓vcB, vcC, fbFd, e50, d, csG_len, eS, comG, take32a, drop32a, drop33a, take33a, len33, solid33, solidH, len32, take32]
  omega
theorem rPar0 (L : GM) (hL : SSC L) (hl : L.length ≤ 1000000) (h : Hs) (rt : Nat) (e : findZ L h = -1) : GCalls Try.prog 50 [.ptr 0 rt 0 0, .agg (bytesG h.1)] (rObj rt L) (fun g O' => g = .slice [] .nil ∧ O' = rObj rt L) := by
  have cF := rFind L hL hl h rt
  rw [e] at cF
  have d : ((0 : Int) ≤ -1) = False := eq_false (by omega)
  refine h50.calls mixS (by simp) ?_
  simp only [gstart, s50, List.cons_append, List.nil_append, List.length_cons, List.length_nil, Nat.reduceAdd, Nat.reduceSub, List.replicate_succ, List.replicate_zero]
  simp +contextual -implicitDefEqProofs (maxSteps := 2000000) (disch := omega) only [binV, optV, ↓loadV, ↓fieldAddrV, ↓indexAddrV, ↓boxV, ↓sliceV, ↓nilV, bound, cutTag, hiTag, GVal.cells, grp, GVal.ofConst, ↓resV, resG, List.map, List.headD, List.take, List.drop, ↓reduceIte, Nat.reduceEqDiff, Nat.reduceAdd, Nat.reduceSub, Nat.reduceLeDiff, reduceCtorEq, implies_true, ne_eq, Tag.cap, List.replicate, allSolid, GVal.solid, Nat.reduceBEq, Nat.reduceMul, Nat.reduceLT, List.length_map, List.length_range, splice, vcA, ↓vcB, vcC, fbFd, e50, take32, len32, solidH]
  refine cF.mono ?_
  rintro g O' ⟨rfl, rfl⟩
  simp +contextual -implicitDefEqProofs (maxSteps := 2000000) (disch := omega) only [binV, optV, ↓loadV, ↓fieldAddrV, ↓indexAddrV, ↓boxV, ↓sliceV, ↓nilV, bound, cutTag, hiTag, GVal.cells, grp, GVal.ofConst, ↓resV, resG, List.map, List.headD, List.take, List.drop, ↓reduceIte, Nat.reduceEqDiff, Nat.reduceAdd, Nat.reduceSub, Nat.reduceLeDiff, reduceCtorEq, implies_true, ne_eq, Tag.cap, List.replicate, allSolid, GVal.solid, Nat.reduceBEq, Nat.reduceMul, Nat.reduceLT, List.length_map, List.length_range, splice, vcA, ↓vcB, vcC, fbFd, e50, d, false_imp_iff, true_and]
theorem rParents (L : GM) (hL : SSC L) (hl : L.length ≤ 1000000) (h : Hs) (rt : Nat) : GCalls Try.prog 50 [.ptr 0 rt 0 0, .agg (bytesG h.1)] (rObj rt L) (fun g O' => g = .slice (hsG (parsM L h)) .none ∧ O' = rObj rt L) := by
  obtain ⟨h1, h2⟩ := find_look L h
  cases e : findO L h with
  | some i =>
    obtain ⟨a, b, _⟩ := h1 i e
    rw [parsM_some b]
    exact rPar1 L hL hl h rt i a (by unfold findZ; rw [e]) _ rfl
  | none =>
    rw [parsM_none (h2 e)]
    refine GCalls.into ((rPar0 L hL hl h rt (by unfold findZ; rw [e])).mono ?_)
    rintro g O' ⟨rfl, rfl⟩
    exact GInto.weak (O := rObj rt L) (X := []) (by rw [leG_none]; rfl) (.here ⟨rfl, rfl⟩)
def idxC : GM → Hs → Nat
  | [], _ => 0
  | x :: r, h => if ltB x.1.1 h.1 = true then idxC r h + 1 else 0
def putC (L : GM) (c : Cm) : GM := if (look L c.1).isSome = true then L else L.take (idxC L c.1) ++ [c] ++ L.drop (idxC L c.1)
theorem idxC_at : ∀ (l : GM) (h : Hs) (k : Nat), k < l.length → idxC (l.drop k) h = if ltB (l.getD k default).1.1 h.1 = true then idxC (l.drop (k + 1)) h + 1 else 0 := fun l h k hk => by
  rw [dropC hk]; rfl
theorem take_csL (l : GM) (n : Nat) : (csG l).take n = csG (l.take n) := by simp [csG, List.map_take]
theorem drop_csL (l : GM) (n : Nat) : (csG l).drop n = csG (l.drop n) := by simp [csG, List.map_drop]
theorem takeAllC (l : GM) : List.take l.length (csG l) = csG l := List.take_of_length_le (by rw [csG_len]; exact Nat.le_refl _)
theorem rPut0 (L : GM) (hL : SSC L) (hl : L.length ≤ 1000000) (c : Cm) (hc : c.2.length ≤ 1000000) (rt : Nat) (e : (look L c.1).isSome = true) : GCalls Try.prog 51 [.ptr 0 rt 0 0, .agg (comG c)] (rObj rt L) (fun g O' => g = .tuple [] ∧ O' = rObj rt L) := by
  obtain ⟨ch, cp⟩ := c
  have cH := rHas L hL hl ch rt
  simp only at e
  rw [e] at cH
  refine h51.calls mixS (by simp) ?_
  simp only [gstart, s51, List.cons_append, List.nil_append, List.length_cons, List.length_nil, Nat.reduceAdd, Nat.reduceSub, List.replicate_succ, List.replicate_zero]
  simp +contextual -implicitDefEqProofs (maxSteps := 2000000) (disch := omega) only [drawC, drawK, keepT, ↓lenV, binV, optV, ↓loadV, ↓storeV, ↓fieldAddrV, ↓indexAddrV, ↓boxV, ↓buildV, ↓buildSliceV, ↓sliceV, ↓nilV, ↓appendV, ↓srcV, bound, cutTag, hiTag, fillG, fillE, place, GVal.cells, grp, GVal.ofConst, ↓resV, resG, List.map, List.headD, List.take, List.drop, ↓reduceIte, Nat.reduceEqDiff, Nat.reduceAdd, Nat.reduceSub, Nat.reduceLeDiff, reduceCtorEq, implies_true, ne_eq, ↓asrcV, Tag.cap, List.replicate, allSolid, GVal.solid, Nat.reduceBEq, Nat.reduceMul, Nat.reduceLT, List.length_map, List.length_range, splice, vcA, ↓vcB, vcC, fbFd, e51, comG, take32a, drop32a, drop33a, take33a, len33, solid33, solidH, len32, take32]
  refine cH.mono ?_
  rintro g O' ⟨rfl, rfl⟩
  simp +contextual -implicitDefEqProofs (maxSteps := 2000000) (disch := omega) only [drawC, drawK, keepT, ↓lenV, binV, optV, ↓loadV, ↓storeV, ↓fieldAddrV, ↓indexAddrV, ↓boxV, ↓buildV, ↓buildSliceV, ↓sliceV, ↓nilV, ↓appendV, ↓srcV, bound, cutTag, hiTag, fillG, fillE, place, GVal.cells, grp, GVal.ofConst, ↓resV, resG, List.map, List.headD, List.take, List.drop, ↓reduceIte, Nat.reduceEqDiff, Nat.reduceAdd, Nat.reduceSub, Nat.reduceLeDiff, reduceCtorEq, implies_true, ne_eq, ↓asrcV, Tag.cap, List.replicate, allSolid, GVal.solid, Nat.reduceBEq, Nat.reduceMul, Nat.reduceLT, List.length_map, List.length_range, splice, vcA, ↓vcB, vcC, fbFd, e51]
theorem rPutRaw (L : GM) (hL : SSC L) (hl : L.length ≤ 1000000) (c : Cm) (hc : c.2.length ≤ 1000000) (rt : Nat) (e : (look L c.1).isSome = false) : GCalls Try.prog 51 [.ptr 0 rt 0 0, .agg (comG c)] (rObj rt L) (fun g O' => ∃ u v, g = .tuple [] ∧ O' = [.row rt 1 [[.slice (csG (L.take (idxC L c.1)) ++ [bytesG c.1.1 ++ [.slice (hsG c.2) (.tok 2 u)]] ++ csG (L.drop (idxC L c.1))) (.tok 1 v)]], .tok v 33, .tok u 32]) := by
  obtain ⟨ch, cp⟩ := c
  change cp.length ≤ 1000000 at hc
  have cH := rHas L hL hl ch rt
  simp only at e ⊢
  rw [e] at cH
  refine h51.calls mixS (by simp) ?_
  simp only [gstart, s51, List.cons_append, List.nil_append, List.length_cons, List.length_nil, Nat.reduceAdd, Nat.reduceSub, List.replicate_succ, List.replicate_zero]
  simp +contextual -implicitDefEqProofs (maxSteps := 2000000) (disch := omega) only [drawC, drawK, keepT, ↓lenV, binV, optV, ↓loadV, ↓storeV, ↓fieldAddrV, ↓indexAddrV, ↓boxV, ↓buildV, ↓buildSliceV, ↓sliceV, ↓nilV, ↓appendV, ↓srcV, bound, cutTag, hiTag, fillG, fillE, place, GVal.cells, grp, GVal.ofConst, ↓resV, resG, List.map, List.headD, List.take, List.drop, ↓reduceIte, Nat.reduceEqDiff, Nat.reduceAdd, Nat.reduceSub, Nat.reduceLeDiff, reduceCtorEq, implies_true, ne_eq, ↓asrcV, Tag.cap, List.replicate, allSolid, GVal.solid, Nat.reduceBEq, Nat.reduceMul, Nat.reduceLT, List.length_map, List.length_range, splice, vcA, ↓vcB, vcC, fbFd, e51, comG, take32a, drop32a, drop33a, take33a, len33, solid33, solidH, len32, take32]
  refine cH.mono ?_
  rintro g O' ⟨rfl, rfl⟩
  simp +contextual -implicitDefEqProofs (maxSteps := 2000000) (disch := omega) only [drawC, drawK, keepT, ↓lenV, binV, optV, ↓loadV, ↓storeV, ↓fieldAddrV, ↓indexAddrV, ↓boxV, ↓buildV, ↓buildSliceV, ↓sliceV, ↓nilV, ↓appendV, ↓srcV, bound, cutTag, hiTag, fillG, fillE, place, GVal.cells, grp, GVal.ofConst, ↓resV, resG, List.map, List.headD, List.take, List.drop, ↓reduceIte, Nat.reduceEqDiff, Nat.reduceAdd, Nat.reduceSub, Nat.reduceLeDiff, reduceCtorEq, implies_true, ne_eq, ↓asrcV, Tag.cap, List.replicate, allSolid, GVal.solid, Nat.reduceBEq, Nat.reduceMul, Nat.reduceLT, List.length_map, List.length_range, splice, vcA, ↓vcB, vcC, fbFd, e51]
  refine vcSLoop_by (ι := { k : Nat // k ≤ L.length ∧ idxC (L.drop k) ch + k = idxC L ch }) (fun k => ⟨[.ptr 0 rt 0 0, .any, .any, .ref (comG (ch, cp)), .int .i64 (k.1 : Nat)] ++ List.replicate 56 .any, rObj rt L⟩) (fun k => L.length - k.1) ?_ ?_
  · exact Into.first ⟨0, by omega, by simp⟩ ⟨[], by simp⟩ (by simp [WL, leG_self, leG_any, leG_int, comG])
  · rintro ⟨k, hk, he⟩
    by_cases h' : k < L.length
    · have d0 : ((k : Int) < (L.length : Int)) = True := eq_true (by omega)
      have ea := csG_at L k h'
      rw [idxC_at L ch k h'] at he
      obtain ⟨xh, xp, hx⟩ : ∃ xh xp, L.getD k default = (xh, xp) := ⟨_, _, rfl⟩
      rw [hx] at ea he
      simp only at he
      have cL := hLessR xh.1 ch.1 xh.2 ch.2
      cases el : ltB xh.1 ch.1 with
      | true =>
        rw [el, if_pos rfl] at he
        rw [el] at cL
        simp +contextual -implicitDefEqProofs (maxSteps := 2000000) (disch := omega) only [drawC, drawK, keepT, ↓lenV, binV, optV, ↓loadV, ↓storeV, ↓fieldAddrV, ↓indexAddrV, ↓boxV, ↓buildV, ↓buildSliceV, ↓sliceV, ↓nilV, ↓appendV, ↓srcV, bound, cutTag, hiTag, fillG, fillE, place, GVal.cells, grp, GVal.ofConst, ↓resV, resG, List.map, List.headD, List.take, List.drop, ↓reduceIte, Nat.reduceEqDiff, Nat.reduceAdd, Nat.reduceSub, Nat.reduceLeDiff, reduceCtorEq, implies_true, ne_eq, ↓asrcV, Tag.cap, List.replicate, allSolid, GVal.solid, Nat.reduceBEq, Nat.reduceMul, Nat.reduceLT, List.length_map, List.length_range, splice, vcA, ↓vcB, vcC, fbFd, e51, d0, ea, csG_len, comG, take32a, drop32a, drop33a, take33a, len33, solid33, solidH, len32, take32]
        refine ⟨by omega, ?_⟩
        refine cL.then ?_ (by rfl)
        simp +contextual -implicitDefEqProofs (maxSteps := 2000000) (disch := omega) only [drawC, drawK, keepT, ↓lenV, binV, optV, ↓loadV, ↓storeV, ↓fieldAddrV, ↓indexAddrV, ↓boxV, ↓buildV, ↓buildSliceV, ↓sliceV, ↓nilV, ↓appendV, ↓srcV, bound, cutTag, hiTag, fillG, fillE, place, GVal.cells, grp, GVal.ofConst, ↓resV, resG, List.map, List.headD, List.take, List.drop, ↓reduceIte, Nat.reduceEqDiff, Nat.reduceAdd, Nat.reduceSub, Nat.reduceLeDiff, reduceCtorEq, implies_true, ne_eq, ↓asrcV, Tag.cap, List.replicate, allSolid, GVal.solid, Nat.reduceBEq, Nat.reduceMul, Nat.reduceLT, List.length_map, List.length_range, splice, vcA, ↓vcB, vcC, fbFd, e51]
        exact Into.at ⟨k + 1, by omega, by omega⟩ (by show L.length - (k + 1) < L.length - k; omega) ⟨[], by simp⟩ (by simp [WL, leG_self, leG_any, leG_int, comG])
      | false =>
        rw [el, if_neg (by simp), Nat.zero_add] at he
        rw [el] at cL
        have tl : (List.take k L).length = k := by rw [List.length_take]; omega
        have tl3 : (List.drop k (List.take L.length L)).length = L.length - k := by rw [List.take_length, List.length_drop]
        simp +contextual -implicitDefEqProofs (maxSteps := 2000000) (disch := omega) only [drawC, drawK, keepT, ↓lenV, binV, optV, ↓loadV, ↓storeV, ↓fieldAddrV, ↓indexAddrV, ↓boxV, ↓buildV, ↓buildSliceV, ↓sliceV, ↓nilV, ↓appendV, ↓srcV, bound, cutTag, hiTag, fillG, fillE, place, GVal.cells, grp, GVal.ofConst, ↓resV, resG, List.map, List.headD, List.take, List.drop, ↓reduceIte, Nat.reduceEqDiff, Nat.reduceAdd, Nat.reduceSub, Nat.reduceLeDiff, reduceCtorEq, implies_true, ne_eq, ↓asrcV, Tag.cap, List.replicate, allSolid, GVal.solid, Nat.reduceBEq, Nat.reduceMul, Nat.reduceLT, List.length_map, List.length_range, splice, vcA, ↓vcB, vcC, fbFd, e51, d0, ea, csG_len, comG, take32a, drop32a, drop33a, take33a, len33, solid33, solidH, len32, take32]
        refine ⟨by omega, ?_⟩
        refine cL.then ?_ (by rfl)
        simp +contextual -implicitDefEqProofs (maxSteps := 2000000) (disch := omega) only [drawC, drawK, keepT, ↓lenV, binV, optV, ↓loadV, ↓storeV, ↓fieldAddrV, ↓indexAddrV, ↓boxV, ↓buildV, ↓buildSliceV, ↓sliceV, ↓nilV, ↓appendV, ↓srcV, bound, cutTag, hiTag, fillG, fillE, place, GVal.cells, grp, GVal.ofConst, ↓resV, resG, List.map, List.headD, List.take, List.drop, ↓reduceIte, Nat.reduceEqDiff, Nat.reduceAdd, Nat.reduceSub, Nat.reduceLeDiff, reduceCtorEq, implies_true, ne_eq, ↓asrcV, Tag.cap, List.replicate, allSolid, GVal.solid, Nat.reduceBEq, Nat.reduceMul, Nat.reduceLT, List.length_map, List.length_range, splice, vcA, ↓vcB, vcC, fbFd, e51, d0, ea, csG_len, comG, take32a, drop32a, drop33a, take33a, len33, solid33, solidH, len32, take32, all_csG, take_csL, drop_csL, takeAllC, toNat0, List.drop_zero, hsG_len, all_hsG, tl, tl3]
        refine ⟨by omega, by omega, by omega, by omega, by omega, fun s1 => ⟨by omega, by omega, fun s2 => ⟨⟨[_], rfl⟩, by omega, by omega, fun s3 => ⟨by omega, by omega, by omega, ?_, ?_, fun s4 => ⟨s2, s4, ?_⟩⟩⟩⟩⟩
        · rw [List.length_append, csG_len, tl]; simp only [List.length_singleton]; omega
        · rw [List.length_append, csG_len, tl]; simp only [List.length_singleton]; omega
        · rw [List.take_length, he]
    · have d0 : ((k : Int) < (L.length : Int)) = False := eq_false (by omega)
      have he : k = idxC L ch := by
        rw [List.drop_of_length_le (by omega)] at he
        rw [← he]; simp [idxC]
      have tl : (List.take k L).length = k := by rw [List.length_take]; omega
      have tl3 : (List.drop k (List.take L.length L)).length = L.length - k := by rw [List.take_length, List.length_drop]
      simp +contextual -implicitDefEqProofs (maxSteps := 2000000) (disch := omega) only [drawC, drawK, keepT, ↓lenV, binV, optV, ↓loadV, ↓storeV, ↓fieldAddrV, ↓indexAddrV, ↓boxV, ↓buildV, ↓buildSliceV, ↓sliceV, ↓nilV, ↓appendV, ↓srcV, bound, cutTag, hiTag, fillG, fillE, place, GVal.cells, grp, GVal.ofConst, ↓resV, resG, List.map, List.headD, List.take, List.drop, ↓reduceIte, Nat.reduceEqDiff, Nat.reduceAdd, Nat.reduceSub, Nat.reduceLeDiff, reduceCtorEq, implies_true, ne_eq, ↓asrcV, Tag.cap, List.replicate, allSolid, GVal.solid, Nat.reduceBEq, Nat.reduceMul, Nat.reduceLT, List.length_map, List.length_range, splice, vcA, ↓vcB, vcC, fbFd, e51, d0, csG_len, comG, take32a, drop32a, drop33a, take33a, len33, solid33, solidH, len32, take32, all_csG, take_csL, drop_csL, takeAllC, toNat0, List.drop_zero, hsG_len, all_hsG, tl, tl3]
      refine ⟨by omega, by omega, by omega, by omega, by omega, fun s1 => ⟨by omega, by omega, fun s2 => ⟨⟨[_], rfl⟩, by omega, by omega, fun s3 => ⟨by omega, by omega, by omega, ?_, ?_, fun s4 => ⟨s2, s4, ?_⟩⟩⟩⟩⟩
      · rw [List.length_append, csG_len, tl]; simp only [List.length_singleton]; omega
      · rw [List.length_append, csG_len, tl]; simp only [List.length_singleton]; omega
      · rw [List.take_length, he]
theorem GLes_com (h : Hs) (l : List Hs) (t : Tag) : GLes (bytesG h.1 ++ [.slice (hsG l) t]) (comG (h, l)) := GLes.app (GLes.refl _) ⟨GLe.none, trivial⟩
theorem rPut1 (L : GM) (hL : SSC L) (hl : L.length ≤ 1000000) (c : Cm) (hc : c.2.length ≤ 1000000) (rt : Nat) (e : (look L c.1).isSome = false) : GCalls Try.prog 51 [.ptr 0 rt 0 0, .agg (comG c)] (rObj rt L) (fun g O' => g = .tuple [] ∧ O' = rObj rt (putC L c)) := by
  refine GCalls.frame (rPutRaw L hL hl c hc rt e) [0] ⟨⟨_, rfl, .refl _⟩, trivial⟩ (by simp) (GLes.refl _) rfl rfl ?_
  rintro g O' ⟨u, v, rfl, rfl⟩
  refine ⟨_, rObj rt (putC L c), [(false, 0)], ⟨rfl, rfl⟩, GLe.refl _, ⟨⟨_, rfl, OLe.row ⟨⟨GLe.trans GLe.none (GLe.slice ?_), trivial⟩, trivial⟩⟩, trivial⟩, by simp, rfl⟩
  unfold putC
  rw [if_neg (by rw [e]; simp), csG_app, csG_app]
  exact GLess.app (GLess.app (GLess.refl _) ⟨GLes_com _ _ _, trivial⟩) (GLess.refl _)
theorem rPut (L : GM) (hL : SSC L) (hl : L.length ≤ 1000000) (c : Cm) (hc : c.2.length ≤ 1000000) (rt : Nat) : GCalls Try.prog 51 [.ptr 0 rt 0 0, .agg (comG c)] (rObj rt L) (fun g O' => g = .tuple [] ∧ O' = rObj rt (putC L c)) := by
  cases e : (look L c.1).isSome with
  | true =>
    have := rPut0 L hL hl c hc rt e
    unfold putC
    rw [if_pos e]
    exact this
  | false => exact rPut1 L hL hl c hc rt e
end Gv.Try
/- A nil slice in a struct's cell is given a row of its own. -/
set_option linter.unusedVariables false
namespace Gv
open Go
section
variable {st : GSt} {N : GSt → Prop}
theorem Into.cellRow (i c rsz : Nat) {t sz : Nat} {cs : List GVal} {tg : Tag} (hO : st.o[i]? = some (.row t sz [cs])) (hc : cs[c]? = some (.slice [] tg)) (htg : tg.cap = .full) (hcl : cs.length = sz)
    (h : stamp st.o fun u => Into ⟨st.s, ((tickO st.o) ++ [GObj.row u rsz []]).set i (.row t sz [cs.set c (.own st.o.length u 0 0)])⟩ N) : Into st N := by
  intro E a w hs ha
  obtain ⟨u, hk, ht, hnx, hs, hkeep⟩ := hs.stamp h
  rw [← tickO_len st.o] at hk
  obtain ⟨h1, h2⟩ := hs.objNil (.row u rsz []) (l := ⟨none, 0, rsz, 0⟩) ht hnx rfl ⟨_, Env.addLoc_self _ _ _, rfl, by simp, rfl⟩ (by simp [GObj.blk, Env.addLoc_self])
  have hO' : (tickO st.o ++ [GObj.row u rsz []])[i]? = some (.row t sz [cs]) := by
    have := tickO_get hO rfl
    rw [List.getElem?_append_left (List.getElem?_eq_some_iff.1 this).1]; exact this
  obtain ⟨h3, h4⟩ := h1.cells hO' (ys := [cs.set c (.own (tickO st.o).length u 0 0)]) rfl (by simp [hcl]) (fun j g' hj => by
    simp only [List.flatten_cons, List.flatten_nil, List.append_nil] at hj ⊢
    rw [List.getElem?_set] at hj
    by_cases e : c = j
    · subst e
      rw [if_pos rfl] at hj
      split at hj
      · simp only [Option.some.injEq] at hj
        subst hj
        refine ⟨_, hc, fun v hv => ?_⟩
        cases hv with
        | slice a len cap xs tag sz c hlen hcap hsz ha hc htag =>
          have htag := htag.cap hcap
          rw [htg] at htag
          have h0 : len = 0 := by simpa using hlen
          have h1 : cap = 0 := by rw [← h0]; exact htag
          subst h0
          exact .own a 0 cap _ u 0 _ (Env.addLoc_self _ _ _) (Nat.zero_le _) (.inl h1)
      · cases hj
    · rw [if_neg e] at hj
      exact ⟨g', hj, fun v hv => hv⟩)
  obtain ⟨st', E', q1, q2, q3, q4⟩ := hk _ a w h3 (ha.mono h2.ext)
  exact ⟨st', E', q1, q2, ((hkeep.trans h2).trans h4).trans q3, q4⟩
end
theorem setO_6 (a b c d e f g x : GObj) (r : List GObj) : (a :: b :: c :: d :: e :: f :: g :: r).set 6 x = a :: b :: c :: d :: e :: f :: x :: r := rfl
theorem setO_7 (a b c d e f g h x : GObj) (r : List GObj) : (a :: b :: c :: d :: e :: f :: g :: h :: r).set 7 x = a :: b :: c :: d :: e :: f :: g :: x :: r := rfl
theorem setO_8 (a b c d e f g h i x : GObj) (r : List GObj) : (a :: b :: c :: d :: e :: f :: g :: h :: i :: r).set 8 x = a :: b :: c :: d :: e :: f :: g :: h :: x :: r := rfl
theorem GCalls.tail {P : Program} {f : FuncId} {args : List GVal} {X : List GObj} {K : GVal → List GObj → Prop} (h : GCalls P f args X K) (hK : ∀ g O', K g O' → clockOf O' = none ∧ O' ≠ []) (hc : clockOf X = none) (hX : X ≠ []) (Y : List GObj) :
    GCalls P f args (X ++ Y) (fun g O'' => ∃ O', K g O' ∧ O'' = O' ++ Y) := by
  have hcl : ∀ A : List GObj, clockOf A = none → A ≠ [] → clockOf (A ++ Y) = none := fun A h1 h2 => by
    cases A with
    | nil => exact absurd rfl h2
    | cons a r => cases a <;> first | rfl | cases h1
  refine GCalls.frame h (List.range X.length) ?_ List.nodup_range (GLes.refl _) hc (hcl X hc hX) ?_
  · have : ∀ (A B : List GObj), Fits (A ++ B ++ Y) ((List.range B.length).map (· + A.length)) B := by
      intro A B
      induction B generalizing A with
      | nil => trivial
      | cons b r ih =>
        rw [List.length_cons, List.range_succ_eq_map, List.map_cons, List.map_map]
        refine ⟨⟨b, by simp, .refl _⟩, ?_⟩
        have := ih (A ++ [b])
        simp only [List.length_append, List.length_singleton, List.append_assoc, List.singleton_append] at this ⊢
        have e : ((fun x => x + A.length) ∘ Nat.succ) = (fun x => x + (A.length + 1)) := by funext x; simp; omega
        rw [e]; exact this
    have := this [] X
    simpa using this
  · intro g O' hk
    obtain ⟨h1, h2⟩ := hK g O' hk
    refine ⟨g, O' ++ Y, (List.range O'.length).map (fun k => (false, k)) ++ (List.range Y.length).map (fun k => (true, k + X.length)), ⟨O', hk, rfl⟩, GLe.refl g, Comes.of (by simp) fun k z x hz hx => ?_, ?_, hcl O' h1 h2⟩
    · by_cases hlt : k < O'.length
      · rw [List.getElem?_append_left hlt] at hz
        rw [List.getElem?_append_left (by simpa using hlt)] at hx
        simp only [List.getElem?_map, List.getElem?_range hlt, Option.map_some, Option.some.injEq] at hx
        subst hx
        exact ⟨z, hz, .refl _⟩
      · rw [List.getElem?_append_right (by omega)] at hz
        rw [List.getElem?_append_right (by simpa using hlt)] at hx
        have hk2 : k - O'.length < Y.length := (List.getElem?_eq_some_iff.1 hz).1
        simp only [List.length_map, List.length_range, List.getElem?_map, List.getElem?_range hk2, Option.map_some, Option.some.injEq] at hx
        subst hx
        refine ⟨by simp, z, ?_, .refl _⟩
        rw [List.getElem?_append_right (by omega), Nat.add_sub_cancel]; exact hz
    · rw [List.nodup_append]
      refine ⟨?_, ?_, ?_⟩
      · rw [List.nodup_iff_pairwise_ne, List.pairwise_map]
        exact List.Pairwise.imp (fun {a b} hab => by simp; omega) (List.pairwise_lt_range (n := O'.length))
      · rw [List.nodup_iff_pairwise_ne, List.pairwise_map]
        exact List.Pairwise.imp (fun {a b} hab => by simp; omega) (List.pairwise_lt_range (n := Y.length))
      · intro a ha b hb
        obtain ⟨i, _, rfl⟩ := List.mem_map.1 ha
        obtain ⟨j, _, rfl⟩ := List.mem_map.1 hb
        simp
end Gv
/- Contracts: order's push and step. -/
set_option linter.unusedVariables false
set_option linter.unusedSimpArgs false
set_option maxRecDepth 20000
set_option maxHeartbeats 4000000
namespace Gv.Try
open Go Gv Go.Proofs
abbrev wObj (st s : Nat) (m : GM) (sq sw sv so n : Nat) (dg : GVal) (K Z : List Cm) (S out : List Hs) : List GObj :=
  [.row st 1 [[.map 1 s]], .map s (kvG encL m), .map sq (kvG encB (setM S)), .row sw 5 [[.ptr 0 st 0 0, dg, .map 2 sq, .own 4 sv 0 n, .slice (hsG out) (.tok 5 so)]], .row sv 33 (csG (K ++ Z)), .tok so 32]
theorem gParK (m : GM) (h : Hs) (st s : Nat) (hl : (parsM m h).length ≤ 4398046511104) (X : List GObj) : GCalls Try.prog 26 [.ptr 0 st 0 0, .agg (bytesG h.1)] (.row st 1 [[.map 1 s]] :: .map s (kvG encL m) :: X) (fun g O' => g = .tuple [.slice (hsG (parsM m h)) .none, .bool (look m h).isSome] ∧ O' = .row st 1 [[.map 1 s]] :: .map s (kvG encL m) :: X) :=
  GCalls.keep2 (gParents m h st s hl) rfl X
theorem take_csG (K Z : List Cm) : List.take K.length (csG (K ++ Z)) = csG K := by rw [csG_app]; exact List.take_left' (csG_len K)
theorem gPush1 (m : GM) (hm : GMOK m) (h : Hs) (st s sq sw sv so n : Nat) (dg : GVal) (K Z : List Cm) (S out : List Hs) (hl : look m h = none) (hn : n = K.length) :
    GCalls Try.prog 29 [.ptr 3 sw 0 0, .agg (bytesG h.1)] (wObj st s m sq sw sv so n dg K Z S out) (fun g O' => g = .tuple [] ∧ O' = wObj st s m sq sw sv so n dg K Z S out) := by
  subst hn
  have c := fun X => gParK m h st s (by have := hm.pars h; omega) X
  simp only [hl, Option.isSome_none] at c
  refine h29.calls mixS (by simp) ?_
  simp only [gstart, s29, List.cons_append, List.nil_append, List.length_cons, List.length_nil, Nat.reduceAdd, Nat.reduceSub, List.replicate_succ, List.replicate_zero]
  simp +contextual -implicitDefEqProofs (maxSteps := 2000000) (disch := omega) only [drawC, drawK, keepT, binV, ↓unV, ↓loadV, ↓storeV, ↓fieldAddrV, ↓boxV, ↓buildV, ↓buildSliceV, ↓nilV, ↓appendV, ↓srcV, fillG, fillE, place, GVal.cells, grp, GVal.ofConst, ↓resV, resG, List.map, List.headD, List.take, List.drop, ↓reduceIte, Nat.reduceEqDiff, Nat.reduceAdd, Nat.reduceSub, Nat.reduceLeDiff, reduceCtorEq, implies_true, ne_eq, ↓asrcV, ↓lookupV, ↓mapUpdateV, keyOk, keyCells, pairG, aggV, Tag.cap, List.replicate, allSolid, GVal.solid, Nat.reduceBEq, Nat.reduceMul, Nat.reduceLT, List.length_map, List.length_range, splice, vcA, ↓vcB, vcC, fbFd, e29, solidH, len32, take32]
  refine (c _).mono ?_
  rintro g O' ⟨rfl, rfl⟩
  simp +contextual -implicitDefEqProofs (maxSteps := 2000000) (disch := omega) only [drawC, drawK, keepT, binV, ↓unV, ↓loadV, ↓storeV, ↓fieldAddrV, ↓boxV, ↓buildV, ↓buildSliceV, ↓nilV, ↓appendV, ↓srcV, fillG, fillE, place, GVal.cells, grp, GVal.ofConst, ↓resV, resG, List.map, List.headD, List.take, List.drop, ↓reduceIte, Nat.reduceEqDiff, Nat.reduceAdd, Nat.reduceSub, Nat.reduceLeDiff, reduceCtorEq, implies_true, ne_eq, ↓asrcV, ↓lookupV, ↓mapUpdateV, keyOk, keyCells, pairG, aggV, Tag.cap, List.replicate, allSolid, GVal.solid, Nat.reduceBEq, Nat.reduceMul, Nat.reduceLT, List.length_map, List.length_range, splice, vcA, ↓vcB, vcC, fbFd, e29, solidH, len32, take32, kfind_h]
theorem gPush2 (m : GM) (hm : GMOK m) (h : Hs) (st s sq sw sv so n : Nat) (dg : GVal) (K Z : List Cm) (S out : List Hs) (l : List Hs) (hl : look m h = some l) (hS : h ∈ S) (hn : n = K.length) :
    GCalls Try.prog 29 [.ptr 3 sw 0 0, .agg (bytesG h.1)] (wObj st s m sq sw sv so n dg K Z S out) (fun g O' => g = .tuple [] ∧ O' = wObj st s m sq sw sv so n dg K Z S out) := by
  subst hn
  have c := fun X => gParK m h st s (by have := hm.pars h; omega) X
  simp only [hl, Option.isSome_some, parsM_some hl] at c
  obtain ⟨i, hi, hv, _⟩ := look_idx encB (setM S) h true (by rw [look_set, if_pos hS])
  refine h29.calls mixS (by simp) ?_
  simp only [gstart, s29, List.cons_append, List.nil_append, List.length_cons, List.length_nil, Nat.reduceAdd, Nat.reduceSub, List.replicate_succ, List.replicate_zero]
  simp +contextual -implicitDefEqProofs (maxSteps := 2000000) (disch := omega) only [drawC, drawK, keepT, binV, ↓unV, ↓loadV, ↓storeV, ↓fieldAddrV, ↓boxV, ↓buildV, ↓buildSliceV, ↓nilV, ↓appendV, ↓srcV, fillG, fillE, place, GVal.cells, grp, GVal.ofConst, ↓resV, resG, List.map, List.headD, List.take, List.drop, ↓reduceIte, Nat.reduceEqDiff, Nat.reduceAdd, Nat.reduceSub, Nat.reduceLeDiff, reduceCtorEq, implies_true, ne_eq, ↓asrcV, ↓lookupV, ↓mapUpdateV, keyOk, keyCells, pairG, aggV, Tag.cap, List.replicate, allSolid, GVal.solid, Nat.reduceBEq, Nat.reduceMul, Nat.reduceLT, List.length_map, List.length_range, splice, vcA, ↓vcB, vcC, fbFd, e29, solidH, len32, take32]
  refine (c _).mono ?_
  rintro g O' ⟨rfl, rfl⟩
  simp +contextual -implicitDefEqProofs (maxSteps := 2000000) (disch := omega) only [drawC, drawK, keepT, binV, ↓unV, ↓loadV, ↓storeV, ↓fieldAddrV, ↓boxV, ↓buildV, ↓buildSliceV, ↓nilV, ↓appendV, ↓srcV, fillG, fillE, place, GVal.cells, grp, GVal.ofConst, ↓resV, resG, List.map, List.headD, List.take, List.drop, ↓reduceIte, Nat.reduceEqDiff, Nat.reduceAdd, Nat.reduceSub, Nat.reduceLeDiff, reduceCtorEq, implies_true, ne_eq, ↓asrcV, ↓lookupV, ↓mapUpdateV, keyOk, keyCells, pairG, aggV, Tag.cap, List.replicate, allSolid, GVal.solid, Nat.reduceBEq, Nat.reduceMul, Nat.reduceLT, List.length_map, List.length_range, splice, vcA, ↓vcB, vcC, fbFd, e29, solidH, len32, take32, kfind_h, hi, hv]
theorem gPush3 (m : GM) (hm : GMOK m) (h : Hs) (st s sq sw sv so n : Nat) (F : FuncId) (caps : List GVal) (K Z : List Cm) (S out : List Hs) (l : List Hs) (hl : look m h = some l) (hS : h ∉ S) (hF : GPure Try.prog F (.agg (bytesG h.1) :: caps) (.bool true)) (hn : n = K.length) :
    GCalls Try.prog 29 [.ptr 3 sw 0 0, .agg (bytesG h.1)] (wObj st s m sq sw sv so n (.func (.func F) [] caps) K Z S out) (fun g O' => g = .tuple [] ∧ O' = wObj st s m sq sw sv so n (.func (.func F) [] caps) K Z S out) := by
  subst hn
  have c := fun X => gParK m h st s (by have := hm.pars h; omega) X
  simp only [hl, Option.isSome_some, parsM_some hl] at c
  obtain ⟨hi, hw⟩ := look_none encB (setM S) h (by rw [look_set, if_neg hS])
  have hw := hw true
  rw [mset_set S h hS] at hw
  refine h29.calls mixS (by simp) ?_
  simp only [gstart, s29, List.cons_append, List.nil_append, List.length_cons, List.length_nil, Nat.reduceAdd, Nat.reduceSub, List.replicate_succ, List.replicate_zero]
  simp +contextual -implicitDefEqProofs (maxSteps := 2000000) (disch := omega) only [drawC, drawK, keepT, binV, ↓unV, ↓loadV, ↓storeV, ↓fieldAddrV, ↓boxV, ↓buildV, ↓buildSliceV, ↓nilV, ↓appendV, ↓srcV, fillG, fillE, place, GVal.cells, grp, GVal.ofConst, ↓resV, resG, List.map, List.headD, List.take, List.drop, ↓reduceIte, Nat.reduceEqDiff, Nat.reduceAdd, Nat.reduceSub, Nat.reduceLeDiff, reduceCtorEq, implies_true, ne_eq, ↓asrcV, ↓lookupV, ↓mapUpdateV, keyOk, keyCells, pairG, aggV, Tag.cap, List.replicate, allSolid, GVal.solid, Nat.reduceBEq, Nat.reduceMul, Nat.reduceLT, List.length_map, List.length_range, splice, vcA, ↓vcB, vcC, fbFd, e29, solidH, len32, take32]
  refine (c _).mono ?_
  rintro g O' ⟨rfl, rfl⟩
  simp +contextual -implicitDefEqProofs (maxSteps := 2000000) (disch := omega) only [drawC, drawK, keepT, binV, ↓unV, ↓loadV, ↓storeV, ↓fieldAddrV, ↓boxV, ↓buildV, ↓buildSliceV, ↓nilV, ↓appendV, ↓srcV, fillG, fillE, place, GVal.cells, grp, GVal.ofConst, ↓resV, resG, List.map, List.headD, List.take, List.drop, ↓reduceIte, Nat.reduceEqDiff, Nat.reduceAdd, Nat.reduceSub, Nat.reduceLeDiff, reduceCtorEq, implies_true, ne_eq, ↓asrcV, ↓lookupV, ↓mapUpdateV, keyOk, keyCells, pairG, aggV, Tag.cap, List.replicate, allSolid, GVal.solid, Nat.reduceBEq, Nat.reduceMul, Nat.reduceLT, List.length_map, List.length_range, splice, vcA, ↓vcB, vcC, fbFd, e29, solidH, len32, take32, kfind_h, hi, hw]
  refine hF.then ?_ (by rfl)
  simp +contextual -implicitDefEqProofs (maxSteps := 2000000) (disch := omega) only [drawC, drawK, keepT, binV, ↓unV, ↓loadV, ↓storeV, ↓fieldAddrV, ↓boxV, ↓buildV, ↓buildSliceV, ↓nilV, ↓appendV, ↓srcV, fillG, fillE, place, GVal.cells, grp, GVal.ofConst, ↓resV, resG, List.map, List.headD, List.take, List.drop, ↓reduceIte, Nat.reduceEqDiff, Nat.reduceAdd, Nat.reduceSub, Nat.reduceLeDiff, reduceCtorEq, implies_true, ne_eq, ↓asrcV, ↓lookupV, ↓mapUpdateV, keyOk, keyCells, pairG, aggV, Tag.cap, List.replicate, allSolid, GVal.solid, Nat.reduceBEq, Nat.reduceMul, Nat.reduceLT, List.length_map, List.length_range, splice, vcA, ↓vcB, vcC, fbFd, e29, solidH, len32, take32, kfind_h, csG_len, take32a, drop32a, drop33a, take33a, len33, solid33, all_csG, hi, hw]
theorem gPush4 (m : GM) (hm : GMOK m) (h : Hs) (st s sq sw sv so n : Nat) (F : FuncId) (caps : List GVal) (K Z : List Cm) (S out : List Hs) (l : List Hs) (hl : look m h = some l) (hS : h ∉ S) (hF : GPure Try.prog F (.agg (bytesG h.1) :: caps) (.bool false)) (hK : K.length ≤ 1000000) (hn : n = K.length) :
    GCalls Try.prog 29 [.ptr 3 sw 0 0, .agg (bytesG h.1)] (wObj st s m sq sw sv so n (.func (.func F) [] caps) K Z S out) (fun g O' => ∃ sv', g = .tuple [] ∧ O' = wObj st s m sq sw sv' so (n + 1) (.func (.func F) [] caps) (K ++ [(h, l)]) [] (S ++ [h]) out) := by
  subst hn
  have c := fun X => gParK m h st s (by have := hm.pars h; omega) X
  simp only [hl, Option.isSome_some, parsM_some hl] at c
  obtain ⟨hi, hw⟩ := look_none encB (setM S) h (by rw [look_set, if_neg hS])
  have hw := hw true
  rw [mset_set S h hS] at hw
  refine h29.calls mixS (by simp) ?_
  simp only [gstart, s29, List.cons_append, List.nil_append, List.length_cons, List.length_nil, Nat.reduceAdd, Nat.reduceSub, List.replicate_succ, List.replicate_zero]
  simp +contextual -implicitDefEqProofs (maxSteps := 2000000) (disch := omega) only [drawC, drawK, keepT, binV, ↓unV, ↓loadV, ↓storeV, ↓fieldAddrV, ↓boxV, ↓buildV, ↓buildSliceV, ↓nilV, ↓appendV, ↓srcV, fillG, fillE, place, GVal.cells, grp, GVal.ofConst, ↓resV, resG, List.map, List.headD, List.take, List.drop, ↓reduceIte, Nat.reduceEqDiff, Nat.reduceAdd, Nat.reduceSub, Nat.reduceLeDiff, reduceCtorEq, implies_true, ne_eq, ↓asrcV, ↓lookupV, ↓mapUpdateV, keyOk, keyCells, pairG, aggV, Tag.cap, List.replicate, allSolid, GVal.solid, Nat.reduceBEq, Nat.reduceMul, Nat.reduceLT, List.length_map, List.length_range, splice, vcA, ↓vcB, vcC, fbFd, e29, solidH, len32, take32]
  refine (c _).mono ?_
  rintro g O' ⟨rfl, rfl⟩
  simp +contextual -implicitDefEqProofs (maxSteps := 2000000) (disch := omega) only [drawC, drawK, keepT, binV, ↓unV, ↓loadV, ↓storeV, ↓fieldAddrV, ↓boxV, ↓buildV, ↓buildSliceV, ↓nilV, ↓appendV, ↓srcV, fillG, fillE, place, GVal.cells, grp, GVal.ofConst, ↓resV, resG, List.map, List.headD, List.take, List.drop, ↓reduceIte, Nat.reduceEqDiff, Nat.reduceAdd, Nat.reduceSub, Nat.reduceLeDiff, reduceCtorEq, implies_true, ne_eq, ↓asrcV, ↓lookupV, ↓mapUpdateV, keyOk, keyCells, pairG, aggV, Tag.cap, List.replicate, allSolid, GVal.solid, Nat.reduceBEq, Nat.reduceMul, Nat.reduceLT, List.length_map, List.length_range, splice, vcA, ↓vcB, vcC, fbFd, e29, solidH, len32, take32, kfind_h, hi, hw]
  refine hF.then ?_ (by rfl)
  simp +contextual -implicitDefEqProofs (maxSteps := 2000000) (disch := omega) only [drawC, drawK, keepT, binV, ↓unV, ↓loadV, ↓storeV, ↓fieldAddrV, ↓boxV, ↓buildV, ↓buildSliceV, ↓nilV, ↓appendV, ↓srcV, fillG, fillE, place, GVal.cells, grp, GVal.ofConst, ↓resV, resG, List.map, List.headD, List.take, List.drop, ↓reduceIte, Nat.reduceEqDiff, Nat.reduceAdd, Nat.reduceSub, Nat.reduceLeDiff, reduceCtorEq, implies_true, ne_eq, ↓asrcV, ↓lookupV, ↓mapUpdateV, keyOk, keyCells, pairG, aggV, Tag.cap, List.replicate, allSolid, GVal.solid, Nat.reduceBEq, Nat.reduceMul, Nat.reduceLT, List.length_map, List.length_range, splice, vcA, ↓vcB, vcC, fbFd, e29, solidH, len32, take32, kfind_h, csG_len, take32a, drop32a, drop33a, take33a, len33, solid33, all_csG, hi, hw]
  refine ⟨by simp, by omega, by omega, fun v => ⟨v, ?_⟩⟩
  rw [take_csG]
  simp [csG_app, csG_one, comG]
theorem gPush5 (m : GM) (hm : GMOK m) (h : Hs) (st s sq sw sv so n : Nat) (K Z : List Cm) (S out : List Hs) (l : List Hs) (hl : look m h = some l) (hS : h ∉ S) (hK : K.length ≤ 1000000) (hn : n = K.length) :
    GCalls Try.prog 29 [.ptr 3 sw 0 0, .agg (bytesG h.1)] (wObj st s m sq sw sv so n (.lit .nilFunc) K Z S out) (fun g O' => ∃ sv', g = .tuple [] ∧ O' = wObj st s m sq sw sv' so (n + 1) (.lit .nilFunc) (K ++ [(h, l)]) [] (S ++ [h]) out) := by
  subst hn
  have c := fun X => gParK m h st s (by have := hm.pars h; omega) X
  simp only [hl, Option.isSome_some, parsM_some hl] at c
  obtain ⟨hi, hw⟩ := look_none encB (setM S) h (by rw [look_set, if_neg hS])
  have hw := hw true
  rw [mset_set S h hS] at hw
  refine h29.calls mixS (by simp) ?_
  simp only [gstart, s29, List.cons_append, List.nil_append, List.length_cons, List.length_nil, Nat.reduceAdd, Nat.reduceSub, List.replicate_succ, List.replicate_zero]
  simp +contextual -implicitDefEqProofs (maxSteps := 2000000) (disch := omega) only [drawC, drawK, keepT, binV, ↓unV, ↓loadV, ↓storeV, ↓fieldAddrV, ↓boxV, ↓buildV, ↓buildSliceV, ↓nilV, ↓appendV, ↓srcV, fillG, fillE, place, GVal.cells, grp, GVal.ofConst, ↓resV, resG, List.map, List.headD, List.take, List.drop, ↓reduceIte, Nat.reduceEqDiff, Nat.reduceAdd, Nat.reduceSub, Nat.reduceLeDiff, reduceCtorEq, implies_true, ne_eq, ↓asrcV, ↓lookupV, ↓mapUpdateV, keyOk, keyCells, pairG, aggV, Tag.cap, List.replicate, allSolid, GVal.solid, Nat.reduceBEq, Nat.reduceMul, Nat.reduceLT, List.length_map, List.length_range, splice, vcA, ↓vcB, vcC, fbFd, e29, solidH, len32, take32]
  refine (c _).mono ?_
  rintro g O' ⟨rfl, rfl⟩
  simp +contextual -implicitDefEqProofs (maxSteps := 2000000) (disch := omega) only [drawC, drawK, keepT, binV, ↓unV, ↓loadV, ↓storeV, ↓fieldAddrV, ↓boxV, ↓buildV, ↓buildSliceV, ↓nilV, ↓appendV, ↓srcV, fillG, fillE, place, GVal.cells, grp, GVal.ofConst, ↓resV, resG, List.map, List.headD, List.take, List.drop, ↓reduceIte, Nat.reduceEqDiff, Nat.reduceAdd, Nat.reduceSub, Nat.reduceLeDiff, reduceCtorEq, implies_true, ne_eq, ↓asrcV, ↓lookupV, ↓mapUpdateV, keyOk, keyCells, pairG, aggV, Tag.cap, List.replicate, allSolid, GVal.solid, Nat.reduceBEq, Nat.reduceMul, Nat.reduceLT, List.length_map, List.length_range, splice, vcA, ↓vcB, vcC, fbFd, e29, solidH, len32, take32, kfind_h, csG_len, take32a, drop32a, drop33a, take33a, len33, solid33, all_csG, hi, hw]
  refine ⟨by simp, by omega, by omega, fun v => ⟨v, ?_⟩⟩
  rw [take_csG]
  simp [csG_app, csG_one, comG]
inductive DoneG : GVal → (Hs → Bool) → Prop
  | nil : DoneG (.lit .nilFunc) (fun _ => false)
  | fn (F : FuncId) (caps : List GVal) (dn : Hs → Bool) : (∀ h : Hs, GPure Try.prog F (.agg (bytesG h.1) :: caps) (.bool (dn h))) → DoneG (.func (.func F) [] caps) dn
def pushed (m : GM) (dn : Hs → Bool) (S : List Hs) (h : Hs) : Bool := (look m h).isSome && !(decide (h ∈ S)) && !(dn h)
theorem gPush (m : GM) (hm : GMOK m) (h : Hs) (st s sq sw sv so n : Nat) (dg : GVal) (dn : Hs → Bool) (hd : DoneG dg dn) (K Z : List Cm) (S out : List Hs) (hK : K.length ≤ 1000000) (hn : n = K.length) :
    GCalls Try.prog 29 [.ptr 3 sw 0 0, .agg (bytesG h.1)] (wObj st s m sq sw sv so n dg K Z S out) (fun g O' => ∃ sv' Z', g = .tuple [] ∧ O' = if pushed m dn S h = true then wObj st s m sq sw sv' so (n + 1) dg (K ++ [(h, parsM m h)]) Z' (S ++ [h]) out else wObj st s m sq sw sv' so n dg K Z' S out) := by
  have stay : pushed m dn S h = false → GCalls Try.prog 29 [.ptr 3 sw 0 0, .agg (bytesG h.1)] (wObj st s m sq sw sv so n dg K Z S out) (fun g O' => g = .tuple [] ∧ O' = wObj st s m sq sw sv so n dg K Z S out) →
      GCalls Try.prog 29 [.ptr 3 sw 0 0, .agg (bytesG h.1)] (wObj st s m sq sw sv so n dg K Z S out) (fun g O' => ∃ sv' Z', g = .tuple [] ∧ O' = if pushed m dn S h = true then wObj st s m sq sw sv' so (n + 1) dg (K ++ [(h, parsM m h)]) Z' (S ++ [h]) out else wObj st s m sq sw sv' so n dg K Z' S out) := fun hp hc => by
    rw [hp]
    refine hc.mono ?_
    rintro g O' ⟨rfl, rfl⟩
    exact ⟨sv, Z, rfl, by rw [if_neg (by simp)]⟩
  cases hl : look m h with
  | none => exact stay (by unfold pushed; rw [hl]; rfl) (gPush1 m hm h st s sq sw sv so n dg K Z S out hl hn)
  | some l =>
    rw [parsM_some hl]
    rw [parsM_some hl] at stay
    by_cases hS : h ∈ S
    · exact stay (by unfold pushed; rw [hl]; simp [hS]) (gPush2 m hm h st s sq sw sv so n dg K Z S out l hl hS hn)
    · cases hd with
      | nil =>
        have hp : pushed m (fun _ => false) S h = true := by unfold pushed; rw [hl]; simp [hS]
        rw [hp]
        refine (gPush5 m hm h st s sq sw sv so n K Z S out l hl hS hK hn).mono ?_
        rintro g O' ⟨sv', rfl, rfl⟩
        exact ⟨sv', [], rfl, by rw [if_pos rfl]⟩
      | fn F caps dn hF =>
        have hF := hF h
        cases hb : dn h with
        | true =>
          rw [hb] at hF
          exact stay (by unfold pushed; rw [hl, hb]; simp) (gPush3 m hm h st s sq sw sv so n F caps K Z S out l hl hS hF hn)
        | false =>
          rw [hb] at hF
          have hp : pushed m dn S h = true := by unfold pushed; rw [hl, hb]; simp [hS]
          rw [hp]
          refine (gPush4 m hm h st s sq sw sv so n F caps K Z S out l hl hS hF hK hn).mono ?_
          rintro g O' ⟨sv', rfl, rfl⟩
          exact ⟨sv', [], rfl, by rw [if_pos rfl]⟩
theorem gStep1 (m : GM) (hm : GMOK m) (st s sq sw sv so n : Nat) (dg : GVal) (dn : Hs → Bool) (hd : DoneG dg dn) (K Z : List Cm) (x p : Hs) (r S out : List Hs) (hK : K.length ≤ 999999) (hn : n = K.length) :
    GCalls Try.prog 30 [.ptr 3 sw 0 0] (wObj st s m sq sw sv so (n + 1) dg (K ++ [(x, p :: r)]) Z S out) (fun g O' => ∃ sv' Z', g = .tuple [] ∧ O' = if pushed m dn S p = true then wObj st s m sq sw sv' so (n + 2) dg (K ++ [(x, r)] ++ [(p, parsM m p)]) Z' (S ++ [p]) out else wObj st s m sq sw sv' so (n + 1) dg (K ++ [(x, r)]) Z' S out) := by
  subst hn
  have eS : (csG (K ++ [(x, p :: r)] ++ Z)).getD K.length [] = bytesG x.1 ++ [.slice (hsG (p :: r)) .none] := by
    rw [csG_at _ _ (by simp)]
    simp [List.getD, comG]
  have d1 : ((K.length : Int) + 1 - 1).toNat = K.length := by omega
  have eH : (hsG (p :: r)).getD 0 [] = bytesG p.1 := rfl
  have d2 : ((0 : Int) < (r.length : Int) + 1) = True := eq_true (by omega)
  have eD : List.drop (Int.toNat 1) (List.take ((r.length : Int) + 1).toNat (hsG (p :: r))) = hsG r := by
    have e : ((r.length : Int) + 1).toNat = (hsG (p :: r)).length := by rw [hsG_len]; simp
    rw [e, List.take_length]; rfl
  have eW : (csG (K ++ [(x, p :: r)] ++ Z)).set K.length (bytesG x.1 ++ [.slice (hsG r) .none]) = csG (K ++ [(x, r)] ++ Z) := by
    rw [csG_app, csG_app, csG_app, csG_app, List.append_assoc, List.set_append_right _ _ (by rw [csG_len]; omega), csG_len, Nat.sub_self, List.append_assoc]
    rfl
  have cP := gPush m hm p st s sq sw sv so (K.length + 1) dg dn hd (K ++ [(x, r)]) Z S out (by simp; omega) (by simp)
  refine GCalls.dropTo ?_
  refine h30.calls mixS (by simp) ?_
  simp only [gstart, s30, List.cons_append, List.nil_append, List.length_cons, List.length_nil, Nat.reduceAdd, Nat.reduceSub, List.replicate_succ, List.replicate_zero]
  simp +contextual -implicitDefEqProofs (maxSteps := 2000000) (disch := omega) only [drawC, drawK, keepT, ↓lenV, binV, optV, ↓loadV, ↓storeV, ↓fieldAddrV, ↓indexAddrV, ↓allocV, ↓buildSliceV, ↓sliceV, ↓nilV, ↓appendV, ↓srcV, bound, cutTag, hiTag, fillE, GVal.cells, grp, GVal.ofConst, ↓resV, resG, List.map, List.headD, List.take, List.drop, ↓reduceIte, Nat.reduceEqDiff, Nat.reduceAdd, Nat.reduceSub, Nat.reduceLeDiff, reduceCtorEq, implies_true, ne_eq, ↓asrcV, Tag.cap, List.replicate, allSolid, GVal.solid, Nat.reduceBEq, Nat.reduceMul, Nat.reduceLT, List.length_map, List.length_range, splice, vcA, ↓vcB, vcC, fbFd, e30, solidH, len32, take32, kfind_h, csG_len, take32a, drop32a, drop33a, take33a, len33, solid33, all_csG, eS, eH, d1, d2, eD, eW, all_hsG, toNat0, setO_6, setO_7, true_imp_iff, Nat.sub_zero, List.drop_zero, hsG_len, List.length_append, List.length_cons, List.length_nil, List.length_singleton]
  refine ⟨by omega, by omega, by omega, by omega, by omega, by omega, fun u => ⟨by omega, by omega, by omega, by omega, by omega, ?_⟩⟩
  refine (GCalls.tail cP (by rintro g O' ⟨_, _, rfl, rfl⟩; split <;> exact ⟨rfl, by simp⟩) rfl (by simp) [.row u 32 [bytesG p.1]]).mono ?_
  rintro g O' ⟨_, ⟨sv', Z', rfl, rfl⟩, rfl⟩
  simp +contextual -implicitDefEqProofs (maxSteps := 2000000) (disch := omega) only [drawC, drawK, keepT, ↓lenV, binV, optV, ↓loadV, ↓storeV, ↓fieldAddrV, ↓indexAddrV, ↓allocV, ↓buildSliceV, ↓sliceV, ↓nilV, ↓appendV, ↓srcV, bound, cutTag, hiTag, fillE, GVal.cells, grp, GVal.ofConst, ↓resV, resG, List.map, List.headD, List.take, List.drop, ↓reduceIte, Nat.reduceEqDiff, Nat.reduceAdd, Nat.reduceSub, Nat.reduceLeDiff, reduceCtorEq, implies_true, ne_eq, ↓asrcV, Tag.cap, List.replicate, allSolid, GVal.solid, Nat.reduceBEq, Nat.reduceMul, Nat.reduceLT, List.length_map, List.length_range, splice, vcA, ↓vcB, vcC, fbFd, e30]
  exact ⟨_, _, _, rfl, leA_refl _, sv', Z', rfl, rfl⟩
theorem gStep0 (m : GM) (st s sq sw sv so n : Nat) (dg : GVal) (K Z : List Cm) (x : Hs) (S out : List Hs) (hK : K.length ≤ 999999) (ho : out.length ≤ 1000000) (hn : n = K.length) :
    GCalls Try.prog 30 [.ptr 3 sw 0 0] (wObj st s m sq sw sv so (n + 1) dg (K ++ [(x, [])]) Z S out) (fun g O' => ∃ so', g = .tuple [] ∧ O' = wObj st s m sq sw sv so' n dg K ((x, []) :: Z) S (out ++ [x])) := by
  subst hn
  have eS : (csG (K ++ [(x, [])] ++ Z)).getD K.length [] = bytesG x.1 ++ [.slice (hsG []) .none] := by
    rw [csG_at _ _ (by simp)]
    simp [List.getD, comG]
  have d1 : ((K.length : Int) + 1 - 1).toNat = K.length := by omega
  refine h30.calls mixS (by simp) ?_
  simp only [gstart, s30, List.cons_append, List.nil_append, List.length_cons, List.length_nil, Nat.reduceAdd, Nat.reduceSub, List.replicate_succ, List.replicate_zero]
  simp +contextual -implicitDefEqProofs (maxSteps := 2000000) (disch := omega) only [drawC, drawK, keepT, ↓lenV, binV, optV, ↓loadV, ↓storeV, ↓fieldAddrV, ↓indexAddrV, ↓allocV, ↓buildSliceV, ↓sliceV, ↓nilV, ↓appendV, ↓srcV, bound, cutTag, hiTag, fillE, GVal.cells, grp, GVal.ofConst, ↓resV, resG, List.map, List.headD, List.take, List.drop, ↓reduceIte, Nat.reduceEqDiff, Nat.reduceAdd, Nat.reduceSub, Nat.reduceLeDiff, reduceCtorEq, implies_true, ne_eq, ↓asrcV, Tag.cap, List.replicate, allSolid, GVal.solid, Nat.reduceBEq, Nat.reduceMul, Nat.reduceLT, List.length_map, List.length_range, splice, vcA, ↓vcB, vcC, fbFd, e30, solidH, len32, take32, kfind_h, csG_len, take32a, drop32a, drop33a, take33a, len33, solid33, all_csG, eS, d1, toNat0, setO_6, setO_7, Int.lt_irrefl, false_imp_iff, true_and, Nat.sub_zero, List.drop_zero, hsG_len, all_hsG, List.length_append, List.length_cons, List.length_nil, List.length_singleton]
  refine ⟨by omega, by omega, by omega, by omega, by omega, by omega, by omega, fun so' => ⟨by omega, by omega, by omega, so', ?_⟩⟩
  simp [hsG_app, hsG]
end Gv.Try
/- Contracts: order's Rising. -/
set_option linter.unusedVariables false
set_option linter.unusedSimpArgs false
set_option maxRecDepth 20000
set_option maxHeartbeats 4000000
namespace Gv.Try
open Go Gv Go.Proofs
def plM : List Hs → Int → List (Hs × Int)
  | [], _ => []
  | h :: r, n => (h, n) :: plM r (n + 1)
theorem plM_app (a : List Hs) (x : Hs) : ∀ n : Int, plM (a ++ [x]) n = plM a n ++ [(x, n + (a.length : Nat))] := by
  induction a with
  | nil => intro n; simp [plM]
  | cons h r ih =>
    intro n
    rw [List.cons_append, plM, ih, plM, List.cons_append, List.length_cons, show n + 1 + ((r.length : Nat) : Int) = n + ((r.length + 1 : Nat) : Int) by omega]
theorem look_pl (l : List Hs) (x : Hs) : ∀ n : Int, x ∉ l → look (plM l n) x = none := by
  induction l with
  | nil => intro n _; rfl
  | cons h r ih => intro n hx; rw [plM, look, if_neg (fun e => hx (by rw [show x = h from e]; simp)), ih _ (fun q => hx (by simp [q]))]
theorem look_pl_at (l : List Hs) (x : Hs) : ∀ (n : Int) (j : Nat), l.Nodup → l[j]? = some x → look (plM l n) x = some (n + (j : Nat)) := by
  induction l with
  | nil => intro n j _ h; simp at h
  | cons h r ih =>
    intro n j hn hj
    obtain ⟨h1, h2⟩ := List.nodup_cons.1 hn
    cases j with
    | zero =>
      have e : h = x := by simpa using hj
      rw [plM, look, if_pos e.symm]; simp
    | succ j =>
      have hj : r[j]? = some x := by simpa using hj
      have hm := List.mem_of_getElem? hj
      rw [plM, look, if_neg (fun e => h1 (by rw [← show x = h from e]; exact hm)), ih _ j h2 hj]
      congr 1; omega
theorem mset_pl (l : List Hs) (x : Hs) (n : Int) (hx : x ∉ l) : mset (plM l n) x (n + (l.length : Nat)) = plM (l ++ [x]) n := by
  have key : ∀ (m : List (Hs × Int)) (v : Int), look m x = none → mset m x v = m ++ [(x, v)] := by
    intro m v
    induction m with
    | nil => intro _; rfl
    | cons p r ih =>
      intro h
      rw [look] at h
      by_cases e : x = p.1
      · rw [if_pos e] at h; cases h
      · rw [if_neg e] at h; rw [mset, if_neg e, ih h]; rfl
  rw [key _ _ (look_pl l x n hx), plM_app]
theorem ss_nodup {a : List Hs} (h : SS a) : a.Nodup := h.imp fun {x y} q e => by rw [e] at q; exact LT.irrefl _ q
theorem ancL_len (m : GM) (hm : GMOK m) (l : List Hs) : (ancL m l).length ≤ l.length + 50000 := by
  have := nodup_lenH (ancL m l) (l ++ hashesM m) (ss_nodup (ancL_ss m l)) fun x hx => by
    have h := (ancL_mem m l x).1 hx
    cases h with
    | base x hx => exact List.mem_append_left _ (List.mem_filter.1 hx).1
    | step x y _ hy => exact List.mem_append_right _ (pars_in hy)
  have h2 := hm.hashes
  rw [List.length_append] at this
  omega
def RisingP (m : GM) (l : List Hs) : Prop := l.Nodup ∧ (∀ h ∈ l, (look m h).isSome = true) ∧ ∀ (k : Nat) h x, l[k]? = some h → x ∈ ancL m [h] → ∀ j : Nat, l[j]? = some x → j ≤ k
noncomputable def risingB (m : GM) (l : List Hs) : Bool := by classical exact if RisingP m l then true else false
theorem risingB_no {m : GM} {l : List Hs} (h : ¬ RisingP m l) : risingB m l = false := by unfold risingB; exact if_neg h
theorem risingB_yes {m : GM} {l : List Hs} (h : RisingP m l) : risingB m l = true := by unfold risingB; exact if_pos h
theorem gRising (m : GM) (hm : GMOK m) (st s : Nat) (l : List Hs) (t : Tag) (hl : l.length ≤ 10000) : GCalls Try.prog 16 [.ptr 0 st 0 0, .slice (hsG l) t] (gObj st s m) (fun g O' => g = .bool (risingB m l) ∧ O' = gObj st s m) := by
  refine GCalls.dropTo ?_
  refine h16.calls mixS (by simp) ?_
  simp only [gstart, s16, List.cons_append, List.nil_append, List.length_cons, List.length_nil, Nat.reduceAdd, Nat.reduceSub, List.replicate_succ, List.replicate_zero]
  simp +contextual -implicitDefEqProofs (maxSteps := 2000000) (disch := omega) only [↓lenV, binV, ↓unV, ↓loadV, ↓storeV, ↓indexAddrV, ↓allocV, ↓buildSliceV, fillE, GVal.cells, grp, GVal.ofConst, ↓resV, resG, List.map, List.headD, List.take, List.drop, ↓reduceIte, Nat.reduceEqDiff, Nat.reduceAdd, Nat.reduceSub, Nat.reduceLeDiff, reduceCtorEq, implies_true, ne_eq, ↓lookupV, ↓mapUpdateV, ↓makeMapV, keyOk, keyCells, pairG, aggV, Tag.cap, List.replicate, allSolid, GVal.solid, Nat.reduceBEq, Nat.reduceMul, Nat.reduceLT, List.length_map, List.length_range, splice, vcA, ↓vcB, vcC, fbFd, e16, hsG_len]
  intro s3
  refine vcSLoop_by (ι := { k : Nat // k ≤ l.length ∧ (l.take k).Nodup ∧ ∀ h ∈ l.take k, (look m h).isSome = true }) (fun k => ⟨[.ptr 0 st 0 0, .slice (hsG l) t, .any, .any, .any, .map 2 s3] ++ List.replicate 13 .any ++ [.slice (hsG l) t, .int .i64 l.length, .int .i64 (k.1 : Nat)] ++ List.replicate 51 .any, [.row st 1 [[.map 1 s]], .map s (kvG encL m), .map s3 (kvG encI (plM (l.take k.1) 0))]⟩) (fun k => l.length - k.1) ?_ ?_
  · exact Into.first ⟨0, by omega, by simp, by simp⟩ ⟨[], by simp [plM, kvG]⟩ (by simp [WL, leG_self, leG_any])
  · rintro ⟨k, hk, hnd, hth⟩
    change k ≤ l.length at hk
    have hnd : (l.take k).Nodup := hnd
    have hth : ∀ h ∈ l.take k, (look m h).isSome = true := hth
    by_cases h : k < l.length
    · have d0 : ((k : Int) < (l.length : Int)) = True := eq_true (by omega)
      have eS := hsG_at l k h
      have eg : l.getD k h0 = l[k] := by simp [List.getD, h]
      rw [eg] at eS
      have ht : l.take (k + 1) = l.take k ++ [l[k]] := List.take_succ_eq_append_getElem h
      have hat : l[k]? = some l[k] := List.getElem?_eq_getElem h
      have hesp : l = l.take k ++ l[k] :: l.drop (k + 1) := by
        have := List.take_append_drop k l
        rw [List.drop_eq_getElem_cons h] at this
        exact this.symm
      generalize l[k] = x at eS ht hat hesp
      by_cases hx : x ∈ l.take k
      · have hno : ¬ RisingP m l := by
          rintro ⟨q, _⟩
          rw [hesp] at q
          exact (List.nodup_append.1 q).2.2 x hx x (by simp) rfl
        have eR := risingB_no hno
        obtain ⟨j, hj⟩ := List.getElem?_of_mem hx
        obtain ⟨i, hi, hv, _⟩ := look_idx encI _ x _ (look_pl_at (l.take k) x 0 j hnd hj)
        simp +contextual -implicitDefEqProofs (maxSteps := 2000000) (disch := omega) only [↓lenV, binV, ↓unV, ↓loadV, ↓storeV, ↓indexAddrV, ↓allocV, ↓buildSliceV, fillE, GVal.cells, grp, GVal.ofConst, ↓resV, resG, List.map, List.headD, List.take, List.drop, ↓reduceIte, Nat.reduceEqDiff, Nat.reduceAdd, Nat.reduceSub, Nat.reduceLeDiff, reduceCtorEq, implies_true, ne_eq, ↓lookupV, ↓mapUpdateV, ↓makeMapV, keyOk, keyCells, pairG, aggV, Tag.cap, List.replicate, allSolid, GVal.solid, Nat.reduceBEq, Nat.reduceMul, Nat.reduceLT, List.length_map, List.length_range, splice, vcA, ↓vcB, vcC, fbFd, e16, hsG_len, toNat0, Nat.sub_zero, d0, eS, kfind_h, hi, hv, len32, take32, solidH, true_imp_iff, eR]
        exact ⟨by omega, fun u => ⟨_, gObj st s m, [.map s3 (kvG encI (plM (l.take k) 0)), .row u 32 [bytesG x.1]], rfl, leA_refl _, rfl, rfl⟩⟩
      · obtain ⟨hi, hw⟩ := look_none encI _ x (look_pl (l.take k) x 0 hx)
        have hw := hw (k : Int)
        have hms : mset (plM (l.take k) 0) x (k : Int) = plM (l.take (k + 1)) 0 := by
          have := mset_pl (l.take k) x 0 hx
          rw [List.length_take, Nat.min_eq_left hk, Int.zero_add] at this
          rw [this, ht]
        rw [hms] at hw
        have cH := (gHas m x st s).keep2 rfl
        cases hlk : look m x with
        | none =>
          have hno : ¬ RisingP m l := fun q => by
            have := q.2.1 x (List.mem_of_getElem? hat)
            rw [hlk] at this; cases this
          have eR := risingB_no hno
          rw [hlk] at cH
          simp +contextual -implicitDefEqProofs (maxSteps := 2000000) (disch := omega) only [↓lenV, binV, ↓unV, ↓loadV, ↓storeV, ↓indexAddrV, ↓allocV, ↓buildSliceV, fillE, GVal.cells, grp, GVal.ofConst, ↓resV, resG, List.map, List.headD, List.take, List.drop, ↓reduceIte, Nat.reduceEqDiff, Nat.reduceAdd, Nat.reduceSub, Nat.reduceLeDiff, reduceCtorEq, implies_true, ne_eq, ↓lookupV, ↓mapUpdateV, ↓makeMapV, keyOk, keyCells, pairG, aggV, Tag.cap, List.replicate, allSolid, GVal.solid, Nat.reduceBEq, Nat.reduceMul, Nat.reduceLT, List.length_map, List.length_range, splice, vcA, ↓vcB, vcC, fbFd, e16, hsG_len, toNat0, Nat.sub_zero, d0, eS, kfind_h, hi, len32, take32, solidH, true_imp_iff, eR]
          refine ⟨by omega, fun u => (cH _).mono ?_⟩
          rintro g O' ⟨rfl, rfl⟩
          simp +contextual -implicitDefEqProofs (maxSteps := 2000000) (disch := omega) only [↓lenV, binV, ↓unV, ↓loadV, ↓storeV, ↓indexAddrV, ↓allocV, ↓buildSliceV, fillE, GVal.cells, grp, GVal.ofConst, ↓resV, resG, List.map, List.headD, List.take, List.drop, ↓reduceIte, Nat.reduceEqDiff, Nat.reduceAdd, Nat.reduceSub, Nat.reduceLeDiff, reduceCtorEq, implies_true, ne_eq, ↓lookupV, ↓mapUpdateV, ↓makeMapV, keyOk, keyCells, pairG, aggV, Tag.cap, List.replicate, allSolid, GVal.solid, Nat.reduceBEq, Nat.reduceMul, Nat.reduceLT, List.length_map, List.length_range, splice, vcA, ↓vcB, vcC, fbFd, e16, eR, Option.isSome_none]
          exact ⟨_, gObj st s m, [.map s3 (kvG encI (plM (l.take k) 0)), .row u 32 [bytesG x.1]], rfl, leA_refl _, rfl, rfl⟩
        | some v =>
          rw [hlk] at cH
          simp +contextual -implicitDefEqProofs (maxSteps := 2000000) (disch := omega) only [↓lenV, binV, ↓unV, ↓loadV, ↓storeV, ↓indexAddrV, ↓allocV, ↓buildSliceV, fillE, GVal.cells, grp, GVal.ofConst, ↓resV, resG, List.map, List.headD, List.take, List.drop, ↓reduceIte, Nat.reduceEqDiff, Nat.reduceAdd, Nat.reduceSub, Nat.reduceLeDiff, reduceCtorEq, implies_true, ne_eq, ↓lookupV, ↓mapUpdateV, ↓makeMapV, keyOk, keyCells, pairG, aggV, Tag.cap, List.replicate, allSolid, GVal.solid, Nat.reduceBEq, Nat.reduceMul, Nat.reduceLT, List.length_map, List.length_range, splice, vcA, ↓vcB, vcC, fbFd, e16, hsG_len, toNat0, Nat.sub_zero, d0, eS, kfind_h, hi, hw, len32, take32, solidH, true_imp_iff]
          refine ⟨by omega, fun u => (cH _).mono ?_⟩
          rintro g O' ⟨rfl, rfl⟩
          simp +contextual -implicitDefEqProofs (maxSteps := 2000000) (disch := omega) only [↓lenV, binV, ↓unV, ↓loadV, ↓storeV, ↓indexAddrV, ↓allocV, ↓buildSliceV, fillE, GVal.cells, grp, GVal.ofConst, ↓resV, resG, List.map, List.headD, List.take, List.drop, ↓reduceIte, Nat.reduceEqDiff, Nat.reduceAdd, Nat.reduceSub, Nat.reduceLeDiff, reduceCtorEq, implies_true, ne_eq, ↓lookupV, ↓mapUpdateV, ↓makeMapV, keyOk, keyCells, pairG, aggV, Tag.cap, List.replicate, allSolid, GVal.solid, Nat.reduceBEq, Nat.reduceMul, Nat.reduceLT, List.length_map, List.length_range, splice, vcA, ↓vcB, vcC, fbFd, e16, Option.isSome_some, kfind_h, hi, hw, len32, take32, solidH]
          refine Into.at ⟨k + 1, by show k + 1 ≤ l.length; omega, ?_, ?_⟩ (by show l.length - (k + 1) < l.length - k; omega) ⟨[.row u 32 [bytesG x.1]], by simp⟩ (by simp [WL, leG_self, leG_any, leG_int])
          · rw [ht]
            exact List.nodup_append.2 ⟨hnd, by simp, fun a ha b hb => by rw [List.mem_singleton.1 hb]; exact fun e => hx (e ▸ ha)⟩
          · rw [ht]
            intro y hy
            rcases List.mem_append.1 hy with q | q
            · exact hth y q
            · rw [List.mem_singleton.1 q, hlk]; rfl
    · have d0 : ((k : Int) < (l.length : Int)) = False := eq_false (by omega)
      have htl : l.take k = l := List.take_of_length_le (by omega)
      rw [htl] at hnd hth
      simp +contextual -implicitDefEqProofs (maxSteps := 2000000) (disch := omega) only [↓lenV, binV, ↓unV, ↓loadV, ↓storeV, ↓indexAddrV, ↓allocV, ↓buildSliceV, fillE, GVal.cells, grp, GVal.ofConst, ↓resV, resG, List.map, List.headD, List.take, List.drop, ↓reduceIte, Nat.reduceEqDiff, Nat.reduceAdd, Nat.reduceSub, Nat.reduceLeDiff, reduceCtorEq, implies_true, ne_eq, ↓lookupV, ↓mapUpdateV, ↓makeMapV, keyOk, keyCells, pairG, aggV, Tag.cap, List.replicate, allSolid, GVal.solid, Nat.reduceBEq, Nat.reduceMul, Nat.reduceLT, List.length_map, List.length_range, splice, vcA, ↓vcB, vcC, fbFd, e16, d0, htl, hsG_len]
      refine vcSLoop_by (ι := { k : Nat // k ≤ l.length ∧ ∀ k' : Nat, k' < k → ∀ h x, l[k']? = some h → x ∈ ancL m [h] → ∀ j : Nat, l[j]? = some x → j ≤ k' }) (fun k => ⟨[.ptr 0 st 0 0, .slice (hsG l) t, .any, .any, .any, .map 2 s3] ++ List.replicate 37 .any ++ [.slice (hsG l) t, .int .i64 l.length, .int .i64 (k.1 : Nat)] ++ List.replicate 27 .any, [.row st 1 [[.map 1 s]], .map s (kvG encL m), .map s3 (kvG encI (plM l 0))]⟩) (fun k => l.length - k.1) ?_ ?_
      · exact Into.first ⟨0, by omega, by intro k' h; omega⟩ ⟨[], by simp⟩ (by simp [WL, leG_self, leG_any])
      · rintro ⟨k2, hk2, hgood⟩
        change k2 ≤ l.length at hk2
        have hgood : ∀ k' : Nat, k' < k2 → ∀ h x, l[k']? = some h → x ∈ ancL m [h] → ∀ j : Nat, l[j]? = some x → j ≤ k' := hgood
        by_cases h2 : k2 < l.length
        · have d2 : ((k2 : Int) < (l.length : Int)) = True := eq_true (by omega)
          have eS := hsG_at l k2 h2
          have eg : l.getD k2 h0 = l[k2] := by simp [List.getD, h2]
          rw [eg] at eS
          have hat : l[k2]? = some l[k2] := List.getElem?_eq_getElem h2
          generalize l[k2] = x at eS hat
          have cA := (gAncestors m hm st s [x] .full (by simp) (by simp)).keep2 rfl
          have hAl := ancL_len m hm [x]
          obtain ⟨A, hA⟩ : ∃ A, ancL m [x] = A := ⟨_, rfl⟩
          rw [hA] at cA hAl
          rw [List.length_singleton] at hAl
          simp +contextual -implicitDefEqProofs (maxSteps := 2000000) (disch := omega) only [↓lenV, binV, ↓unV, ↓loadV, ↓storeV, ↓indexAddrV, ↓allocV, ↓buildSliceV, fillE, GVal.cells, grp, GVal.ofConst, ↓resV, resG, List.map, List.headD, List.take, List.drop, ↓reduceIte, Nat.reduceEqDiff, Nat.reduceAdd, Nat.reduceSub, Nat.reduceLeDiff, reduceCtorEq, implies_true, ne_eq, ↓lookupV, ↓mapUpdateV, ↓makeMapV, keyOk, keyCells, pairG, aggV, Tag.cap, List.replicate, allSolid, GVal.solid, Nat.reduceBEq, Nat.reduceMul, Nat.reduceLT, List.length_map, List.length_range, splice, vcA, ↓vcB, vcC, fbFd, e16, hsG_len, toNat0, Nat.sub_zero, d2, eS, len32, take32, solidH, true_imp_iff]
          refine ⟨by omega, fun u => (cA _).mono ?_⟩
          rintro g O' ⟨rfl, rfl⟩
          simp +contextual -implicitDefEqProofs (maxSteps := 2000000) (disch := omega) only [↓lenV, binV, ↓unV, ↓loadV, ↓storeV, ↓indexAddrV, ↓allocV, ↓buildSliceV, fillE, GVal.cells, grp, GVal.ofConst, ↓resV, resG, List.map, List.headD, List.take, List.drop, ↓reduceIte, Nat.reduceEqDiff, Nat.reduceAdd, Nat.reduceSub, Nat.reduceLeDiff, reduceCtorEq, implies_true, ne_eq, ↓lookupV, ↓mapUpdateV, ↓makeMapV, keyOk, keyCells, pairG, aggV, Tag.cap, List.replicate, allSolid, GVal.solid, Nat.reduceBEq, Nat.reduceMul, Nat.reduceLT, List.length_map, List.length_range, splice, vcA, ↓vcB, vcC, fbFd, e16, hsG_len]
          refine vcSLoop_by (ι := { i : Nat // i ≤ A.length ∧ ∀ y ∈ A.take i, ∀ j : Nat, l[j]? = some y → j ≤ k2 }) (fun i => ⟨[.ptr 0 st 0 0, .slice (hsG l) t, .any, .any, .any, .map 2 s3] ++ List.replicate 4 .any ++ [.int .i64 (k2 : Nat)] ++ List.replicate 32 .any ++ [.slice (hsG l) t, .int .i64 l.length, .int .i64 (k2 : Nat)] ++ List.replicate 7 .any ++ [.slice (hsG A) .none, .int .i64 A.length, .int .i64 (i.1 : Nat)] ++ List.replicate 17 .any, [.row st 1 [[.map 1 s]], .map s (kvG encL m), .map s3 (kvG encI (plM l 0))]⟩) (fun i => A.length - i.1) ?_ ?_
          · exact Into.first ⟨0, by omega, by simp⟩ ⟨[.row u 32 [bytesG x.1]], by simp⟩ (by simp [WL, leG_self, leG_any])
          · rintro ⟨i, hi2, hin⟩
            change i ≤ A.length at hi2
            have hin : ∀ y ∈ A.take i, ∀ j : Nat, l[j]? = some y → j ≤ k2 := hin
            by_cases h3 : i < A.length
            · have d3 : ((i : Int) < (A.length : Int)) = True := eq_true (by omega)
              have eS3 := hsG_at A i h3
              have eg3 : A.getD i h0 = A[i] := by simp [List.getD, h3]
              rw [eg3] at eS3
              have ht3 : A.take (i + 1) = A.take i ++ [A[i]] := List.take_succ_eq_append_getElem h3
              have hyA : A[i] ∈ A := List.getElem_mem h3
              generalize A[i] = y at eS3 ht3 hyA
              by_cases hy : y ∈ l
              · obtain ⟨j, hj⟩ := List.getElem?_of_mem hy
                have hjl := (List.getElem?_eq_some_iff.1 hj).1
                have hlo := look_pl_at l y 0 j hnd hj
                rw [Int.zero_add] at hlo
                obtain ⟨ix, hi, hv, _⟩ := look_idx encI _ y _ hlo
                by_cases hjk : j ≤ k2
                · have d4 : ((k2 : Int) < (j : Int)) = False := eq_false (by omega)
                  simp +contextual -implicitDefEqProofs (maxSteps := 2000000) (disch := omega) only [↓lenV, binV, ↓unV, ↓loadV, ↓storeV, ↓indexAddrV, ↓allocV, ↓buildSliceV, fillE, GVal.cells, grp, GVal.ofConst, ↓resV, resG, List.map, List.headD, List.take, List.drop, ↓reduceIte, Nat.reduceEqDiff, Nat.reduceAdd, Nat.reduceSub, Nat.reduceLeDiff, reduceCtorEq, implies_true, ne_eq, ↓lookupV, ↓mapUpdateV, ↓makeMapV, keyOk, keyCells, pairG, aggV, Tag.cap, List.replicate, allSolid, GVal.solid, Nat.reduceBEq, Nat.reduceMul, Nat.reduceLT, List.length_map, List.length_range, splice, vcA, ↓vcB, vcC, fbFd, e16, hsG_len, toNat0, Nat.sub_zero, d3, d4, eS3, kfind_h, hi, hv, len32, take32, solidH, true_imp_iff]
                  refine ⟨by omega, fun u2 => Into.at ⟨i + 1, by show i + 1 ≤ A.length; omega, ?_⟩ (by show A.length - (i + 1) < A.length - i; omega) ⟨[.row u2 32 [bytesG y.1]], by simp⟩ (by simp [WL, leG_self, leG_any, leG_int])⟩
                  rw [ht3]
                  intro z hz j2 hj2
                  rcases List.mem_append.1 hz with q | q
                  · exact hin z q j2 hj2
                  · rw [List.mem_singleton.1 q] at hj2
                    have h5 := look_pl_at l y 0 j2 hnd hj2
                    rw [hlo, Int.zero_add] at h5
                    have h6 : (j : Int) = (j2 : Int) := by injection h5
                    omega
                · have d4 : ((k2 : Int) < (j : Int)) = True := eq_true (by omega)
                  have eR : risingB m l = false := risingB_no fun q => hjk (q.2.2 k2 x y hat (by rw [hA]; exact hyA) j hj)
                  simp +contextual -implicitDefEqProofs (maxSteps := 2000000) (disch := omega) only [↓lenV, binV, ↓unV, ↓loadV, ↓storeV, ↓indexAddrV, ↓allocV, ↓buildSliceV, fillE, GVal.cells, grp, GVal.ofConst, ↓resV, resG, List.map, List.headD, List.take, List.drop, ↓reduceIte, Nat.reduceEqDiff, Nat.reduceAdd, Nat.reduceSub, Nat.reduceLeDiff, reduceCtorEq, implies_true, ne_eq, ↓lookupV, ↓mapUpdateV, ↓makeMapV, keyOk, keyCells, pairG, aggV, Tag.cap, List.replicate, allSolid, GVal.solid, Nat.reduceBEq, Nat.reduceMul, Nat.reduceLT, List.length_map, List.length_range, splice, vcA, ↓vcB, vcC, fbFd, e16, hsG_len, toNat0, Nat.sub_zero, d3, d4, eS3, kfind_h, hi, hv, len32, take32, solidH, true_imp_iff, eR]
                  exact ⟨by omega, fun u2 => ⟨_, gObj st s m, [.map s3 (kvG encI (plM l 0)), .row u2 32 [bytesG y.1]], rfl, leA_refl _, rfl, rfl⟩⟩
              · obtain ⟨hi, _⟩ := look_none encI _ y (look_pl l y 0 hy)
                simp +contextual -implicitDefEqProofs (maxSteps := 2000000) (disch := omega) only [↓lenV, binV, ↓unV, ↓loadV, ↓storeV, ↓indexAddrV, ↓allocV, ↓buildSliceV, fillE, GVal.cells, grp, GVal.ofConst, ↓resV, resG, List.map, List.headD, List.take, List.drop, ↓reduceIte, Nat.reduceEqDiff, Nat.reduceAdd, Nat.reduceSub, Nat.reduceLeDiff, reduceCtorEq, implies_true, ne_eq, ↓lookupV, ↓mapUpdateV, ↓makeMapV, keyOk, keyCells, pairG, aggV, Tag.cap, List.replicate, allSolid, GVal.solid, Nat.reduceBEq, Nat.reduceMul, Nat.reduceLT, List.length_map, List.length_range, splice, vcA, ↓vcB, vcC, fbFd, e16, hsG_len, toNat0, Nat.sub_zero, d3, eS3, kfind_h, hi, len32, take32, solidH, true_imp_iff]
                refine ⟨by omega, fun u2 => Into.at ⟨i + 1, by show i + 1 ≤ A.length; omega, ?_⟩ (by show A.length - (i + 1) < A.length - i; omega) ⟨[.row u2 32 [bytesG y.1]], by simp⟩ (by simp [WL, leG_self, leG_any, leG_int])⟩
                rw [ht3]
                intro z hz j2 hj2
                rcases List.mem_append.1 hz with q | q
                · exact hin z q j2 hj2
                · rw [List.mem_singleton.1 q] at hj2
                  exact absurd (List.mem_of_getElem? hj2) hy
            · have d3 : ((i : Int) < (A.length : Int)) = False := eq_false (by omega)
              have hall : ∀ y ∈ A, ∀ j : Nat, l[j]? = some y → j ≤ k2 := by
                rw [List.take_of_length_le (by omega)] at hin
                exact hin
              simp +contextual -implicitDefEqProofs (maxSteps := 2000000) (disch := omega) only [↓lenV, binV, ↓unV, ↓loadV, ↓storeV, ↓indexAddrV, ↓allocV, ↓buildSliceV, fillE, GVal.cells, grp, GVal.ofConst, ↓resV, resG, List.map, List.headD, List.take, List.drop, ↓reduceIte, Nat.reduceEqDiff, Nat.reduceAdd, Nat.reduceSub, Nat.reduceLeDiff, reduceCtorEq, implies_true, ne_eq, ↓lookupV, ↓mapUpdateV, ↓makeMapV, keyOk, keyCells, pairG, aggV, Tag.cap, List.replicate, allSolid, GVal.solid, Nat.reduceBEq, Nat.reduceMul, Nat.reduceLT, List.length_map, List.length_range, splice, vcA, ↓vcB, vcC, fbFd, e16, d3]
              refine Into.at ⟨k2 + 1, by show k2 + 1 ≤ l.length; omega, ?_⟩ (by show l.length - (k2 + 1) < l.length - k2; omega) ⟨[], by simp⟩ (by simp [WL, leG_self, leG_any, leG_int])
              intro k' hk' h' z e1 e2 j e3
              by_cases hq : k' = k2
              · subst hq
                rw [hat] at e1
                cases e1
                rw [hA] at e2
                exact hall z e2 j e3
              · exact hgood k' (by omega) h' z e1 e2 j e3
        · have d2 : ((k2 : Int) < (l.length : Int)) = False := eq_false (by omega)
          have eR : risingB m l = true := risingB_yes ⟨hnd, hth, fun k' h x hk' hx j hj => hgood k' (by have := (List.getElem?_eq_some_iff.1 hk').1; omega) h x hk' hx j hj⟩
          simp +contextual -implicitDefEqProofs (maxSteps := 2000000) (disch := omega) only [↓lenV, binV, ↓unV, ↓loadV, ↓storeV, ↓indexAddrV, ↓allocV, ↓buildSliceV, fillE, GVal.cells, grp, GVal.ofConst, ↓resV, resG, List.map, List.headD, List.take, List.drop, ↓reduceIte, Nat.reduceEqDiff, Nat.reduceAdd, Nat.reduceSub, Nat.reduceLeDiff, reduceCtorEq, implies_true, ne_eq, ↓lookupV, ↓mapUpdateV, ↓makeMapV, keyOk, keyCells, pairG, aggV, Tag.cap, List.replicate, allSolid, GVal.solid, Nat.reduceBEq, Nat.reduceMul, Nat.reduceLT, List.length_map, List.length_range, splice, vcA, ↓vcB, vcC, fbFd, e16, d2, eR]
          exact ⟨_, gObj st s m, [.map s3 (kvG encI (plM l 0))], rfl, leA_refl _, rfl, rfl⟩
end Gv.Try
/- Contracts: order's Walk. -/
set_option linter.unusedVariables false
set_option linter.unusedSimpArgs false
set_option maxRecDepth 20000
set_option maxHeartbeats 4000000
namespace Gv.Try
open Go Gv Go.Proofs
abbrev WSt := List Hs × List Hs
inductive VisL (m : GM) (dn : Hs → Bool) : List Hs → WSt → WSt → Prop
  | nil (so : WSt) : VisL m dn [] so so
  | skip (p : Hs) (r : List Hs) (so T : WSt) : pushed m dn so.1 p = false → VisL m dn r so T → VisL m dn (p :: r) so T
  | go (p : Hs) (r : List Hs) (so so1 T : WSt) : pushed m dn so.1 p = true → VisL m dn (parsM m p) (so.1 ++ [p], so.2) so1 → VisL m dn r (so1.1, so1.2 ++ [p]) T → VisL m dn (p :: r) so T
theorem VisL.inv_skip {m : GM} {dn : Hs → Bool} {p : Hs} {r : List Hs} {so T : WSt} (h : VisL m dn (p :: r) so T) (hp : pushed m dn so.1 p = false) : VisL m dn r so T := by
  cases h with
  | skip _ _ _ _ _ h => exact h
  | go _ _ _ _ _ h1 => rw [h1] at hp; cases hp
theorem VisL.inv_go {m : GM} {dn : Hs → Bool} {p : Hs} {r : List Hs} {so T : WSt} (h : VisL m dn (p :: r) so T) (hp : pushed m dn so.1 p = true) : ∃ so1, VisL m dn (parsM m p) (so.1 ++ [p], so.2) so1 ∧ VisL m dn r (so1.1, so1.2 ++ [p]) T := by
  cases h with
  | skip _ _ _ _ h1 => rw [h1] at hp; cases hp
  | go _ _ _ so1 _ _ h2 h3 => exact ⟨so1, h2, h3⟩
theorem VisL.inv_nil {m : GM} {dn : Hs → Bool} {so T : WSt} (h : VisL m dn [] so T) : T = so := by cases h; rfl
def FinS (m : GM) (dn : Hs → Bool) : List Cm → WSt → WSt → Prop
  | [], so, T => T = so
  | (x, ps) :: r, so, T => ∃ so1, VisL m dn ps so so1 ∧ FinS m dn r (so1.1, so1.2 ++ [x]) T
structure SInv (m : GM) (S out : List Hs) (n : Nat) : Prop where
  nodup : S.Nodup
  keys : ∀ x ∈ S, (look m x).isSome = true
  len : out.length + n ≤ S.length
theorem look_key {α : Type} {m : List (Hs × α)} {x : Hs} (h : (look m x).isSome = true) : x ∈ m.map (·.1) := by
  induction m with
  | nil => cases h
  | cons p r ih =>
    rw [look] at h
    by_cases e : x = p.1
    · simp [e]
    · rw [if_neg e] at h; simp [ih h]
theorem SInv.le {m : GM} {S out : List Hs} {n : Nat} (h : SInv m S out n) : S.length ≤ m.length := by
  have := nodup_lenH S (m.map (·.1)) h.nodup fun x hx => look_key (h.keys x hx)
  simpa using this
theorem pushed_iff {m : GM} {dn : Hs → Bool} {S : List Hs} {h : Hs} (hp : pushed m dn S h = true) : (look m h).isSome = true ∧ h ∉ S ∧ dn h = false := by
  unfold pushed at hp
  simp only [Bool.and_eq_true, Bool.not_eq_true', decide_eq_false_iff_not] at hp
  exact ⟨hp.1.1, hp.1.2, hp.2⟩
theorem SInv.push {m : GM} {S out : List Hs} {n : Nat} (h : SInv m S out n) {dn : Hs → Bool} {x : Hs} (hp : pushed m dn S x = true) : SInv m (S ++ [x]) out (n + 1) := by
  obtain ⟨h1, h2, _⟩ := pushed_iff hp
  refine ⟨?_, fun y hy => ?_, by have := h.len; rw [List.length_append, List.length_singleton]; omega⟩
  · rw [List.nodup_append]
    exact ⟨h.nodup, by simp, fun a ha b hb => by rw [List.mem_singleton.1 hb]; exact fun e => h2 (e ▸ ha)⟩
  · rcases List.mem_append.1 hy with q | q
    · exact h.keys y q
    · rw [List.mem_singleton.1 q]; exact h1
def wMu (m : GM) (S : List Hs) (K : List Cm) : Nat := 6 * (m.length - S.length) + (K.map fun c => c.2.length + 1).sum
theorem gWalkN (m : GM) (hm : GMOK m) (hs : List Hs) (th : Tag) (st s : Nat)  (T : WSt) (hT : VisL m (fun _ => false) hs ([], []) T) (hl : hs.length ≤ 1000000) :
    GCalls Try.prog 13 [.ptr 0 st 0 0, .slice (hsG hs) th, (.lit .nilFunc)] (gObj st s m) (fun g O' => g = .slice (hsG T.2) .none ∧ O' = gObj st s m) := by
  have hml := hm.len
  have hd : DoneG (.lit .nilFunc) (fun _ => false) := .nil
  refine GCalls.dropTo ?_
  refine h13.calls mixS (by simp) ?_
  simp only [gstart, s13, List.cons_append, List.nil_append, List.length_cons, List.length_nil, Nat.reduceAdd, Nat.reduceSub, List.replicate_succ, List.replicate_zero]
  simp +contextual -implicitDefEqProofs (maxSteps := 2000000) (disch := omega) only [↓lenV, binV, optV, ↓loadV, ↓storeV, ↓fieldAddrV, ↓indexAddrV, ↓allocV, ↓boxV, ↓buildV, ↓sliceV, ↓nilV, bound, cutTag, hiTag, fillG, place, GVal.cells, grp, GVal.ofConst, ↓resV, resG, List.map, List.headD, List.take, List.drop, ↓reduceIte, Nat.reduceEqDiff, Nat.reduceAdd, Nat.reduceSub, Nat.reduceLeDiff, reduceCtorEq, implies_true, ne_eq, ↓makeMapV, aggV, Tag.cap, List.replicate, allSolid, GVal.solid, Nat.reduceBEq, Nat.reduceMul, Nat.reduceLT, List.length_map, List.length_range, splice, vcA, ↓vcB, vcC, fbFd, e13, hsG_len]
  refine fun sq => ⟨⟨rfl, rfl, rfl⟩, rfl, rfl, fun sw => ?_⟩
  refine vcSLoop_by (ι := { p : ((Nat × List Cm) × (List Hs × List Hs)) × (Nat × Nat) // p.1.1.1 ≤ hs.length ∧ VisL m (fun _ => false) (hs.drop p.1.1.1) p.1.2 T ∧ SInv m p.1.2.1 p.1.2.2 0 }) (fun p => ⟨[.ptr 0 st 0 0, .slice (hsG hs) th, (.lit .nilFunc)] ++ List.replicate 4 .any ++ [.ptr 3 sw 0 0] ++ List.replicate 9 .any ++ [.slice (hsG hs) th, .int .i64 hs.length, .int .i64 (p.1.1.1.1 : Nat)] ++ List.replicate 19 .any, wObj st s m sq sw p.1.2.1 p.1.2.2 0 (.lit .nilFunc) [] p.1.1.1.2 p.1.1.2.1 p.1.1.2.2⟩) (fun p => hs.length - p.1.1.1.1) ?_ ?_
  · refine Into.cellRow 3 3 33 rfl rfl rfl rfl ?_
    simp +contextual -implicitDefEqProofs (maxSteps := 2000000) (disch := omega) only [↓lenV, binV, optV, ↓loadV, ↓storeV, ↓fieldAddrV, ↓indexAddrV, ↓allocV, ↓boxV, ↓buildV, ↓sliceV, ↓nilV, bound, cutTag, hiTag, fillG, place, GVal.cells, grp, GVal.ofConst, ↓resV, resG, List.map, List.headD, List.take, List.drop, ↓reduceIte, Nat.reduceEqDiff, Nat.reduceAdd, Nat.reduceSub, Nat.reduceLeDiff, reduceCtorEq, implies_true, ne_eq, ↓makeMapV, aggV, Tag.cap, List.replicate, allSolid, GVal.solid, Nat.reduceBEq, Nat.reduceMul, Nat.reduceLT, List.length_map, List.length_range, splice, vcA, ↓vcB, vcC, fbFd, e13]
    intro sv
    refine Into.cellTok 3 4 32 [] rfl rfl rfl rfl ?_
    simp +contextual -implicitDefEqProofs (maxSteps := 2000000) (disch := omega) only [↓lenV, binV, optV, ↓loadV, ↓storeV, ↓fieldAddrV, ↓indexAddrV, ↓allocV, ↓boxV, ↓buildV, ↓sliceV, ↓nilV, bound, cutTag, hiTag, fillG, place, GVal.cells, grp, GVal.ofConst, ↓resV, resG, List.map, List.headD, List.take, List.drop, ↓reduceIte, Nat.reduceEqDiff, Nat.reduceAdd, Nat.reduceSub, Nat.reduceLeDiff, reduceCtorEq, implies_true, ne_eq, ↓makeMapV, aggV, Tag.cap, List.replicate, allSolid, GVal.solid, Nat.reduceBEq, Nat.reduceMul, Nat.reduceLT, List.length_map, List.length_range, splice, vcA, ↓vcB, vcC, fbFd, e13]
    intro so
    exact Into.first ⟨(((0, []), ([], [])), (sv, so)), by show 0 ≤ _; omega, by simpa using hT, ⟨List.nodup_nil, by simp, by simp⟩⟩ ⟨[], rfl⟩ (by simp [WL, leG_self, leG_any, hsG_len])
  · rintro ⟨⟨⟨⟨k, Z⟩, ⟨S, out⟩⟩, ⟨sv, so⟩⟩, hk, hV, hI⟩
    change k ≤ hs.length at hk
    change VisL m (fun _ => false) (hs.drop k) (S, out) T at hV
    change SInv m S out 0 at hI
    have hSm := hI.le
    have hOl := hI.len
    by_cases h : k < hs.length
    · have d0 : ((k : Int) < (hs.length : Int)) = True := eq_true (by omega)
      have eS := hsG_at hs k h
      rw [dropH h] at hV
      generalize hs.getD k h0 = x at *
      have cP := gPush m hm x st s sq sw sv so 0 (.lit .nilFunc) (fun _ => false) hd [] Z S out (by simp) rfl
      simp +contextual -implicitDefEqProofs (maxSteps := 2000000) (disch := omega) only [↓lenV, binV, optV, ↓loadV, ↓storeV, ↓fieldAddrV, ↓indexAddrV, ↓allocV, ↓boxV, ↓buildV, ↓sliceV, ↓nilV, bound, cutTag, hiTag, fillG, place, GVal.cells, grp, GVal.ofConst, ↓resV, resG, List.map, List.headD, List.take, List.drop, ↓reduceIte, Nat.reduceEqDiff, Nat.reduceAdd, Nat.reduceSub, Nat.reduceLeDiff, reduceCtorEq, implies_true, ne_eq, ↓makeMapV, aggV, Tag.cap, List.replicate, allSolid, GVal.solid, Nat.reduceBEq, Nat.reduceMul, Nat.reduceLT, List.length_map, List.length_range, splice, vcA, ↓vcB, vcC, fbFd, e13, solidH, len32, take32, setO_6, setO_7, hsG_len, d0, eS]
      refine ⟨by omega, fun u => ?_⟩
      refine (GCalls.tail cP (by rintro g O' ⟨_, _, rfl, rfl⟩; split <;> exact ⟨rfl, by simp⟩) rfl (by simp) [.row u 32 [bytesG x.1]]).mono ?_
      rintro g O' ⟨_, ⟨sv2, Z2, rfl, rfl⟩, rfl⟩
      have hT1 : ∃ T1, VisL m (fun _ => false) (hs.drop (k + 1)) T1 T ∧ (if pushed m (fun _ => false) S x = true then FinS m (fun _ => false) [(x, parsM m x)] (S ++ [x], out) T1 else T1 = (S, out)) := by
        cases hp : pushed m (fun _ => false) S x with
        | false => exact ⟨_, hV.inv_skip hp, by rw [if_neg (by simp)]⟩
        | true =>
          obtain ⟨so1, hV1, hV2⟩ := hV.inv_go hp
          exact ⟨_, hV2, by rw [if_pos rfl]; exact ⟨so1, hV1, rfl⟩⟩
      obtain ⟨T1, hV2, hF⟩ := hT1
      simp +contextual -implicitDefEqProofs (maxSteps := 2000000) (disch := omega) only [↓lenV, binV, optV, ↓loadV, ↓storeV, ↓fieldAddrV, ↓indexAddrV, ↓allocV, ↓boxV, ↓buildV, ↓sliceV, ↓nilV, bound, cutTag, hiTag, fillG, place, GVal.cells, grp, GVal.ofConst, ↓resV, resG, List.map, List.headD, List.take, List.drop, ↓reduceIte, Nat.reduceEqDiff, Nat.reduceAdd, Nat.reduceSub, Nat.reduceLeDiff, reduceCtorEq, implies_true, ne_eq, ↓makeMapV, aggV, Tag.cap, List.replicate, allSolid, GVal.solid, Nat.reduceBEq, Nat.reduceMul, Nat.reduceLT, List.length_map, List.length_range, splice, vcA, ↓vcB, vcC, fbFd, e13, solidH, len32, take32, setO_6, setO_7]
      refine vcSLoop_by (ι := { p : ((List Cm × List Cm) × (List Hs × List Hs)) × (Nat × Nat) // FinS m (fun _ => false) p.1.1.1.reverse p.1.2 T1 ∧ SInv m p.1.2.1 p.1.2.2 p.1.1.1.length }) (fun p => ⟨[.ptr 0 st 0 0, .slice (hsG hs) th, (.lit .nilFunc)] ++ List.replicate 4 .any ++ [.ptr 3 sw 0 0] ++ List.replicate 9 .any ++ [.slice (hsG hs) th, .int .i64 hs.length, .int .i64 (k : Nat)] ++ List.replicate 19 .any, wObj st s m sq sw p.1.2.1 p.1.2.2 p.1.1.1.1.length (.lit .nilFunc) p.1.1.1.1 p.1.1.1.2 p.1.1.2.1 p.1.1.2.2⟩) (fun p => wMu m p.1.1.2.1 p.1.1.1.1) ?_ ?_
      · cases hp : pushed m (fun _ => false) S x with
        | false =>
          rw [hp, if_neg (by simp)] at hF
          exact Into.first ⟨((([], Z2), (S, out)), (sv2, so)), hF, hI⟩ ⟨[.row u 32 [bytesG x.1]], by rw [if_neg (by simp)]; rfl⟩ (by simp [WL, leG_self, leG_any])
        | true =>
          rw [hp, if_pos rfl] at hF
          exact Into.first ⟨((([(x, parsM m x)], Z2), (S ++ [x], out)), (sv2, so)), hF, hI.push hp⟩ ⟨[.row u 32 [bytesG x.1]], by rw [if_pos rfl]; rfl⟩ (by simp [WL, leG_self, leG_any])
      · rintro ⟨⟨⟨⟨K, Z3⟩, ⟨S3, out3⟩⟩, ⟨sv3, so3⟩⟩, hF3, hI3⟩
        change FinS m (fun _ => false) K.reverse (S3, out3) T1 at hF3
        change SInv m S3 out3 K.length at hI3
        have hS3 := hI3.le
        have hO3 := hI3.len
        rcases List.eq_nil_or_concat K with rfl | ⟨K0, y, e⟩
        · simp +contextual -implicitDefEqProofs (maxSteps := 2000000) (disch := omega) only [↓lenV, binV, optV, ↓loadV, ↓storeV, ↓fieldAddrV, ↓indexAddrV, ↓allocV, ↓boxV, ↓buildV, ↓sliceV, ↓nilV, bound, cutTag, hiTag, fillG, place, GVal.cells, grp, GVal.ofConst, ↓resV, resG, List.map, List.headD, List.take, List.drop, ↓reduceIte, Nat.reduceEqDiff, Nat.reduceAdd, Nat.reduceSub, Nat.reduceLeDiff, reduceCtorEq, implies_true, ne_eq, ↓makeMapV, aggV, Tag.cap, List.replicate, allSolid, GVal.solid, Nat.reduceBEq, Nat.reduceMul, Nat.reduceLT, List.length_map, List.length_range, splice, vcA, ↓vcB, vcC, fbFd, e13, solidH, len32, take32, setO_6, setO_7, Int.lt_irrefl, List.length_nil, Int.natCast_zero]
          rw [List.reverse_nil] at hF3
          rw [FinS] at hF3
          rw [hF3] at hV2
          exact Into.at ⟨(((k + 1, Z3), (S3, out3)), (sv3, so3)), by show k + 1 ≤ _; omega, hV2, hI3⟩ (by show _ < _; simp; omega) ⟨[], rfl⟩ (by simp [WL, leG_self, leG_any, leG_int])
        · rw [List.concat_eq_append] at e
          subst e
          obtain ⟨y, ps⟩ := y
          rw [List.reverse_append, List.reverse_singleton, List.singleton_append] at hF3
          obtain ⟨so1, hVp, hF4⟩ := hF3
          have dK : ((0 : Int) < (K0.length : Int) + 1) = True := eq_true (by omega)
          have hKl : K0.length + 1 ≤ 10000 := by rw [List.length_append, List.length_singleton] at hO3; omega
          cases ps with
          | nil =>
            have e1 := hVp.inv_nil
            subst e1
            have cS := gStep0 m st s sq sw sv3 so3 K0.length (.lit .nilFunc) K0 Z3 y S3 out3 (by omega) (by omega) rfl
            simp +contextual -implicitDefEqProofs (maxSteps := 2000000) (disch := omega) only [↓lenV, binV, optV, ↓loadV, ↓storeV, ↓fieldAddrV, ↓indexAddrV, ↓allocV, ↓boxV, ↓buildV, ↓sliceV, ↓nilV, bound, cutTag, hiTag, fillG, place, GVal.cells, grp, GVal.ofConst, ↓resV, resG, List.map, List.headD, List.take, List.drop, ↓reduceIte, Nat.reduceEqDiff, Nat.reduceAdd, Nat.reduceSub, Nat.reduceLeDiff, reduceCtorEq, implies_true, ne_eq, ↓makeMapV, aggV, Tag.cap, List.replicate, allSolid, GVal.solid, Nat.reduceBEq, Nat.reduceMul, Nat.reduceLT, List.length_map, List.length_range, splice, vcA, ↓vcB, vcC, fbFd, e13, solidH, len32, take32, setO_6, setO_7, dK, List.length_append, List.length_cons, List.length_nil, List.length_singleton]
            refine cS.mono ?_
            rintro g O' ⟨so4, rfl, rfl⟩
            simp +contextual -implicitDefEqProofs (maxSteps := 2000000) (disch := omega) only [↓lenV, binV, optV, ↓loadV, ↓storeV, ↓fieldAddrV, ↓indexAddrV, ↓allocV, ↓boxV, ↓buildV, ↓sliceV, ↓nilV, bound, cutTag, hiTag, fillG, place, GVal.cells, grp, GVal.ofConst, ↓resV, resG, List.map, List.headD, List.take, List.drop, ↓reduceIte, Nat.reduceEqDiff, Nat.reduceAdd, Nat.reduceSub, Nat.reduceLeDiff, reduceCtorEq, implies_true, ne_eq, ↓makeMapV, aggV, Tag.cap, List.replicate, allSolid, GVal.solid, Nat.reduceBEq, Nat.reduceMul, Nat.reduceLT, List.length_map, List.length_range, splice, vcA, ↓vcB, vcC, fbFd, e13, solidH, len32, take32, setO_6, setO_7]
            refine Into.at ⟨(((K0, (y, []) :: Z3), (S3, out3 ++ [y])), (sv3, so4)), hF4, ⟨hI3.nodup, hI3.keys, ?_⟩⟩ ?_ ⟨[], rfl⟩ (by simp [WL, leG_self, leG_any, leG_int])
            · show (out3 ++ [y]).length + K0.length ≤ S3.length
              rw [List.length_append, List.length_singleton] at hO3 ⊢; omega
            · show wMu m S3 K0 < wMu m S3 (K0 ++ [(y, [])])
              simp [wMu]
          | cons p r =>
            have cS := gStep1 m hm st s sq sw sv3 so3 K0.length (.lit .nilFunc) (fun _ => false) hd K0 Z3 y p r S3 out3 (by omega) rfl
            have hpl := hm.pars p
            simp +contextual -implicitDefEqProofs (maxSteps := 2000000) (disch := omega) only [↓lenV, binV, optV, ↓loadV, ↓storeV, ↓fieldAddrV, ↓indexAddrV, ↓allocV, ↓boxV, ↓buildV, ↓sliceV, ↓nilV, bound, cutTag, hiTag, fillG, place, GVal.cells, grp, GVal.ofConst, ↓resV, resG, List.map, List.headD, List.take, List.drop, ↓reduceIte, Nat.reduceEqDiff, Nat.reduceAdd, Nat.reduceSub, Nat.reduceLeDiff, reduceCtorEq, implies_true, ne_eq, ↓makeMapV, aggV, Tag.cap, List.replicate, allSolid, GVal.solid, Nat.reduceBEq, Nat.reduceMul, Nat.reduceLT, List.length_map, List.length_range, splice, vcA, ↓vcB, vcC, fbFd, e13, solidH, len32, take32, setO_6, setO_7, dK, List.length_append, List.length_cons, List.length_nil, List.length_singleton]
            refine cS.mono ?_
            rintro g O' ⟨sv4, Z4, rfl, rfl⟩
            cases hp : pushed m (fun _ => false) S3 p with
            | false =>
              have hVr := hVp.inv_skip hp
              simp +contextual -implicitDefEqProofs (maxSteps := 2000000) (disch := omega) only [↓lenV, binV, optV, ↓loadV, ↓storeV, ↓fieldAddrV, ↓indexAddrV, ↓allocV, ↓boxV, ↓buildV, ↓sliceV, ↓nilV, bound, cutTag, hiTag, fillG, place, GVal.cells, grp, GVal.ofConst, ↓resV, resG, List.map, List.headD, List.take, List.drop, ↓reduceIte, Nat.reduceEqDiff, Nat.reduceAdd, Nat.reduceSub, Nat.reduceLeDiff, reduceCtorEq, implies_true, ne_eq, ↓makeMapV, aggV, Tag.cap, List.replicate, allSolid, GVal.solid, Nat.reduceBEq, Nat.reduceMul, Nat.reduceLT, List.length_map, List.length_range, splice, vcA, ↓vcB, vcC, fbFd, e13, solidH, len32, take32, setO_6, setO_7, Bool.false_eq_true, if_false]
              refine Into.at ⟨(((K0 ++ [(y, r)], Z4), (S3, out3)), (sv4, so3)), ?_, ⟨hI3.nodup, hI3.keys, ?_⟩⟩ ?_ ⟨[], by simp⟩ (by simp [WL, leG_self, leG_any, leG_int])
              · show FinS m (fun _ => false) (K0 ++ [(y, r)]).reverse (S3, out3) T1
                rw [List.reverse_append, List.reverse_singleton, List.singleton_append]
                exact ⟨so1, hVr, hF4⟩
              · show out3.length + (K0 ++ [(y, r)]).length ≤ S3.length
                rw [List.length_append, List.length_singleton] at hO3 ⊢; exact hO3
              · show wMu m S3 (K0 ++ [(y, r)]) < wMu m S3 (K0 ++ [(y, p :: r)])
                simp [wMu]
            | true =>
              obtain ⟨so2, hVq, hVr⟩ := hVp.inv_go hp
              have hIp := hI3.push hp
              have hIl := hIp.le
              simp +contextual -implicitDefEqProofs (maxSteps := 2000000) (disch := omega) only [↓lenV, binV, optV, ↓loadV, ↓storeV, ↓fieldAddrV, ↓indexAddrV, ↓allocV, ↓boxV, ↓buildV, ↓sliceV, ↓nilV, bound, cutTag, hiTag, fillG, place, GVal.cells, grp, GVal.ofConst, ↓resV, resG, List.map, List.headD, List.take, List.drop, ↓reduceIte, Nat.reduceEqDiff, Nat.reduceAdd, Nat.reduceSub, Nat.reduceLeDiff, reduceCtorEq, implies_true, ne_eq, ↓makeMapV, aggV, Tag.cap, List.replicate, allSolid, GVal.solid, Nat.reduceBEq, Nat.reduceMul, Nat.reduceLT, List.length_map, List.length_range, splice, vcA, ↓vcB, vcC, fbFd, e13, solidH, len32, take32, setO_6, setO_7, if_true]
              refine Into.at ⟨(((K0 ++ [(y, r)] ++ [(p, parsM m p)], Z4), (S3 ++ [p], out3)), (sv4, so3)), ?_, ⟨hIp.nodup, hIp.keys, ?_⟩⟩ ?_ ⟨[], by simp⟩ (by simp [WL, leG_self, leG_any, leG_int])
              · show FinS m (fun _ => false) (K0 ++ [(y, r)] ++ [(p, parsM m p)]).reverse (S3 ++ [p], out3) T1
                rw [List.reverse_append, List.reverse_singleton, List.singleton_append, List.reverse_append, List.reverse_singleton, List.singleton_append]
                exact ⟨so2, hVq, so1, hVr, hF4⟩
              · have := hIp.len
                show out3.length + (K0 ++ [(y, r)] ++ [(p, parsM m p)]).length ≤ (S3 ++ [p]).length
                rw [List.length_append, List.length_singleton] at this ⊢
                rw [List.length_append, List.length_singleton] at this ⊢
                rw [List.length_append, List.length_singleton]
                omega
              · show wMu m (S3 ++ [p]) (K0 ++ [(y, r)] ++ [(p, parsM m p)]) < wMu m S3 (K0 ++ [(y, p :: r)])
                rw [List.length_append, List.length_singleton] at hIl
                simp [wMu]
                omega
    · have d0 : ((k : Int) < (hs.length : Int)) = False := eq_false (by omega)
      rw [List.drop_of_length_le (by omega)] at hV
      have eT := hV.inv_nil
      subst eT
      simp +contextual -implicitDefEqProofs (maxSteps := 2000000) (disch := omega) only [↓lenV, binV, optV, ↓loadV, ↓storeV, ↓fieldAddrV, ↓indexAddrV, ↓allocV, ↓boxV, ↓buildV, ↓sliceV, ↓nilV, bound, cutTag, hiTag, fillG, place, GVal.cells, grp, GVal.ofConst, ↓resV, resG, List.map, List.headD, List.take, List.drop, ↓reduceIte, Nat.reduceEqDiff, Nat.reduceAdd, Nat.reduceSub, Nat.reduceLeDiff, reduceCtorEq, implies_true, ne_eq, ↓makeMapV, aggV, Tag.cap, List.replicate, allSolid, GVal.solid, Nat.reduceBEq, Nat.reduceMul, Nat.reduceLT, List.length_map, List.length_range, splice, vcA, ↓vcB, vcC, fbFd, e13, solidH, len32, take32, setO_6, setO_7, d0]
      exact ⟨.slice (hsG out) .none, gObj st s m, _, rfl, by rw [leA_slice], rfl, rfl⟩
end Gv.Try
