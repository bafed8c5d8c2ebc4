/- Contracts: small functions of graph. -/
import Derived.Test.YtnenmmdpclglhaaP7
set_option linter.unusedVariables false
set_option linter.unusedSimpArgs false
set_option maxRecDepth 20000
set_option maxHeartbeats 4000000
namespace Gv.Try
open Go Gv Go.Proofs
theorem gCloneP (l : List Hs) (t : Tag) (hl : l.length ≤ 4398046511104) (ht : t = .nil → l = []) : GPure Try.prog 30 [.slice (hsG l) t] (.slice (hsG l) .none) := by
  refine GCalls.toPure ((hClone l t hl ht).mono ?_)
  rintro g O' (⟨rfl, rfl, rfl⟩ | ⟨st, rfl, rfl⟩)
  · exact ⟨2, .slice [] .nil, rfl, by rw [leA_slice]; rfl⟩
  · exact ⟨3, .slice (hsG l) .none, frz_own rfl (hsG_len _).symm (frz_hs _ 1 _), by rw [leA_slice]⟩
abbrev errG (n : Int) : GVal := .iface 61 (.int .i64 n)
abbrev whichG (h : Hs) (n : Int) : GVal := .iface 117 (.ref (bytesG h.1 ++ [errG n]))
theorem gOf (h : Hs) (n : Int) : GPure Try.prog 57 [.agg (bytesG h.1), errG n] (whichG h n) := by
  refine h57.pure mixS (by simp) ?_
  simp only [gstart, s57, List.cons_append, List.nil_append, List.length_cons, List.length_nil, Nat.reduceAdd, Nat.reduceSub, List.replicate_succ, List.replicate_zero]
  simp +contextual -implicitDefEqProofs (maxSteps := 2000000) (disch := omega) only [binV, ↓loadV, ↓boxV, ↓buildV, ↓ifaceV, fillG, place, GVal.cells, grp, GVal.ofConst, ↓resV, resG, List.map, List.headD, List.take, List.drop, ↓reduceIte, Nat.reduceEqDiff, Nat.reduceAdd, Nat.reduceSub, Nat.reduceLeDiff, reduceCtorEq, implies_true, ne_eq, aggV, Tag.cap, List.replicate, allSolid, GVal.solid, Nat.reduceBEq, Nat.reduceMul, Nat.reduceLT, List.length_map, List.length_range, splice, vcA, ↓vcB, vcC, fbFe, e57, len32, take32, solidH]
  refine ⟨by kernel_rfl, rfl, ?_⟩
  simp only [len33, take32a, drop33a, solid33, List.append_nil, Nat.le_refl, if_true]
  exact ⟨rfl, by simp [leA, leG_self]⟩
theorem gEqual1 (a b : List Hs) (ta tb : Tag) (ha : a.length ≤ 4398046511104) (hl : a.length = b.length) : GPure Try.prog 60 [.slice (hsG a) ta, .slice (hsG b) tb] (.bool (decide (a = b))) := by
  have dl : ((a.length : Int) = (b.length : Int)) = True := eq_true (by omega)
  refine h60.pure mixS (by simp) ?_
  simp only [gstart, s60, List.cons_append, List.nil_append, List.length_cons, List.length_nil, Nat.reduceAdd, Nat.reduceSub, List.replicate_succ, List.replicate_zero]
  simp +contextual -implicitDefEqProofs (maxSteps := 2000000) (disch := omega) only [drawC, drawK, keepT, ↓lenV, binV, ↓loadV, ↓indexAddrV, GVal.cells, grp, GVal.ofConst, ↓resV, resG, List.map, List.headD, List.take, List.drop, ↓reduceIte, Nat.reduceEqDiff, Nat.reduceAdd, Nat.reduceSub, Nat.reduceLeDiff, reduceCtorEq, implies_true, ne_eq, aggV, Tag.cap, List.replicate, allSolid, GVal.solid, Nat.reduceBEq, Nat.reduceMul, Nat.reduceLT, List.length_map, List.length_range, splice, vcA, ↓vcB, vcC, fbFe, e60, hsG_len, dl, not_true_eq_false, not_false_eq_true, false_imp_iff, true_imp_iff, true_and, and_true]
  refine vcSLoop_by (ι := { k : Nat // k ≤ a.length ∧ a.take k = b.take k }) (fun k => ⟨[.slice (hsG a) ta, .slice (hsG b) tb, .any, .any, .any, .any, .any, .any, .any, .any, .any, .slice (hsG a) ta, .int .i64 a.length, .int .i64 (k.1 : Nat)] ++ List.replicate 12 .any, []⟩) (fun k => a.length - k.1) ?_ ?_
  · exact Into.first ⟨0, by omega, by simp⟩ ⟨[], by simp⟩ (by simp [WL, leG_self, leG_any, leG_int])
  · rintro ⟨k, hk, he⟩
    by_cases h' : k < a.length
    · have d0 : ((k : Int) < (a.length : Int)) = True := eq_true (by omega)
      have ea := hsG_at a k h'
      have eb := hsG_at b k (by omega)
      obtain ⟨x, ex⟩ : ∃ x, a.getD k h0 = x := ⟨_, rfl⟩
      obtain ⟨y, ey⟩ : ∃ y, b.getD k h0 = y := ⟨_, rfl⟩
      rw [ex] at ea
      rw [ey] at eb
      simp +contextual -implicitDefEqProofs (maxSteps := 2000000) (disch := omega) only [drawC, drawK, keepT, ↓lenV, binV, ↓loadV, ↓indexAddrV, GVal.cells, grp, GVal.ofConst, ↓resV, resG, List.map, List.headD, List.take, List.drop, ↓reduceIte, Nat.reduceEqDiff, Nat.reduceAdd, Nat.reduceSub, Nat.reduceLeDiff, reduceCtorEq, implies_true, ne_eq, aggV, Tag.cap, List.replicate, allSolid, GVal.solid, Nat.reduceBEq, Nat.reduceMul, Nat.reduceLT, List.length_map, List.length_range, splice, vcA, ↓vcB, vcC, fbFe, e60, hsG_len, d0, ea, eb, all_hsG, take32, len32, cellsEq_hs x y]
      refine ⟨by omega, by omega, by omega, fun c => ?_, fun c => ?_⟩
      · exact Into.at ⟨k + 1, by omega, by rw [takeH h', takeH (by omega), he, ex, ey, c]⟩ (by show _ < _; simp; omega) ⟨[], by simp⟩ (by simp [WL, leG_self, leG_any, leG_int])
      · rw [decide_eq_false fun e => c (by rw [← ex, ← ey, e])]
    · have d0 : ((k : Int) < (a.length : Int)) = False := eq_false (by omega)
      rw [List.take_of_length_le (by omega), List.take_of_length_le (by omega)] at he
      simp +contextual -implicitDefEqProofs (maxSteps := 2000000) (disch := omega) only [drawC, drawK, keepT, ↓lenV, binV, ↓loadV, ↓indexAddrV, GVal.cells, grp, GVal.ofConst, ↓resV, resG, List.map, List.headD, List.take, List.drop, ↓reduceIte, Nat.reduceEqDiff, Nat.reduceAdd, Nat.reduceSub, Nat.reduceLeDiff, reduceCtorEq, implies_true, ne_eq, aggV, Tag.cap, List.replicate, allSolid, GVal.solid, Nat.reduceBEq, Nat.reduceMul, Nat.reduceLT, List.length_map, List.length_range, splice, vcA, ↓vcB, vcC, fbFe, e60, hsG_len, d0, false_imp_iff, true_and]
      rw [decide_eq_true he]
theorem gEqual0 (a b : List Hs) (ta tb : Tag) (hl : a.length ≠ b.length) : GPure Try.prog 60 [.slice (hsG a) ta, .slice (hsG b) tb] (.bool false) := by
  have dl : ((a.length : Int) = (b.length : Int)) = False := eq_false (by omega)
  refine h60.pure mixS (by simp) ?_
  simp only [gstart, s60, List.cons_append, List.nil_append, List.length_cons, List.length_nil, Nat.reduceAdd, Nat.reduceSub, List.replicate_succ, List.replicate_zero]
  simp +contextual -implicitDefEqProofs (maxSteps := 2000000) (disch := omega) only [drawC, drawK, keepT, ↓lenV, binV, ↓loadV, ↓indexAddrV, GVal.cells, grp, GVal.ofConst, ↓resV, resG, List.map, List.headD, List.take, List.drop, ↓reduceIte, Nat.reduceEqDiff, Nat.reduceAdd, Nat.reduceSub, Nat.reduceLeDiff, reduceCtorEq, implies_true, ne_eq, aggV, Tag.cap, List.replicate, allSolid, GVal.solid, Nat.reduceBEq, Nat.reduceMul, Nat.reduceLT, List.length_map, List.length_range, splice, vcA, ↓vcB, vcC, fbFe, e60, hsG_len, dl, not_true_eq_false, not_false_eq_true, false_imp_iff, true_imp_iff, true_and, and_true]
theorem gEqual (a b : List Hs) (ta tb : Tag) (ha : a.length ≤ 4398046511104) : GPure Try.prog 60 [.slice (hsG a) ta, .slice (hsG b) tb] (.bool (decide (a = b))) := by
  by_cases hl : a.length = b.length
  · exact gEqual1 a b ta tb ha hl
  · rw [decide_eq_false (fun e => hl (by rw [e]))]
    exact gEqual0 a b ta tb hl
def twiceB (l : List Hs) : Bool := decide ((sortR l).length < l.length)
theorem gTwice (l : List Hs) (t : Tag) (hl : l.length ≤ 4398046511104) (ht : t = .nil → l = []) : GPure Try.prog 58 [.slice (hsG l) t] (.bool (twiceB l)) := by
  refine h58.pure mixS (by simp) ?_
  simp only [gstart, s58, List.cons_append, List.nil_append, List.length_cons, List.length_nil, Nat.reduceAdd, Nat.reduceSub, List.replicate_succ, List.replicate_zero]
  simp +contextual -implicitDefEqProofs (maxSteps := 2000000) (disch := omega) only [↓lenV, binV, GVal.cells, grp, GVal.ofConst, ↓resV, resG, List.map, List.headD, List.take, List.drop, ↓reduceIte, Nat.reduceEqDiff, Nat.reduceAdd, Nat.reduceSub, Nat.reduceLeDiff, reduceCtorEq, implies_true, ne_eq, Tag.cap, List.replicate, allSolid, GVal.solid, Nat.reduceBEq, Nat.reduceMul, Nat.reduceLT, List.length_map, List.length_range, splice, vcA, ↓vcB, vcC, fbFe, e58]
  refine (hSort l t hl ht).then ?_ (by rfl)
  simp +contextual -implicitDefEqProofs (maxSteps := 2000000) (disch := omega) only [↓lenV, binV, GVal.cells, grp, GVal.ofConst, ↓resV, resG, List.map, List.headD, List.take, List.drop, ↓reduceIte, Nat.reduceEqDiff, Nat.reduceAdd, Nat.reduceSub, Nat.reduceLeDiff, reduceCtorEq, implies_true, ne_eq, Tag.cap, List.replicate, allSolid, GVal.solid, Nat.reduceBEq, Nat.reduceMul, Nat.reduceLT, List.length_map, List.length_range, splice, vcA, ↓vcB, vcC, fbFe, e58, hsG_len]
  unfold twiceB
  by_cases h : (sortR l).length < l.length
  · rw [decide_eq_true h]; simp [h]
  · rw [decide_eq_false h]; simp [h]
def parsM (m : GM) (h : Hs) : List Hs := (look m h).getD []
theorem gPar1 (m : GM) (h : Hs) (st s i : Nat) (l : List Hs) (hl : l.length ≤ 4398046511104) (hi : idxM m h = some i) (hv : (kvG encL m)[i]? = some (.agg (bytesG h.1), encL l)) : GCalls Try.prog 18 [.ptr 0 st 0 0, .agg (bytesG h.1)] (gObj st s m) (fun g O' => g = .tuple [.slice (hsG l) .none, .bool true] ∧ O' = gObj st s m) := by
  refine h18.calls mixS (by simp) ?_
  simp only [gstart, s18, List.cons_append, List.nil_append, List.length_cons, List.length_nil, Nat.reduceAdd, Nat.reduceSub, List.replicate_succ, List.replicate_zero]
  simp +contextual -implicitDefEqProofs (maxSteps := 2000000) (disch := omega) only [drawC, drawK, keepT, optV, ↓loadV, ↓fieldAddrV, ↓boxV, ↓sliceV, ↓nilV, bound, cutTag, hiTag, GVal.cells, grp, GVal.ofConst, ↓resV, resG, List.map, List.headD, List.take, List.drop, ↓reduceIte, Nat.reduceEqDiff, Nat.reduceAdd, Nat.reduceSub, Nat.reduceLeDiff, reduceCtorEq, implies_true, ne_eq, ↓lookupV, keyOk, keyCells, pairG, Tag.cap, List.replicate, allSolid, GVal.solid, Nat.reduceBEq, Nat.reduceMul, Nat.reduceLT, List.length_map, List.length_range, splice, vcA, ↓vcB, vcC, fbFe, e18, kfind_h, hi, hv, len32, take32, solidH]
  refine (gCloneP l .none hl (by simp)).then ?_ (by rfl)
  simp +contextual -implicitDefEqProofs (maxSteps := 2000000) (disch := omega) only [drawC, drawK, keepT, optV, ↓loadV, ↓fieldAddrV, ↓boxV, ↓sliceV, ↓nilV, bound, cutTag, hiTag, GVal.cells, grp, GVal.ofConst, ↓resV, resG, List.map, List.headD, List.take, List.drop, ↓reduceIte, Nat.reduceEqDiff, Nat.reduceAdd, Nat.reduceSub, Nat.reduceLeDiff, reduceCtorEq, implies_true, ne_eq, ↓lookupV, keyOk, keyCells, pairG, Tag.cap, List.replicate, allSolid, GVal.solid, Nat.reduceBEq, Nat.reduceMul, Nat.reduceLT, List.length_map, List.length_range, splice, vcA, ↓vcB, vcC, fbFe, e18]
theorem gPar0 (m : GM) (h : Hs) (st s : Nat) (hi : idxM m h = none) : GCalls Try.prog 18 [.ptr 0 st 0 0, .agg (bytesG h.1)] (gObj st s m) (fun g O' => g = .tuple [.slice (hsG []) .none, .bool false] ∧ O' = gObj st s m) := by
  refine h18.calls mixS (by simp) ?_
  simp only [gstart, s18, List.cons_append, List.nil_append, List.length_cons, List.length_nil, Nat.reduceAdd, Nat.reduceSub, List.replicate_succ, List.replicate_zero]
  simp +contextual -implicitDefEqProofs (maxSteps := 2000000) (disch := omega) only [drawC, drawK, keepT, optV, ↓loadV, ↓fieldAddrV, ↓boxV, ↓sliceV, ↓nilV, bound, cutTag, hiTag, GVal.cells, grp, GVal.ofConst, ↓resV, resG, List.map, List.headD, List.take, List.drop, ↓reduceIte, Nat.reduceEqDiff, Nat.reduceAdd, Nat.reduceSub, Nat.reduceLeDiff, reduceCtorEq, implies_true, ne_eq, ↓lookupV, keyOk, keyCells, pairG, Tag.cap, List.replicate, allSolid, GVal.solid, Nat.reduceBEq, Nat.reduceMul, Nat.reduceLT, List.length_map, List.length_range, splice, vcA, ↓vcB, vcC, fbFe, e18, kfind_h, hi, len32, take32, solidH]
  refine (gCloneP [] .nil (by simp) (by simp)).then ?_ (by rfl)
  simp +contextual -implicitDefEqProofs (maxSteps := 2000000) (disch := omega) only [drawC, drawK, keepT, optV, ↓loadV, ↓fieldAddrV, ↓boxV, ↓sliceV, ↓nilV, bound, cutTag, hiTag, GVal.cells, grp, GVal.ofConst, ↓resV, resG, List.map, List.headD, List.take, List.drop, ↓reduceIte, Nat.reduceEqDiff, Nat.reduceAdd, Nat.reduceSub, Nat.reduceLeDiff, reduceCtorEq, implies_true, ne_eq, ↓lookupV, keyOk, keyCells, pairG, Tag.cap, List.replicate, allSolid, GVal.solid, Nat.reduceBEq, Nat.reduceMul, Nat.reduceLT, List.length_map, List.length_range, splice, vcA, ↓vcB, vcC, fbFe, e18]
theorem gParents (m : GM) (h : Hs) (st s : Nat) (hl : (parsM m h).length ≤ 4398046511104) : GCalls Try.prog 18 [.ptr 0 st 0 0, .agg (bytesG h.1)] (gObj st s m) (fun g O' => g = .tuple [.slice (hsG (parsM m h)) .none, .bool (look m h).isSome] ∧ O' = gObj st s m) := by
  cases e : look m h with
  | some l =>
    obtain ⟨i, hi, hv, _⟩ := look_idx encL m h l e
    have := gPar1 m h st s i l (by simpa [parsM, e] using hl) hi hv
    simpa [parsM, e] using this
  | none =>
    have := gPar0 m h st s (look_none encL m h e).1
    simpa [parsM, e] using this
end Gv.Try
/- Contracts: graph's sizes: what a request may not be, whatever the graph. -/
set_option linter.unusedVariables false
set_option linter.unusedSimpArgs false
set_option maxRecDepth 20000
set_option maxHeartbeats 4000000
namespace Gv.Try
open Go Gv Go.Proofs
abbrev Cm := Hs × List Hs
def comG (c : Cm) : List GVal := bytesG c.1.1 ++ [.slice (hsG c.2) .none]
def csG (l : List Cm) : List (List GVal) := l.map comG
instance : Inhabited Cm := ⟨(h0, [])⟩
theorem csG_len (l : List Cm) : (csG l).length = l.length := by simp [csG]
theorem csG_at (l : List Cm) (i : Nat) (h : i < l.length) : (csG l).getD i [] = comG (l.getD i default) := by simp [csG, List.getD, h]
theorem comG_len (c : Cm) : (comG c).length = 33 := len33 _ _
theorem all_csG (l : List Cm) : (∀ x ∈ csG l, x.length = 33) = True := eq_true fun x hx => by obtain ⟨s, _, rfl⟩ := List.mem_map.1 hx; exact comG_len s
theorem csG_app (a b : List Cm) : csG (a ++ b) = csG a ++ csG b := by simp [csG]
theorem csG_one (c : Cm) : csG [c] = [comG c] := rfl
theorem dropC {l : List Cm} {k : Nat} (h : k < l.length) : l.drop k = l.getD k default :: l.drop (k + 1) := by
  rw [List.drop_eq_getElem_cons h]; simp [List.getD, h]
theorem memC {l : List Cm} {k : Nat} (h : k < l.length) : l.getD k default ∈ l := by
  rw [List.getD_eq_getElem?_getD, List.getElem?_eq_getElem h]; exact List.getElem_mem h
abbrev Er := Option (Option Hs × Int)
def errV : Er → GVal
  | none => .lit .nilIface
  | some (none, n) => errG n
  | some (some h, n) => whichG h n
abbrev reqG (cs : List Cm) (hs : List Hs) (th : Tag) (gr : Int) : List GVal := [.slice (csG cs) .none, .slice (hsG hs) th, .int .i64 gr]
def sizeE (c : Cm) : Er := if 4 < c.2.length then some (some c.1, 8) else if twiceB c.2 = true then some (some c.1, 1) else none
def badReq (gr : Int) (nc nh : Nat) : Prop := (gr ≠ 1 ∧ gr ≠ 2) ∨ 200 < nc ∨ 200 < nh
instance (gr : Int) (nc nh : Nat) : Decidable (badReq gr nc nh) := by unfold badReq; infer_instance
def sizesP (gr : Int) (nh : Nat) (cs : List Cm) : Er := if badReq gr cs.length nh then some (none, 1) else cs.findSome? sizeE
theorem gSizes1 (cs : List Cm) (hs : List Hs) (th : Tag) (gr : Int) (hc : cs.length ≤ 1000000) (hh : hs.length ≤ 1000000) (hp : ∀ c ∈ cs, c.2.length ≤ 1000000) (d1 : (gr = 1) = True) : GPure Try.prog 40 [.agg (reqG cs hs th gr)] (errV (sizesP gr hs.length cs)) := by
  have fin : badReq gr cs.length hs.length → errV (sizesP gr hs.length cs) = errG 1 := fun h => by rw [sizesP, if_pos h]; rfl
  have stop : badReq gr cs.length hs.length → GPure Try.prog 40 [.agg (reqG cs hs th gr)] (errG 1) → GPure Try.prog 40 [.agg (reqG cs hs th gr)] (errV (sizesP gr hs.length cs)) := fun h k => by rw [fin h]; exact k
  have hgr : gr = 1 ∨ gr = 2 := by simp only [eq_iff_iff, iff_true, iff_false] at *; omega
  by_cases h2 : 200 < cs.length
  · refine stop (.inr (.inl h2)) ?_
    have d2 : ((200 : Int) < (cs.length : Int)) = True := eq_true (by omega)
    clear h2 stop fin hgr
    refine h40.pure mixS (by simp) ?_
    simp only [gstart, s40, List.cons_append, List.nil_append, List.length_cons, List.length_nil, Nat.reduceAdd, Nat.reduceSub, List.replicate_succ, List.replicate_zero]
    simp +contextual -implicitDefEqProofs (maxSteps := 2000000) (disch := omega) only [↓lenV, binV, ↓loadV, ↓storeV, ↓fieldAddrV, ↓indexAddrV, ↓allocV, ↓boxV, ↓ifaceV, GVal.cells, grp, GVal.ofConst, ↓resV, resG, List.map, List.headD, List.take, List.drop, ↓reduceIte, Nat.reduceEqDiff, Nat.reduceAdd, Nat.reduceSub, Nat.reduceLeDiff, reduceCtorEq, implies_true, ne_eq, aggV, Tag.cap, List.replicate, allSolid, GVal.solid, Nat.reduceBEq, Nat.reduceMul, Nat.reduceLT, List.length_map, List.length_range, splice, vcA, ↓vcB, vcC, fbFe, e40, csG_len, hsG_len, d1, d2, not_true_eq_false, not_false_eq_true, false_imp_iff, true_imp_iff, and_true, true_and]
    exact leA_refl _
  · have d2 : ((200 : Int) < (cs.length : Int)) = False := eq_false (by omega)
    by_cases h3 : 200 < hs.length
    · refine stop (.inr (.inr h3)) ?_
      have d3 : ((200 : Int) < (hs.length : Int)) = True := eq_true (by omega)
      clear h2 h3 stop fin hgr
      refine h40.pure mixS (by simp) ?_
      simp only [gstart, s40, List.cons_append, List.nil_append, List.length_cons, List.length_nil, Nat.reduceAdd, Nat.reduceSub, List.replicate_succ, List.replicate_zero]
      simp +contextual -implicitDefEqProofs (maxSteps := 2000000) (disch := omega) only [↓lenV, binV, ↓loadV, ↓storeV, ↓fieldAddrV, ↓indexAddrV, ↓allocV, ↓boxV, ↓ifaceV, GVal.cells, grp, GVal.ofConst, ↓resV, resG, List.map, List.headD, List.take, List.drop, ↓reduceIte, Nat.reduceEqDiff, Nat.reduceAdd, Nat.reduceSub, Nat.reduceLeDiff, reduceCtorEq, implies_true, ne_eq, aggV, Tag.cap, List.replicate, allSolid, GVal.solid, Nat.reduceBEq, Nat.reduceMul, Nat.reduceLT, List.length_map, List.length_range, splice, vcA, ↓vcB, vcC, fbFe, e40, csG_len, hsG_len, d1, d2, d3, not_true_eq_false, not_false_eq_true, false_imp_iff, true_imp_iff, and_true, true_and]
      exact leA_refl _
    · have d3 : ((200 : Int) < (hs.length : Int)) = False := eq_false (by omega)
      have he : errV (sizesP gr hs.length cs) = errV (cs.findSome? sizeE) := by
        rw [sizesP, if_neg]
        rintro (q | q | q)
        · omega
        · exact h2 q
        · exact h3 q
      rw [he]
      clear h2 h3 stop fin he hgr
      refine h40.pure mixS (by simp) ?_
      simp only [gstart, s40, List.cons_append, List.nil_append, List.length_cons, List.length_nil, Nat.reduceAdd, Nat.reduceSub, List.replicate_succ, List.replicate_zero]
      simp +contextual -implicitDefEqProofs (maxSteps := 2000000) (disch := omega) only [↓lenV, binV, ↓loadV, ↓storeV, ↓fieldAddrV, ↓indexAddrV, ↓allocV, ↓boxV, ↓ifaceV, GVal.cells, grp, GVal.ofConst, ↓resV, resG, List.map, List.headD, List.take, List.drop, ↓reduceIte, Nat.reduceEqDiff, Nat.reduceAdd, Nat.reduceSub, Nat.reduceLeDiff, reduceCtorEq, implies_true, ne_eq, aggV, Tag.cap, List.replicate, allSolid, GVal.solid, Nat.reduceBEq, Nat.reduceMul, Nat.reduceLT, List.length_map, List.length_range, splice, vcA, ↓vcB, vcC, fbFe, e40, csG_len, hsG_len, d1, d2, d3, not_true_eq_false, not_false_eq_true, false_imp_iff, true_imp_iff, and_true, true_and]
      refine vcSLoop_by (ι := { k : Nat // k ≤ cs.length ∧ cs.findSome? sizeE = (cs.drop k).findSome? sizeE }) (fun k => ⟨[.any, .ref (reqG cs hs th gr)] ++ List.replicate 25 .any ++ [.slice (csG cs) .none, .int .i64 cs.length, .int .i64 (k.1 : Nat)] ++ List.replicate 21 .any, []⟩) (fun k => cs.length - k.1) ?_ ?_
      · exact Into.first ⟨0, by omega, by simp⟩ ⟨[], by simp⟩ (by simp [WL, leG_self, leG_any, leG_int])
      · rintro ⟨k, hk, hf⟩
        by_cases h : k < cs.length
        · have d0 : ((k : Int) < (cs.length : Int)) = True := eq_true (by omega)
          have eS := csG_at cs k h
          have hx := hp _ (memC h)
          rw [dropC h, List.findSome?_cons] at hf
          generalize cs.getD k default = x at *
          obtain ⟨xh, xp⟩ := x
          by_cases c4 : 4 < xp.length
          · have d4 : ((4 : Int) < (xp.length : Int)) = True := eq_true (by omega)
            have e1 : sizeE (xh, xp) = some (some xh, 8) := by rw [sizeE, if_pos c4]
            rw [e1] at hf
            simp +contextual -implicitDefEqProofs (maxSteps := 2000000) (disch := omega) only [↓lenV, binV, ↓loadV, ↓storeV, ↓fieldAddrV, ↓indexAddrV, ↓allocV, ↓boxV, ↓ifaceV, GVal.cells, grp, GVal.ofConst, ↓resV, resG, List.map, List.headD, List.take, List.drop, ↓reduceIte, Nat.reduceEqDiff, Nat.reduceAdd, Nat.reduceSub, Nat.reduceLeDiff, reduceCtorEq, implies_true, ne_eq, aggV, Tag.cap, List.replicate, allSolid, GVal.solid, Nat.reduceBEq, Nat.reduceMul, Nat.reduceLT, List.length_map, List.length_range, splice, vcA, ↓vcB, vcC, fbFe, e40, csG_len, hsG_len, comG, take32a, drop32a, drop33a, take33a, len33, solid33, solidH, len32, take32, d0, eS, d4]
            refine ⟨by omega, fun u => ?_⟩
            refine (gOf xh 8).then ?_ (by rfl)
            simp +contextual -implicitDefEqProofs (maxSteps := 2000000) (disch := omega) only [↓lenV, binV, ↓loadV, ↓storeV, ↓fieldAddrV, ↓indexAddrV, ↓allocV, ↓boxV, ↓ifaceV, GVal.cells, grp, GVal.ofConst, ↓resV, resG, List.map, List.headD, List.take, List.drop, ↓reduceIte, Nat.reduceEqDiff, Nat.reduceAdd, Nat.reduceSub, Nat.reduceLeDiff, reduceCtorEq, implies_true, ne_eq, aggV, Tag.cap, List.replicate, allSolid, GVal.solid, Nat.reduceBEq, Nat.reduceMul, Nat.reduceLT, List.length_map, List.length_range, splice, vcA, ↓vcB, vcC, fbFe, e40, csG_len, hsG_len, comG, take32a, drop32a, drop33a, take33a, len33, solid33, solidH, len32, take32]
            rw [hf]
            exact leA_refl _
          · have d4 : ((4 : Int) < (xp.length : Int)) = False := eq_false (by omega)
            have cT := gTwice xp .none (by omega) (by simp)
            cases et : twiceB xp with
            | true =>
              have e1 : sizeE (xh, xp) = some (some xh, 1) := by rw [sizeE, if_neg c4, if_pos et]
              rw [e1] at hf
              rw [et] at cT
              simp +contextual -implicitDefEqProofs (maxSteps := 2000000) (disch := omega) only [↓lenV, binV, ↓loadV, ↓storeV, ↓fieldAddrV, ↓indexAddrV, ↓allocV, ↓boxV, ↓ifaceV, GVal.cells, grp, GVal.ofConst, ↓resV, resG, List.map, List.headD, List.take, List.drop, ↓reduceIte, Nat.reduceEqDiff, Nat.reduceAdd, Nat.reduceSub, Nat.reduceLeDiff, reduceCtorEq, implies_true, ne_eq, aggV, Tag.cap, List.replicate, allSolid, GVal.solid, Nat.reduceBEq, Nat.reduceMul, Nat.reduceLT, List.length_map, List.length_range, splice, vcA, ↓vcB, vcC, fbFe, e40, csG_len, hsG_len, comG, take32a, drop32a, drop33a, take33a, len33, solid33, solidH, len32, take32, d0, eS, d4]
              refine ⟨by omega, fun u => ?_⟩
              refine cT.then ?_ (by rfl)
              simp +contextual -implicitDefEqProofs (maxSteps := 2000000) (disch := omega) only [↓lenV, binV, ↓loadV, ↓storeV, ↓fieldAddrV, ↓indexAddrV, ↓allocV, ↓boxV, ↓ifaceV, GVal.cells, grp, GVal.ofConst, ↓resV, resG, List.map, List.headD, List.take, List.drop, ↓reduceIte, Nat.reduceEqDiff, Nat.reduceAdd, Nat.reduceSub, Nat.reduceLeDiff, reduceCtorEq, implies_true, ne_eq, aggV, Tag.cap, List.replicate, allSolid, GVal.solid, Nat.reduceBEq, Nat.reduceMul, Nat.reduceLT, List.length_map, List.length_range, splice, vcA, ↓vcB, vcC, fbFe, e40, csG_len, hsG_len, comG, take32a, drop32a, drop33a, take33a, len33, solid33, solidH, len32, take32]
              refine (gOf xh 1).then ?_ (by rfl)
              simp +contextual -implicitDefEqProofs (maxSteps := 2000000) (disch := omega) only [↓lenV, binV, ↓loadV, ↓storeV, ↓fieldAddrV, ↓indexAddrV, ↓allocV, ↓boxV, ↓ifaceV, GVal.cells, grp, GVal.ofConst, ↓resV, resG, List.map, List.headD, List.take, List.drop, ↓reduceIte, Nat.reduceEqDiff, Nat.reduceAdd, Nat.reduceSub, Nat.reduceLeDiff, reduceCtorEq, implies_true, ne_eq, aggV, Tag.cap, List.replicate, allSolid, GVal.solid, Nat.reduceBEq, Nat.reduceMul, Nat.reduceLT, List.length_map, List.length_range, splice, vcA, ↓vcB, vcC, fbFe, e40, csG_len, hsG_len, comG, take32a, drop32a, drop33a, take33a, len33, solid33, solidH, len32, take32]
              rw [hf]
              exact leA_refl _
            | false =>
              have e1 : sizeE (xh, xp) = none := by rw [sizeE, if_neg c4, if_neg (by rw [et]; simp)]
              rw [e1] at hf
              rw [et] at cT
              simp +contextual -implicitDefEqProofs (maxSteps := 2000000) (disch := omega) only [↓lenV, binV, ↓loadV, ↓storeV, ↓fieldAddrV, ↓indexAddrV, ↓allocV, ↓boxV, ↓ifaceV, GVal.cells, grp, GVal.ofConst, ↓resV, resG, List.map, List.headD, List.take, List.drop, ↓reduceIte, Nat.reduceEqDiff, Nat.reduceAdd, Nat.reduceSub, Nat.reduceLeDiff, reduceCtorEq, implies_true, ne_eq, aggV, Tag.cap, List.replicate, allSolid, GVal.solid, Nat.reduceBEq, Nat.reduceMul, Nat.reduceLT, List.length_map, List.length_range, splice, vcA, ↓vcB, vcC, fbFe, e40, csG_len, hsG_len, comG, take32a, drop32a, drop33a, take33a, len33, solid33, solidH, len32, take32, d0, eS, d4]
              refine ⟨by omega, fun u => ?_⟩
              refine cT.then ?_ (by rfl)
              simp +contextual -implicitDefEqProofs (maxSteps := 2000000) (disch := omega) only [↓lenV, binV, ↓loadV, ↓storeV, ↓fieldAddrV, ↓indexAddrV, ↓allocV, ↓boxV, ↓ifaceV, GVal.cells, grp, GVal.ofConst, ↓resV, resG, List.map, List.headD, List.take, List.drop, ↓reduceIte, Nat.reduceEqDiff, Nat.reduceAdd, Nat.reduceSub, Nat.reduceLeDiff, reduceCtorEq, implies_true, ne_eq, aggV, Tag.cap, List.replicate, allSolid, GVal.solid, Nat.reduceBEq, Nat.reduceMul, Nat.reduceLT, List.length_map, List.length_range, splice, vcA, ↓vcB, vcC, fbFe, e40, csG_len, hsG_len, comG, take32a, drop32a, drop33a, take33a, len33, solid33, solidH, len32, take32]
              exact Into.at ⟨k + 1, by omega, hf⟩ (by show _ < _; simp; omega) ⟨_, rfl⟩ (by simp [WL, leG_self, leG_any, leG_int])
        · have d0 : ((k : Int) < (cs.length : Int)) = False := eq_false (by omega)
          rw [List.drop_of_length_le (by omega)] at hf
          simp +contextual -implicitDefEqProofs (maxSteps := 2000000) (disch := omega) only [↓lenV, binV, ↓loadV, ↓storeV, ↓fieldAddrV, ↓indexAddrV, ↓allocV, ↓boxV, ↓ifaceV, GVal.cells, grp, GVal.ofConst, ↓resV, resG, List.map, List.headD, List.take, List.drop, ↓reduceIte, Nat.reduceEqDiff, Nat.reduceAdd, Nat.reduceSub, Nat.reduceLeDiff, reduceCtorEq, implies_true, ne_eq, aggV, Tag.cap, List.replicate, allSolid, GVal.solid, Nat.reduceBEq, Nat.reduceMul, Nat.reduceLT, List.length_map, List.length_range, splice, vcA, ↓vcB, vcC, fbFe, e40, csG_len, hsG_len, comG, take32a, drop32a, drop33a, take33a, len33, solid33, solidH, len32, take32, d0]
          rw [hf]
          exact leA_refl _
theorem gSizes2 (cs : List Cm) (hs : List Hs) (th : Tag) (gr : Int) (hc : cs.length ≤ 1000000) (hh : hs.length ≤ 1000000) (hp : ∀ c ∈ cs, c.2.length ≤ 1000000) (d1 : (gr = 1) = False) (dd : (gr = 2) = True) : GPure Try.prog 40 [.agg (reqG cs hs th gr)] (errV (sizesP gr hs.length cs)) := by
  have fin : badReq gr cs.length hs.length → errV (sizesP gr hs.length cs) = errG 1 := fun h => by rw [sizesP, if_pos h]; rfl
  have stop : badReq gr cs.length hs.length → GPure Try.prog 40 [.agg (reqG cs hs th gr)] (errG 1) → GPure Try.prog 40 [.agg (reqG cs hs th gr)] (errV (sizesP gr hs.length cs)) := fun h k => by rw [fin h]; exact k
  have hgr : gr = 1 ∨ gr = 2 := by simp only [eq_iff_iff, iff_true, iff_false] at *; omega
  by_cases h2 : 200 < cs.length
  · refine stop (.inr (.inl h2)) ?_
    have d2 : ((200 : Int) < (cs.length : Int)) = True := eq_true (by omega)
    clear h2 stop fin hgr
    refine h40.pure mixS (by simp) ?_
    simp only [gstart, s40, List.cons_append, List.nil_append, List.length_cons, List.length_nil, Nat.reduceAdd, Nat.reduceSub, List.replicate_succ, List.replicate_zero]
    simp +contextual -implicitDefEqProofs (maxSteps := 2000000) (disch := omega) only [↓lenV, binV, ↓loadV, ↓storeV, ↓fieldAddrV, ↓indexAddrV, ↓allocV, ↓boxV, ↓ifaceV, GVal.cells, grp, GVal.ofConst, ↓resV, resG, List.map, List.headD, List.take, List.drop, ↓reduceIte, Nat.reduceEqDiff, Nat.reduceAdd, Nat.reduceSub, Nat.reduceLeDiff, reduceCtorEq, implies_true, ne_eq, aggV, Tag.cap, List.replicate, allSolid, GVal.solid, Nat.reduceBEq, Nat.reduceMul, Nat.reduceLT, List.length_map, List.length_range, splice, vcA, ↓vcB, vcC, fbFe, e40, csG_len, hsG_len, d1, dd, d2, not_true_eq_false, not_false_eq_true, false_imp_iff, true_imp_iff, and_true, true_and]
    exact leA_refl _
  · have d2 : ((200 : Int) < (cs.length : Int)) = False := eq_false (by omega)
    by_cases h3 : 200 < hs.length
    · refine stop (.inr (.inr h3)) ?_
      have d3 : ((200 : Int) < (hs.length : Int)) = True := eq_true (by omega)
      clear h2 h3 stop fin hgr
      refine h40.pure mixS (by simp) ?_
      simp only [gstart, s40, List.cons_append, List.nil_append, List.length_cons, List.length_nil, Nat.reduceAdd, Nat.reduceSub, List.replicate_succ, List.replicate_zero]
      simp +contextual -implicitDefEqProofs (maxSteps := 2000000) (disch := omega) only [↓lenV, binV, ↓loadV, ↓storeV, ↓fieldAddrV, ↓indexAddrV, ↓allocV, ↓boxV, ↓ifaceV, GVal.cells, grp, GVal.ofConst, ↓resV, resG, List.map, List.headD, List.take, List.drop, ↓reduceIte, Nat.reduceEqDiff, Nat.reduceAdd, Nat.reduceSub, Nat.reduceLeDiff, reduceCtorEq, implies_true, ne_eq, aggV, Tag.cap, List.replicate, allSolid, GVal.solid, Nat.reduceBEq, Nat.reduceMul, Nat.reduceLT, List.length_map, List.length_range, splice, vcA, ↓vcB, vcC, fbFe, e40, csG_len, hsG_len, d1, dd, d2, d3, not_true_eq_false, not_false_eq_true, false_imp_iff, true_imp_iff, and_true, true_and]
      exact leA_refl _
    · have d3 : ((200 : Int) < (hs.length : Int)) = False := eq_false (by omega)
      have he : errV (sizesP gr hs.length cs) = errV (cs.findSome? sizeE) := by
        rw [sizesP, if_neg]
        rintro (q | q | q)
        · omega
        · exact h2 q
        · exact h3 q
      rw [he]
      clear h2 h3 stop fin he hgr
      refine h40.pure mixS (by simp) ?_
      simp only [gstart, s40, List.cons_append, List.nil_append, List.length_cons, List.length_nil, Nat.reduceAdd, Nat.reduceSub, List.replicate_succ, List.replicate_zero]
      simp +contextual -implicitDefEqProofs (maxSteps := 2000000) (disch := omega) only [↓lenV, binV, ↓loadV, ↓storeV, ↓fieldAddrV, ↓indexAddrV, ↓allocV, ↓boxV, ↓ifaceV, GVal.cells, grp, GVal.ofConst, ↓resV, resG, List.map, List.headD, List.take, List.drop, ↓reduceIte, Nat.reduceEqDiff, Nat.reduceAdd, Nat.reduceSub, Nat.reduceLeDiff, reduceCtorEq, implies_true, ne_eq, aggV, Tag.cap, List.replicate, allSolid, GVal.solid, Nat.reduceBEq, Nat.reduceMul, Nat.reduceLT, List.length_map, List.length_range, splice, vcA, ↓vcB, vcC, fbFe, e40, csG_len, hsG_len, d1, dd, d2, d3, not_true_eq_false, not_false_eq_true, false_imp_iff, true_imp_iff, and_true, true_and]
      refine vcSLoop_by (ι := { k : Nat // k ≤ cs.length ∧ cs.findSome? sizeE = (cs.drop k).findSome? sizeE }) (fun k => ⟨[.any, .ref (reqG cs hs th gr)] ++ List.replicate 25 .any ++ [.slice (csG cs) .none, .int .i64 cs.length, .int .i64 (k.1 : Nat)] ++ List.replicate 21 .any, []⟩) (fun k => cs.length - k.1) ?_ ?_
      · exact Into.first ⟨0, by omega, by simp⟩ ⟨[], by simp⟩ (by simp [WL, leG_self, leG_any, leG_int])
      · rintro ⟨k, hk, hf⟩
        by_cases h : k < cs.length
        · have d0 : ((k : Int) < (cs.length : Int)) = True := eq_true (by omega)
          have eS := csG_at cs k h
          have hx := hp _ (memC h)
          rw [dropC h, List.findSome?_cons] at hf
          generalize cs.getD k default = x at *
          obtain ⟨xh, xp⟩ := x
          by_cases c4 : 4 < xp.length
          · have d4 : ((4 : Int) < (xp.length : Int)) = True := eq_true (by omega)
            have e1 : sizeE (xh, xp) = some (some xh, 8) := by rw [sizeE, if_pos c4]
            rw [e1] at hf
            simp +contextual -implicitDefEqProofs (maxSteps := 2000000) (disch := omega) only [↓lenV, binV, ↓loadV, ↓storeV, ↓fieldAddrV, ↓indexAddrV, ↓allocV, ↓boxV, ↓ifaceV, GVal.cells, grp, GVal.ofConst, ↓resV, resG, List.map, List.headD, List.take, List.drop, ↓reduceIte, Nat.reduceEqDiff, Nat.reduceAdd, Nat.reduceSub, Nat.reduceLeDiff, reduceCtorEq, implies_true, ne_eq, aggV, Tag.cap, List.replicate, allSolid, GVal.solid, Nat.reduceBEq, Nat.reduceMul, Nat.reduceLT, List.length_map, List.length_range, splice, vcA, ↓vcB, vcC, fbFe, e40, csG_len, hsG_len, comG, take32a, drop32a, drop33a, take33a, len33, solid33, solidH, len32, take32, d0, eS, d4]
            refine ⟨by omega, fun u => ?_⟩
            refine (gOf xh 8).then ?_ (by rfl)
            simp +contextual -implicitDefEqProofs (maxSteps := 2000000) (disch := omega) only [↓lenV, binV, ↓loadV, ↓storeV, ↓fieldAddrV, ↓indexAddrV, ↓allocV, ↓boxV, ↓ifaceV, GVal.cells, grp, GVal.ofConst, ↓resV, resG, List.map, List.headD, List.take, List.drop, ↓reduceIte, Nat.reduceEqDiff, Nat.reduceAdd, Nat.reduceSub, Nat.reduceLeDiff, reduceCtorEq, implies_true, ne_eq, aggV, Tag.cap, List.replicate, allSolid, GVal.solid, Nat.reduceBEq, Nat.reduceMul, Nat.reduceLT, List.length_map, List.length_range, splice, vcA, ↓vcB, vcC, fbFe, e40, csG_len, hsG_len, comG, take32a, drop32a, drop33a, take33a, len33, solid33, solidH, len32, take32]
            rw [hf]
            exact leA_refl _
          · have d4 : ((4 : Int) < (xp.length : Int)) = False := eq_false (by omega)
            have cT := gTwice xp .none (by omega) (by simp)
            cases et : twiceB xp with
            | true =>
              have e1 : sizeE (xh, xp) = some (some xh, 1) := by rw [sizeE, if_neg c4, if_pos et]
              rw [e1] at hf
              rw [et] at cT
              simp +contextual -implicitDefEqProofs (maxSteps := 2000000) (disch := omega) only [↓lenV, binV, ↓loadV, ↓storeV, ↓fieldAddrV, ↓indexAddrV, ↓allocV, ↓boxV, ↓ifaceV, GVal.cells, grp, GVal.ofConst, ↓resV, resG, List.map, List.headD, List.take, List.drop, ↓reduceIte, Nat.reduceEqDiff, Nat.reduceAdd, Nat.reduceSub, Nat.reduceLeDiff, reduceCtorEq, implies_true, ne_eq, aggV, Tag.cap, List.replicate, allSolid, GVal.solid, Nat.reduceBEq, Nat.reduceMul, Nat.reduceLT, List.length_map, List.length_range, splice, vcA, ↓vcB, vcC, fbFe, e40, csG_len, hsG_len, comG, take32a, drop32a, drop33a, take33a, len33, solid33, solidH, len32, take32, d0, eS, d4]
              refine ⟨by omega, fun u => ?_⟩
              refine cT.then ?_ (by rfl)
              simp +contextual -implicitDefEqProofs (maxSteps := 2000000) (disch := omega) only [↓lenV, binV, ↓loadV, ↓storeV, ↓fieldAddrV, ↓indexAddrV, ↓allocV, ↓boxV, ↓ifaceV, GVal.cells, grp, GVal.ofConst, ↓resV, resG, List.map, List.headD, List.take, List.drop, ↓reduceIte, Nat.reduceEqDiff, Nat.reduceAdd, Nat.reduceSub, Nat.reduceLeDiff, reduceCtorEq, implies_true, ne_eq, aggV, Tag.cap, List.replicate, allSolid, GVal.solid, Nat.reduceBEq, Nat.reduceMul, Nat.reduceLT, List.length_map, List.length_range, splice, vcA, ↓vcB, vcC, fbFe, e40, csG_len, hsG_len, comG, take32a, drop32a, drop33a, take33a, len33, solid33, solidH, len32, take32]
              refine (gOf xh 1).then ?_ (by rfl)
              simp +contextual -implicitDefEqProofs (maxSteps := 2000000) (disch := omega) only [↓lenV, binV, ↓loadV, ↓storeV, ↓fieldAddrV, ↓indexAddrV, ↓allocV, ↓boxV, ↓ifaceV, GVal.cells, grp, GVal.ofConst, ↓resV, resG, List.map, List.headD, List.take, List.drop, ↓reduceIte, Nat.reduceEqDiff, Nat.reduceAdd, Nat.reduceSub, Nat.reduceLeDiff, reduceCtorEq, implies_true, ne_eq, aggV, Tag.cap, List.replicate, allSolid, GVal.solid, Nat.reduceBEq, Nat.reduceMul, Nat.reduceLT, List.length_map, List.length_range, splice, vcA, ↓vcB, vcC, fbFe, e40, csG_len, hsG_len, comG, take32a, drop32a, drop33a, take33a, len33, solid33, solidH, len32, take32]
              rw [hf]
              exact leA_refl _
            | false =>
              have e1 : sizeE (xh, xp) = none := by rw [sizeE, if_neg c4, if_neg (by rw [et]; simp)]
              rw [e1] at hf
              rw [et] at cT
              simp +contextual -implicitDefEqProofs (maxSteps := 2000000) (disch := omega) only [↓lenV, binV, ↓loadV, ↓storeV, ↓fieldAddrV, ↓indexAddrV, ↓allocV, ↓boxV, ↓ifaceV, GVal.cells, grp, GVal.ofConst, ↓resV, resG, List.map, List.headD, List.take, List.drop, ↓reduceIte, Nat.reduceEqDiff, Nat.reduceAdd, Nat.reduceSub, Nat.reduceLeDiff, reduceCtorEq, implies_true, ne_eq, aggV, Tag.cap, List.replicate, allSolid, GVal.solid, Nat.reduceBEq, Nat.reduceMul, Nat.reduceLT, List.length_map, List.length_range, splice, vcA, ↓vcB, vcC, fbFe, e40, csG_len, hsG_len, comG, take32a, drop32a, drop33a, take33a, len33, solid33, solidH, len32, take32, d0, eS, d4]
              refine ⟨by omega, fun u => ?_⟩
              refine cT.then ?_ (by rfl)
              simp +contextual -implicitDefEqProofs (maxSteps := 2000000) (disch := omega) only [↓lenV, binV, ↓loadV, ↓storeV, ↓fieldAddrV, ↓indexAddrV, ↓allocV, ↓boxV, ↓ifaceV, GVal.cells, grp, GVal.ofConst, ↓resV, resG, List.map, List.headD, List.take, List.drop, ↓reduceIte, Nat.reduceEqDiff, Nat.reduceAdd, Nat.reduceSub, Nat.reduceLeDiff, reduceCtorEq, implies_true, ne_eq, aggV, Tag.cap, List.replicate, allSolid, GVal.solid, Nat.reduceBEq, Nat.reduceMul, Nat.reduceLT, List.length_map, List.length_range, splice, vcA, ↓vcB, vcC, fbFe, e40, csG_len, hsG_len, comG, take32a, drop32a, drop33a, take33a, len33, solid33, solidH, len32, take32]
              exact Into.at ⟨k + 1, by omega, hf⟩ (by show _ < _; simp; omega) ⟨_, rfl⟩ (by simp [WL, leG_self, leG_any, leG_int])
        · have d0 : ((k : Int) < (cs.length : Int)) = False := eq_false (by omega)
          rw [List.drop_of_length_le (by omega)] at hf
          simp +contextual -implicitDefEqProofs (maxSteps := 2000000) (disch := omega) only [↓lenV, binV, ↓loadV, ↓storeV, ↓fieldAddrV, ↓indexAddrV, ↓allocV, ↓boxV, ↓ifaceV, GVal.cells, grp, GVal.ofConst, ↓resV, resG, List.map, List.headD, List.take, List.drop, ↓reduceIte, Nat.reduceEqDiff, Nat.reduceAdd, Nat.reduceSub, Nat.reduceLeDiff, reduceCtorEq, implies_true, ne_eq, aggV, Tag.cap, List.replicate, allSolid, GVal.solid, Nat.reduceBEq, Nat.reduceMul, Nat.reduceLT, List.length_map, List.length_range, splice, vcA, ↓vcB, vcC, fbFe, e40, csG_len, hsG_len, comG, take32a, drop32a, drop33a, take33a, len33, solid33, solidH, len32, take32, d0]
          rw [hf]
          exact leA_refl _
theorem gSizes (cs : List Cm) (hs : List Hs) (th : Tag) (gr : Int) (hc : cs.length ≤ 1000000) (hh : hs.length ≤ 1000000) (hp : ∀ c ∈ cs, c.2.length ≤ 1000000) : GPure Try.prog 40 [.agg (reqG cs hs th gr)] (errV (sizesP gr hs.length cs)) := by
  by_cases h1 : gr = 1
  · exact gSizes1 cs hs th gr hc hh hp (eq_true h1)
  · by_cases h2 : gr = 2
    · exact gSizes2 cs hs th gr hc hh hp (eq_false h1) (eq_true h2)
    · have fin : errV (sizesP gr hs.length cs) = errG 1 := by rw [sizesP, if_pos (.inl ⟨h1, h2⟩)]; rfl
      rw [fin]
      have d1 : (gr = 1) = False := eq_false h1
      have dd : (gr = 2) = False := eq_false h2
      refine h40.pure mixS (by simp) ?_
      simp only [gstart, s40, List.cons_append, List.nil_append, List.length_cons, List.length_nil, Nat.reduceAdd, Nat.reduceSub, List.replicate_succ, List.replicate_zero]
      simp +contextual -implicitDefEqProofs (maxSteps := 2000000) (disch := omega) only [↓lenV, binV, ↓loadV, ↓storeV, ↓fieldAddrV, ↓indexAddrV, ↓allocV, ↓boxV, ↓ifaceV, GVal.cells, grp, GVal.ofConst, ↓resV, resG, List.map, List.headD, List.take, List.drop, ↓reduceIte, Nat.reduceEqDiff, Nat.reduceAdd, Nat.reduceSub, Nat.reduceLeDiff, reduceCtorEq, implies_true, ne_eq, aggV, Tag.cap, List.replicate, allSolid, GVal.solid, Nat.reduceBEq, Nat.reduceMul, Nat.reduceLT, List.length_map, List.length_range, splice, vcA, ↓vcB, vcC, fbFe, e40, csG_len, hsG_len, d1, dd, not_true_eq_false, not_false_eq_true, false_imp_iff, true_imp_iff, and_true, true_and]
      exact leA_refl _
end Gv.Try
/- Contracts: graph's joined, lacking. -/
set_option linter.unusedVariables false
set_option linter.unusedSimpArgs false
set_option maxRecDepth 20000
set_option maxHeartbeats 4000000
namespace Gv.Try
open Go Gv Go.Proofs
def joinE (m : GM) (c : Cm) : Except (Hs × Int) GM := match look m c.1 with
  | some l => if l = c.2 then .ok m else .error (c.1, 9)
  | none => .ok (mset m c.1 c.2)
def joinP : GM → List Cm → Except (Hs × Int) GM
  | m, [] => .ok m
  | m, c :: r => match joinE m c with
    | .ok m' => joinP m' r
    | .error e => .error e
theorem joinP_drop (m : GM) (l : List Cm) (k : Nat) (h : k < l.length) : joinP m (l.drop k) = match joinE m (l.getD k default) with
    | .ok m' => joinP m' (l.drop (k + 1))
    | .error e => .error e := by rw [dropC h, joinP]
def joinV (st : Nat) : Except (Hs × Int) GM → GVal
  | .ok _ => .tuple [.map 2 st, .lit .nilIface]
  | .error (h, n) => .tuple [.lit (.map none), whichG h n]
def joinO (st : Nat) : Except (Hs × Int) GM → List GObj
  | .ok m' => [.map st (kvG encL m')]
  | .error _ => []
theorem gJoined (m : GM) (cs : List Cm) (tc : Tag) (st s : Nat) (hc : cs.length ≤ 1000000) (hp : ∀ c ∈ cs, c.2.length ≤ 1000000) (hm : ∀ h l, look m h = some l → l.length ≤ 1000000) :
    GCalls Try.prog 41 [.ptr 0 st 0 0, .slice (csG cs) tc] (gObj st s m) (fun g O' => ∃ st', g = joinV st' (joinP m cs) ∧ O' = gObj st s m ++ joinO st' (joinP m cs)) := by
  refine GCalls.dropTo ?_
  refine h41.calls mixS (by simp) ?_
  simp only [gstart, s41, List.cons_append, List.nil_append, List.length_cons, List.length_nil, Nat.reduceAdd, Nat.reduceSub, List.replicate_succ, List.replicate_zero]
  simp +contextual -implicitDefEqProofs (maxSteps := 2000000) (disch := omega) only [drawC, drawK, keepT, ↓lenV, binV, ↓unV, ↓loadV, ↓storeV, ↓fieldAddrV, ↓indexAddrV, ↓allocV, ↓nilV, ↓ifaceV, GVal.cells, grp, GVal.ofConst, ↓resV, resG, List.map, List.headD, List.take, List.drop, ↓reduceIte, Nat.reduceEqDiff, Nat.reduceAdd, Nat.reduceSub, Nat.reduceLeDiff, reduceCtorEq, implies_true, ne_eq, ↓lookupV, ↓mapUpdateV, keyOk, keyCells, pairG, Tag.cap, List.replicate, allSolid, GVal.solid, Nat.reduceBEq, Nat.reduceMul, Nat.reduceLT, List.length_map, List.length_range, splice, vcA, ↓vcB, vcC, fbFe, e41]
  refine (cMapClone (O := gObj st s m) rfl rfl).mono ?_
  rintro g O' ⟨s2, rfl, rfl⟩
  simp +contextual -implicitDefEqProofs (maxSteps := 2000000) (disch := omega) only [drawC, drawK, keepT, ↓lenV, binV, ↓unV, ↓loadV, ↓storeV, ↓fieldAddrV, ↓indexAddrV, ↓allocV, ↓nilV, ↓ifaceV, GVal.cells, grp, GVal.ofConst, ↓resV, resG, List.map, List.headD, List.take, List.drop, ↓reduceIte, Nat.reduceEqDiff, Nat.reduceAdd, Nat.reduceSub, Nat.reduceLeDiff, reduceCtorEq, implies_true, ne_eq, ↓lookupV, ↓mapUpdateV, keyOk, keyCells, pairG, Tag.cap, List.replicate, allSolid, GVal.solid, Nat.reduceBEq, Nat.reduceMul, Nat.reduceLT, List.length_map, List.length_range, splice, vcA, ↓vcB, vcC, fbFe, e41, csG_len]
  refine vcSLoop_by (ι := { p : Nat × GM // p.1 ≤ cs.length ∧ joinP m cs = joinP p.2 (cs.drop p.1) ∧ ∀ h l, look p.2 h = some l → l.length ≤ 1000000 }) (fun p => ⟨List.replicate 6 .any ++ [.map 2 s2] ++ List.replicate 9 .any ++ [.slice (csG cs) tc, .int .i64 cs.length, .int .i64 (p.1.1 : Nat)] ++ List.replicate 32 .any, [.row st 1 [[.map 1 s]], .map s (kvG encL m), .map s2 (kvG encL p.1.2)]⟩) (fun p => cs.length - p.1.1) ?_ ?_
  · exact Into.first ⟨(0, m), by show 0 ≤ _; omega, by simp, hm⟩ ⟨[], by simp⟩ (by simp [WL, leG_self, leG_any, leG_int])
  · rintro ⟨⟨k, M⟩, hk, hf, hM⟩
    change k ≤ cs.length at hk
    change joinP m cs = joinP M (cs.drop k) at hf
    change ∀ h l, look M h = some l → l.length ≤ 1000000 at hM
    by_cases h : k < cs.length
    · have d0 : ((k : Int) < (cs.length : Int)) = True := eq_true (by omega)
      have eS := csG_at cs k h
      have hx := hp _ (memC h)
      rw [joinP_drop _ _ _ h] at hf
      generalize cs.getD k default = x at *
      obtain ⟨xh, xp⟩ := x
      change xp.length ≤ 1000000 at hx
      cases el : look M xh with
      | some l =>
        obtain ⟨i, hi, hv, _⟩ := look_idx encL M xh l el
        have hl := hM xh l el
        have cE := gEqual l xp .none .none (by omega)
        by_cases e : l = xp
        · have ej : joinE M (xh, xp) = .ok M := by unfold joinE; simp only [el]; rw [if_pos e]
          rw [ej] at hf
          rw [decide_eq_true e] at cE
          simp +contextual -implicitDefEqProofs (maxSteps := 2000000) (disch := omega) only [drawC, drawK, keepT, ↓lenV, binV, ↓unV, ↓loadV, ↓storeV, ↓fieldAddrV, ↓indexAddrV, ↓allocV, ↓nilV, ↓ifaceV, GVal.cells, grp, GVal.ofConst, ↓resV, resG, List.map, List.headD, List.take, List.drop, ↓reduceIte, Nat.reduceEqDiff, Nat.reduceAdd, Nat.reduceSub, Nat.reduceLeDiff, reduceCtorEq, implies_true, ne_eq, ↓lookupV, ↓mapUpdateV, keyOk, keyCells, pairG, Tag.cap, List.replicate, allSolid, GVal.solid, Nat.reduceBEq, Nat.reduceMul, Nat.reduceLT, List.length_map, List.length_range, splice, vcA, ↓vcB, vcC, fbFe, e41, csG_len, hsG_len, comG, take32a, drop32a, drop33a, take33a, len33, solid33, solidH, len32, take32, kfind_h, hi, hv, d0, eS]
          refine ⟨by omega, fun u => ?_⟩
          refine cE.then ?_ (by rfl)
          simp +contextual -implicitDefEqProofs (maxSteps := 2000000) (disch := omega) only [drawC, drawK, keepT, ↓lenV, binV, ↓unV, ↓loadV, ↓storeV, ↓fieldAddrV, ↓indexAddrV, ↓allocV, ↓nilV, ↓ifaceV, GVal.cells, grp, GVal.ofConst, ↓resV, resG, List.map, List.headD, List.take, List.drop, ↓reduceIte, Nat.reduceEqDiff, Nat.reduceAdd, Nat.reduceSub, Nat.reduceLeDiff, reduceCtorEq, implies_true, ne_eq, ↓lookupV, ↓mapUpdateV, keyOk, keyCells, pairG, Tag.cap, List.replicate, allSolid, GVal.solid, Nat.reduceBEq, Nat.reduceMul, Nat.reduceLT, List.length_map, List.length_range, splice, vcA, ↓vcB, vcC, fbFe, e41]
          exact Into.at ⟨(k + 1, M), by show k + 1 ≤ _; omega, hf, hM⟩ (by show _ < _; simp; omega) ⟨_, rfl⟩ (by simp [WL, leG_self, leG_any, leG_int])
        · have ej : joinE M (xh, xp) = .error (xh, 9) := by unfold joinE; simp only [el]; rw [if_neg e]
          rw [ej] at hf
          rw [decide_eq_false e] at cE
          simp +contextual -implicitDefEqProofs (maxSteps := 2000000) (disch := omega) only [drawC, drawK, keepT, ↓lenV, binV, ↓unV, ↓loadV, ↓storeV, ↓fieldAddrV, ↓indexAddrV, ↓allocV, ↓nilV, ↓ifaceV, GVal.cells, grp, GVal.ofConst, ↓resV, resG, List.map, List.headD, List.take, List.drop, ↓reduceIte, Nat.reduceEqDiff, Nat.reduceAdd, Nat.reduceSub, Nat.reduceLeDiff, reduceCtorEq, implies_true, ne_eq, ↓lookupV, ↓mapUpdateV, keyOk, keyCells, pairG, Tag.cap, List.replicate, allSolid, GVal.solid, Nat.reduceBEq, Nat.reduceMul, Nat.reduceLT, List.length_map, List.length_range, splice, vcA, ↓vcB, vcC, fbFe, e41, csG_len, hsG_len, comG, take32a, drop32a, drop33a, take33a, len33, solid33, solidH, len32, take32, kfind_h, hi, hv, d0, eS]
          refine ⟨by omega, fun u => ?_⟩
          refine cE.then ?_ (by rfl)
          simp +contextual -implicitDefEqProofs (maxSteps := 2000000) (disch := omega) only [drawC, drawK, keepT, ↓lenV, binV, ↓unV, ↓loadV, ↓storeV, ↓fieldAddrV, ↓indexAddrV, ↓allocV, ↓nilV, ↓ifaceV, GVal.cells, grp, GVal.ofConst, ↓resV, resG, List.map, List.headD, List.take, List.drop, ↓reduceIte, Nat.reduceEqDiff, Nat.reduceAdd, Nat.reduceSub, Nat.reduceLeDiff, reduceCtorEq, implies_true, ne_eq, ↓lookupV, ↓mapUpdateV, keyOk, keyCells, pairG, Tag.cap, List.replicate, allSolid, GVal.solid, Nat.reduceBEq, Nat.reduceMul, Nat.reduceLT, List.length_map, List.length_range, splice, vcA, ↓vcB, vcC, fbFe, e41, csG_len, hsG_len, comG, take32a, drop32a, drop33a, take33a, len33, solid33, solidH, len32, take32]
          refine (gOf xh 9).then ?_ (by rfl)
          simp +contextual -implicitDefEqProofs (maxSteps := 2000000) (disch := omega) only [drawC, drawK, keepT, ↓lenV, binV, ↓unV, ↓loadV, ↓storeV, ↓fieldAddrV, ↓indexAddrV, ↓allocV, ↓nilV, ↓ifaceV, GVal.cells, grp, GVal.ofConst, ↓resV, resG, List.map, List.headD, List.take, List.drop, ↓reduceIte, Nat.reduceEqDiff, Nat.reduceAdd, Nat.reduceSub, Nat.reduceLeDiff, reduceCtorEq, implies_true, ne_eq, ↓lookupV, ↓mapUpdateV, keyOk, keyCells, pairG, Tag.cap, List.replicate, allSolid, GVal.solid, Nat.reduceBEq, Nat.reduceMul, Nat.reduceLT, List.length_map, List.length_range, splice, vcA, ↓vcB, vcC, fbFe, e41]
          rw [hf]
          exact ⟨_, gObj st s m, _, rfl, leA_refl _, 0, rfl, rfl⟩
      | none =>
        obtain ⟨hi, hw⟩ := look_none encL M xh el
        have ej : joinE M (xh, xp) = .ok (mset M xh xp) := by unfold joinE; simp only [el]
        rw [ej] at hf
        have hw := hw xp
        have cC := gCloneP xp .none (by omega) (by simp)
        simp +contextual -implicitDefEqProofs (maxSteps := 2000000) (disch := omega) only [drawC, drawK, keepT, ↓lenV, binV, ↓unV, ↓loadV, ↓storeV, ↓fieldAddrV, ↓indexAddrV, ↓allocV, ↓nilV, ↓ifaceV, GVal.cells, grp, GVal.ofConst, ↓resV, resG, List.map, List.headD, List.take, List.drop, ↓reduceIte, Nat.reduceEqDiff, Nat.reduceAdd, Nat.reduceSub, Nat.reduceLeDiff, reduceCtorEq, implies_true, ne_eq, ↓lookupV, ↓mapUpdateV, keyOk, keyCells, pairG, Tag.cap, List.replicate, allSolid, GVal.solid, Nat.reduceBEq, Nat.reduceMul, Nat.reduceLT, List.length_map, List.length_range, splice, vcA, ↓vcB, vcC, fbFe, e41, csG_len, hsG_len, comG, take32a, drop32a, drop33a, take33a, len33, solid33, solidH, len32, take32, kfind_h, hi, d0, eS]
        refine ⟨by omega, fun u => ?_⟩
        refine cC.then ?_ (by rfl)
        simp +contextual -implicitDefEqProofs (maxSteps := 2000000) (disch := omega) only [drawC, drawK, keepT, ↓lenV, binV, ↓unV, ↓loadV, ↓storeV, ↓fieldAddrV, ↓indexAddrV, ↓allocV, ↓nilV, ↓ifaceV, GVal.cells, grp, GVal.ofConst, ↓resV, resG, List.map, List.headD, List.take, List.drop, ↓reduceIte, Nat.reduceEqDiff, Nat.reduceAdd, Nat.reduceSub, Nat.reduceLeDiff, reduceCtorEq, implies_true, ne_eq, ↓lookupV, ↓mapUpdateV, keyOk, keyCells, pairG, Tag.cap, List.replicate, allSolid, GVal.solid, Nat.reduceBEq, Nat.reduceMul, Nat.reduceLT, List.length_map, List.length_range, splice, vcA, ↓vcB, vcC, fbFe, e41, kfind_h, hi, hw, solidH, len32]
        refine ⟨⟨[], rfl⟩, ?_⟩
        refine Into.at ⟨(k + 1, mset M xh xp), by show k + 1 ≤ _; omega, hf, fun h l e => ?_⟩ (by show _ < _; simp; omega) ⟨[.row u 33 [comG (xh, xp)]], rfl⟩ (by simp [WL, leG_self, leG_any, leG_int])
        simp only [look_mset] at e
        split at e
        · cases e; exact hx
        · exact hM h l e
    · have d0 : ((k : Int) < (cs.length : Int)) = False := eq_false (by omega)
      rw [List.drop_of_length_le (by omega), joinP] at hf
      simp +contextual -implicitDefEqProofs (maxSteps := 2000000) (disch := omega) only [drawC, drawK, keepT, ↓lenV, binV, ↓unV, ↓loadV, ↓storeV, ↓fieldAddrV, ↓indexAddrV, ↓allocV, ↓nilV, ↓ifaceV, GVal.cells, grp, GVal.ofConst, ↓resV, resG, List.map, List.headD, List.take, List.drop, ↓reduceIte, Nat.reduceEqDiff, Nat.reduceAdd, Nat.reduceSub, Nat.reduceLeDiff, reduceCtorEq, implies_true, ne_eq, ↓lookupV, ↓mapUpdateV, keyOk, keyCells, pairG, Tag.cap, List.replicate, allSolid, GVal.solid, Nat.reduceBEq, Nat.reduceMul, Nat.reduceLT, List.length_map, List.length_range, splice, vcA, ↓vcB, vcC, fbFe, e41, csG_len, d0]
      rw [hf]
      exact ⟨_, _, [], (List.append_nil _).symm, leA_refl _, s2, rfl, rfl⟩
def nowhere (M : GM) (n : Int) (p : Hs) : Er := match look M p with
  | some _ => none
  | none => some (some p, n)
def lackP (M : GM) (cs : List Cm) (hs : List Hs) : Er := match cs.findSome? (fun c => c.2.findSome? (nowhere M 10)) with
  | some e => some e
  | none => hs.findSome? (nowhere M 11)
theorem findH {f : Hs → Er} {l : List Hs} {k : Nat} (h : k < l.length) : (l.drop k).findSome? f = match f (l.getD k h0) with
  | some e => some e
  | none => (l.drop (k + 1)).findSome? f := by
  rw [dropH h, List.findSome?_cons]
  cases f (l.getD k h0) <;> rfl
theorem findC {f : Cm → Er} {l : List Cm} {k : Nat} (h : k < l.length) : (l.drop k).findSome? f = match f (l.getD k default) with
  | some e => some e
  | none => (l.drop (k + 1)).findSome? f := by
  rw [dropC h, List.findSome?_cons]
  cases f (l.getD k default) <;> rfl
theorem gLacking (M : GM) (cs : List Cm) (hs : List Hs) (th : Tag) (gr : Int) (s : Nat) (hc : cs.length ≤ 1000000) (hh : hs.length ≤ 1000000) (hp : ∀ c ∈ cs, c.2.length ≤ 1000000) :
    GCalls Try.prog 42 [.map 0 s, .agg (reqG cs hs th gr)] [.map s (kvG encL M)] (fun g O' => ∃ x', O' = [x'] ∧ (g = errV (lackP M cs hs) ∧ x' = .map s (kvG encL M))) := by
  refine GCalls.dropTo ?_
  refine h42.calls mixS (by simp) ?_
  simp only [gstart, s42, List.cons_append, List.nil_append, List.length_cons, List.length_nil, Nat.reduceAdd, Nat.reduceSub, List.replicate_succ, List.replicate_zero]
  simp +contextual -implicitDefEqProofs (maxSteps := 2000000) (disch := omega) only [↓lenV, binV, ↓unV, ↓loadV, ↓storeV, ↓fieldAddrV, ↓indexAddrV, ↓allocV, ↓boxV, ↓ifaceV, GVal.cells, grp, GVal.ofConst, ↓resV, resG, List.map, List.headD, List.take, List.drop, ↓reduceIte, Nat.reduceEqDiff, Nat.reduceAdd, Nat.reduceSub, Nat.reduceLeDiff, reduceCtorEq, implies_true, ne_eq, ↓lookupV, keyOk, keyCells, pairG, Tag.cap, List.replicate, allSolid, GVal.solid, Nat.reduceBEq, Nat.reduceMul, Nat.reduceLT, List.length_map, List.length_range, splice, vcA, ↓vcB, vcC, fbFe, e42, csG_len]
  refine vcSLoop_by (ι := { k : Nat // k ≤ cs.length ∧ cs.findSome? (fun c => c.2.findSome? (nowhere M 10)) = (cs.drop k).findSome? (fun c => c.2.findSome? (nowhere M 10)) }) (fun k => ⟨[.map 0 s, .any, .any, .ref (reqG cs hs th gr)] ++ List.replicate 12 .any ++ [.slice (csG cs) .none, .int .i64 cs.length, .int .i64 (k.1 : Nat)] ++ List.replicate 42 .any, [.map s (kvG encL M)]⟩) (fun k => cs.length - k.1) ?_ ?_
  · exact Into.first ⟨0, by omega, by simp⟩ ⟨[], by simp⟩ (by simp [WL, leG_self, leG_any, leG_int])
  · rintro ⟨k, hk, hf⟩
    by_cases h : k < cs.length
    · have d0 : ((k : Int) < (cs.length : Int)) = True := eq_true (by omega)
      have eS := csG_at cs k h
      have hx := hp _ (memC h)
      rw [findC h] at hf
      generalize cs.getD k default = x at *
      obtain ⟨xh, xp⟩ := x
      change xp.length ≤ 1000000 at hx
      simp only at hf
      simp +contextual -implicitDefEqProofs (maxSteps := 2000000) (disch := omega) only [↓lenV, binV, ↓unV, ↓loadV, ↓storeV, ↓fieldAddrV, ↓indexAddrV, ↓allocV, ↓boxV, ↓ifaceV, GVal.cells, grp, GVal.ofConst, ↓resV, resG, List.map, List.headD, List.take, List.drop, ↓reduceIte, Nat.reduceEqDiff, Nat.reduceAdd, Nat.reduceSub, Nat.reduceLeDiff, reduceCtorEq, implies_true, ne_eq, ↓lookupV, keyOk, keyCells, pairG, Tag.cap, List.replicate, allSolid, GVal.solid, Nat.reduceBEq, Nat.reduceMul, Nat.reduceLT, List.length_map, List.length_range, splice, vcA, ↓vcB, vcC, fbFe, e42, csG_len, hsG_len, comG, take32a, drop32a, drop33a, take33a, len33, solid33, solidH, len32, take32, kfind_h, d0, eS]
      refine ⟨by omega, fun u => ?_⟩
      refine vcSLoop_by (ι := { j : Nat // j ≤ xp.length ∧ xp.findSome? (nowhere M 10) = (xp.drop j).findSome? (nowhere M 10) }) (fun j => ⟨[.map 0 s, .any, .any, .ref (reqG cs hs th gr)] ++ List.replicate 12 .any ++ [.slice (csG cs) .none, .int .i64 cs.length, .int .i64 (k : Nat)] ++ List.replicate 4 .any ++ [.slice (hsG xp) .none, .int .i64 xp.length, .int .i64 (j.1 : Nat)] ++ List.replicate 35 .any, [.map s (kvG encL M)]⟩) (fun j => xp.length - j.1) ?_ ?_
      · exact Into.first ⟨0, by omega, by simp⟩ ⟨_, rfl⟩ (by simp [WL, leG_self, leG_any, leG_int])
      · rintro ⟨j, hj, hf2⟩
        by_cases h2 : j < xp.length
        · have d1 : ((j : Int) < (xp.length : Int)) = True := eq_true (by omega)
          have eP := hsG_at xp j h2
          rw [findH h2] at hf2
          generalize xp.getD j h0 = p at *
          cases el : look M p with
          | some l =>
            obtain ⟨i, hi, hv, _⟩ := look_idx encL M p l el
            have en : nowhere M 10 p = none := by unfold nowhere; rw [el]
            rw [en] at hf2
            simp +contextual -implicitDefEqProofs (maxSteps := 2000000) (disch := omega) only [↓lenV, binV, ↓unV, ↓loadV, ↓storeV, ↓fieldAddrV, ↓indexAddrV, ↓allocV, ↓boxV, ↓ifaceV, GVal.cells, grp, GVal.ofConst, ↓resV, resG, List.map, List.headD, List.take, List.drop, ↓reduceIte, Nat.reduceEqDiff, Nat.reduceAdd, Nat.reduceSub, Nat.reduceLeDiff, reduceCtorEq, implies_true, ne_eq, ↓lookupV, keyOk, keyCells, pairG, Tag.cap, List.replicate, allSolid, GVal.solid, Nat.reduceBEq, Nat.reduceMul, Nat.reduceLT, List.length_map, List.length_range, splice, vcA, ↓vcB, vcC, fbFe, e42, csG_len, hsG_len, comG, take32a, drop32a, drop33a, take33a, len33, solid33, solidH, len32, take32, kfind_h, d1, eP, hi, hv]
            refine ⟨by omega, fun u => ?_⟩
            exact Into.at ⟨j + 1, by omega, hf2⟩ (by show _ < _; simp; omega) ⟨_, rfl⟩ (by simp [WL, leG_self, leG_any, leG_int])
          | none =>
            obtain ⟨hi, _⟩ := look_none encL M p el
            have en : nowhere M 10 p = some (some p, 10) := by unfold nowhere; rw [el]
            rw [en] at hf2
            rw [hf2] at hf
            simp +contextual -implicitDefEqProofs (maxSteps := 2000000) (disch := omega) only [↓lenV, binV, ↓unV, ↓loadV, ↓storeV, ↓fieldAddrV, ↓indexAddrV, ↓allocV, ↓boxV, ↓ifaceV, GVal.cells, grp, GVal.ofConst, ↓resV, resG, List.map, List.headD, List.take, List.drop, ↓reduceIte, Nat.reduceEqDiff, Nat.reduceAdd, Nat.reduceSub, Nat.reduceLeDiff, reduceCtorEq, implies_true, ne_eq, ↓lookupV, keyOk, keyCells, pairG, Tag.cap, List.replicate, allSolid, GVal.solid, Nat.reduceBEq, Nat.reduceMul, Nat.reduceLT, List.length_map, List.length_range, splice, vcA, ↓vcB, vcC, fbFe, e42, csG_len, hsG_len, comG, take32a, drop32a, drop33a, take33a, len33, solid33, solidH, len32, take32, kfind_h, d1, eP, hi]
            refine ⟨by omega, fun u => ?_⟩
            refine (gOf p 10).then ?_ (by rfl)
            simp +contextual -implicitDefEqProofs (maxSteps := 2000000) (disch := omega) only [↓lenV, binV, ↓unV, ↓loadV, ↓storeV, ↓fieldAddrV, ↓indexAddrV, ↓allocV, ↓boxV, ↓ifaceV, GVal.cells, grp, GVal.ofConst, ↓resV, resG, List.map, List.headD, List.take, List.drop, ↓reduceIte, Nat.reduceEqDiff, Nat.reduceAdd, Nat.reduceSub, Nat.reduceLeDiff, reduceCtorEq, implies_true, ne_eq, ↓lookupV, keyOk, keyCells, pairG, Tag.cap, List.replicate, allSolid, GVal.solid, Nat.reduceBEq, Nat.reduceMul, Nat.reduceLT, List.length_map, List.length_range, splice, vcA, ↓vcB, vcC, fbFe, e42]
            have e : lackP M cs hs = some (some p, 10) := by unfold lackP; rw [hf]
            rw [e]
            exact ⟨_, [.map s (kvG encL M)], _, rfl, leA_refl _, _, rfl, rfl, rfl⟩
        · have d1 : ((j : Int) < (xp.length : Int)) = False := eq_false (by omega)
          rw [List.drop_of_length_le (by omega)] at hf2
          rw [hf2] at hf
          simp +contextual -implicitDefEqProofs (maxSteps := 2000000) (disch := omega) only [↓lenV, binV, ↓unV, ↓loadV, ↓storeV, ↓fieldAddrV, ↓indexAddrV, ↓allocV, ↓boxV, ↓ifaceV, GVal.cells, grp, GVal.ofConst, ↓resV, resG, List.map, List.headD, List.take, List.drop, ↓reduceIte, Nat.reduceEqDiff, Nat.reduceAdd, Nat.reduceSub, Nat.reduceLeDiff, reduceCtorEq, implies_true, ne_eq, ↓lookupV, keyOk, keyCells, pairG, Tag.cap, List.replicate, allSolid, GVal.solid, Nat.reduceBEq, Nat.reduceMul, Nat.reduceLT, List.length_map, List.length_range, splice, vcA, ↓vcB, vcC, fbFe, e42, csG_len, hsG_len, comG, take32a, drop32a, drop33a, take33a, len33, solid33, solidH, len32, take32, kfind_h, d1]
          exact Into.at ⟨k + 1, by omega, hf⟩ (by show _ < _; simp; omega) ⟨[], by simp⟩ (by simp [WL, leG_self, leG_any, leG_int])
    · have d0 : ((k : Int) < (cs.length : Int)) = False := eq_false (by omega)
      rw [List.drop_of_length_le (by omega)] at hf
      have eL : lackP M cs hs = hs.findSome? (nowhere M 11) := by unfold lackP; rw [hf]; rfl
      rw [eL]
      simp +contextual -implicitDefEqProofs (maxSteps := 2000000) (disch := omega) only [↓lenV, binV, ↓unV, ↓loadV, ↓storeV, ↓fieldAddrV, ↓indexAddrV, ↓allocV, ↓boxV, ↓ifaceV, GVal.cells, grp, GVal.ofConst, ↓resV, resG, List.map, List.headD, List.take, List.drop, ↓reduceIte, Nat.reduceEqDiff, Nat.reduceAdd, Nat.reduceSub, Nat.reduceLeDiff, reduceCtorEq, implies_true, ne_eq, ↓lookupV, keyOk, keyCells, pairG, Tag.cap, List.replicate, allSolid, GVal.solid, Nat.reduceBEq, Nat.reduceMul, Nat.reduceLT, List.length_map, List.length_range, splice, vcA, ↓vcB, vcC, fbFe, e42, csG_len, hsG_len, comG, take32a, drop32a, drop33a, take33a, len33, solid33, solidH, len32, take32, kfind_h, d0]
      refine vcSLoop_by (ι := { k : Nat // k ≤ hs.length ∧ hs.findSome? (nowhere M 11) = (hs.drop k).findSome? (nowhere M 11) }) (fun k => ⟨[.map 0 s, .any, .any, .ref (reqG cs hs th gr)] ++ List.replicate 39 .any ++ [.slice (hsG hs) th, .int .i64 hs.length, .int .i64 (k.1 : Nat)] ++ List.replicate 15 .any, [.map s (kvG encL M)]⟩) (fun k => hs.length - k.1) ?_ ?_
      · exact Into.first ⟨0, by omega, by simp⟩ ⟨[], by simp⟩ (by simp [WL, leG_self, leG_any, leG_int])
      · rintro ⟨j, hj, hf2⟩
        by_cases h2 : j < hs.length
        · have d1 : ((j : Int) < (hs.length : Int)) = True := eq_true (by omega)
          have eP := hsG_at hs j h2
          rw [findH h2] at hf2
          generalize hs.getD j h0 = p at *
          cases el : look M p with
          | some l =>
            obtain ⟨i, hi, hv, _⟩ := look_idx encL M p l el
            have en : nowhere M 11 p = none := by unfold nowhere; rw [el]
            rw [en] at hf2
            simp +contextual -implicitDefEqProofs (maxSteps := 2000000) (disch := omega) only [↓lenV, binV, ↓unV, ↓loadV, ↓storeV, ↓fieldAddrV, ↓indexAddrV, ↓allocV, ↓boxV, ↓ifaceV, GVal.cells, grp, GVal.ofConst, ↓resV, resG, List.map, List.headD, List.take, List.drop, ↓reduceIte, Nat.reduceEqDiff, Nat.reduceAdd, Nat.reduceSub, Nat.reduceLeDiff, reduceCtorEq, implies_true, ne_eq, ↓lookupV, keyOk, keyCells, pairG, Tag.cap, List.replicate, allSolid, GVal.solid, Nat.reduceBEq, Nat.reduceMul, Nat.reduceLT, List.length_map, List.length_range, splice, vcA, ↓vcB, vcC, fbFe, e42, csG_len, hsG_len, comG, take32a, drop32a, drop33a, take33a, len33, solid33, solidH, len32, take32, kfind_h, d1, eP, hi, hv]
            refine ⟨by omega, fun u => ?_⟩
            exact Into.at ⟨j + 1, by omega, hf2⟩ (by show _ < _; simp; omega) ⟨_, rfl⟩ (by simp [WL, leG_self, leG_any, leG_int])
          | none =>
            obtain ⟨hi, _⟩ := look_none encL M p el
            have en : nowhere M 11 p = some (some p, 11) := by unfold nowhere; rw [el]
            rw [en] at hf2
            simp +contextual -implicitDefEqProofs (maxSteps := 2000000) (disch := omega) only [↓lenV, binV, ↓unV, ↓loadV, ↓storeV, ↓fieldAddrV, ↓indexAddrV, ↓allocV, ↓boxV, ↓ifaceV, GVal.cells, grp, GVal.ofConst, ↓resV, resG, List.map, List.headD, List.take, List.drop, ↓reduceIte, Nat.reduceEqDiff, Nat.reduceAdd, Nat.reduceSub, Nat.reduceLeDiff, reduceCtorEq, implies_true, ne_eq, ↓lookupV, keyOk, keyCells, pairG, Tag.cap, List.replicate, allSolid, GVal.solid, Nat.reduceBEq, Nat.reduceMul, Nat.reduceLT, List.length_map, List.length_range, splice, vcA, ↓vcB, vcC, fbFe, e42, csG_len, hsG_len, comG, take32a, drop32a, drop33a, take33a, len33, solid33, solidH, len32, take32, kfind_h, d1, eP, hi]
            refine ⟨by omega, fun u => ?_⟩
            refine (gOf p 11).then ?_ (by rfl)
            simp +contextual -implicitDefEqProofs (maxSteps := 2000000) (disch := omega) only [↓lenV, binV, ↓unV, ↓loadV, ↓storeV, ↓fieldAddrV, ↓indexAddrV, ↓allocV, ↓boxV, ↓ifaceV, GVal.cells, grp, GVal.ofConst, ↓resV, resG, List.map, List.headD, List.take, List.drop, ↓reduceIte, Nat.reduceEqDiff, Nat.reduceAdd, Nat.reduceSub, Nat.reduceLeDiff, reduceCtorEq, implies_true, ne_eq, ↓lookupV, keyOk, keyCells, pairG, Tag.cap, List.replicate, allSolid, GVal.solid, Nat.reduceBEq, Nat.reduceMul, Nat.reduceLT, List.length_map, List.length_range, splice, vcA, ↓vcB, vcC, fbFe, e42]
            rw [hf2]
            exact ⟨_, [.map s (kvG encL M)], _, rfl, leA_refl _, _, rfl, rfl, rfl⟩
        · have d1 : ((j : Int) < (hs.length : Int)) = False := eq_false (by omega)
          rw [List.drop_of_length_le (by omega)] at hf2
          simp +contextual -implicitDefEqProofs (maxSteps := 2000000) (disch := omega) only [↓lenV, binV, ↓unV, ↓loadV, ↓storeV, ↓fieldAddrV, ↓indexAddrV, ↓allocV, ↓boxV, ↓ifaceV, GVal.cells, grp, GVal.ofConst, ↓resV, resG, List.map, List.headD, List.take, List.drop, ↓reduceIte, Nat.reduceEqDiff, Nat.reduceAdd, Nat.reduceSub, Nat.reduceLeDiff, reduceCtorEq, implies_true, ne_eq, ↓lookupV, keyOk, keyCells, pairG, Tag.cap, List.replicate, allSolid, GVal.solid, Nat.reduceBEq, Nat.reduceMul, Nat.reduceLT, List.length_map, List.length_range, splice, vcA, ↓vcB, vcC, fbFe, e42, csG_len, hsG_len, comG, take32a, drop32a, drop33a, take33a, len33, solid33, solidH, len32, take32, kfind_h, d1]
          rw [hf2]
          exact ⟨_, [.map s (kvG encL M)], [], rfl, leA_refl _, _, rfl, rfl, rfl⟩
end Gv.Try
/- Contracts: graph's reached: all that next steps lead to. -/
set_option linter.unusedVariables false
set_option linter.unusedSimpArgs false
set_option maxRecDepth 20000
set_option maxHeartbeats 4000000
namespace Gv.Try
open Go Gv Go.Proofs
inductive Reach (nx : Hs → List Hs) (l : List Hs) : Hs → Prop
  | base (x : Hs) : x ∈ l → Reach nx l x
  | step (x y : Hs) : Reach nx l x → y ∈ nx x → Reach nx l y
structure RInv (nx : Hs → List Hs) (U l S todo : List Hs) : Prop where
  nodup : S.Nodup
  inU : ∀ x, x ∈ S ∨ x ∈ todo → x ∈ U
  start : ∀ x ∈ l, x ∈ S ∨ x ∈ todo
  step : ∀ x ∈ S, ∀ y ∈ nx x, y ∈ S ∨ y ∈ todo
  sound : ∀ x, x ∈ S ∨ x ∈ todo → Reach nx l x
theorem nodup_lenH : ∀ (l A : List Hs), l.Nodup → (∀ x ∈ l, x ∈ A) → l.length ≤ A.length
  | [], _, _, _ => by simp
  | x :: l, A, hn, h => by
    have hx := h x (by simp)
    obtain ⟨h1, h2⟩ := List.nodup_cons.1 hn
    have := nodup_lenH l (A.erase x) h2 fun y hy => (List.mem_erase_of_ne (fun e => h1 (by rw [← e]; exact hy))).2 (h y (by simp [hy]))
    rw [List.length_erase_of_mem hx] at this
    have := List.length_pos_of_mem hx
    simp only [List.length_cons]; omega
theorem RInv.len {nx : Hs → List Hs} {U l S todo : List Hs} (h : RInv nx U l S todo) : S.length ≤ U.length := nodup_lenH S U h.nodup fun x hx => h.inU x (.inl hx)
theorem RInv.skip {nx : Hs → List Hs} {U l S t : List Hs} {x : Hs} (h : RInv nx U l S (t ++ [x])) (hx : x ∈ S) : RInv nx U l S t := by
  have hm : ∀ y, y ∈ S ∨ y ∈ t ++ [x] → y ∈ S ∨ y ∈ t := fun y hy => by
    rcases hy with q | q
    · exact .inl q
    · rcases List.mem_append.1 q with q | q
      · exact .inr q
      · rw [List.mem_singleton.1 q]; exact .inl hx
  have hb : ∀ y, y ∈ S ∨ y ∈ t → y ∈ S ∨ y ∈ t ++ [x] := fun y hy => hy.imp id fun q => List.mem_append_left _ q
  exact ⟨h.nodup, fun y hy => h.inU y (hb y hy), fun y hy => hm y (h.start y hy), fun y hy z hz => hm z (h.step y hy z hz), fun y hy => h.sound y (hb y hy)⟩
theorem RInv.go {nx : Hs → List Hs} {U l S t : List Hs} {x : Hs} (h : RInv nx U l S (t ++ [x])) (hx : x ∉ S) (hU : ∀ y ∈ nx x, y ∈ U) : RInv nx U l (S ++ [x]) (t ++ nx x) := by
  have hxU : x ∈ U := h.inU x (.inr (by simp))
  have hxR : Reach nx l x := h.sound x (.inr (by simp))
  have hm : ∀ y, y ∈ S ∨ y ∈ t ++ [x] → y ∈ S ++ [x] ∨ y ∈ t ++ nx x := fun y hy => by
    rcases hy with q | q
    · exact .inl (List.mem_append_left _ q)
    · rcases List.mem_append.1 q with q | q
      · exact .inr (List.mem_append_left _ q)
      · exact .inl (List.mem_append_right _ q)
  have hb : ∀ y, y ∈ S ++ [x] ∨ y ∈ t ++ nx x → y ∈ S ∨ y ∈ t ∨ y = x ∨ y ∈ nx x := fun y hy => by
    simp only [List.mem_append, List.mem_singleton] at hy
    rcases hy with (q | q) | (q | q)
    · exact .inl q
    · exact .inr (.inr (.inl q))
    · exact .inr (.inl q)
    · exact .inr (.inr (.inr q))
  refine ⟨?_, fun y hy => ?_, fun y hy => hm y (h.start y hy), fun y hy z hz => ?_, fun y hy => ?_⟩
  · rw [List.nodup_append]
    exact ⟨h.nodup, by simp, fun a ha b hb => by rw [List.mem_singleton.1 hb]; exact fun e => hx (e ▸ ha)⟩
  · rcases hb y hy with q | q | q | q
    · exact h.inU y (.inl q)
    · exact h.inU y (.inr (List.mem_append_left _ q))
    · rw [q]; exact hxU
    · exact hU y q
  · rcases List.mem_append.1 hy with q | q
    · exact hm z (h.step y q z hz)
    · rw [List.mem_singleton.1 q] at hz
      exact .inr (List.mem_append_right _ hz)
  · rcases hb y hy with q | q | q | q
    · exact h.sound y (.inl q)
    · exact h.sound y (.inr (List.mem_append_left _ q))
    · rw [q]; exact hxR
    · exact .step x y hxR q
theorem RInv.fin {nx : Hs → List Hs} {U l S : List Hs} (h : RInv nx U l S []) (x : Hs) : x ∈ S ↔ Reach nx l x := by
  constructor
  · exact fun hx => h.sound x (.inl hx)
  · intro hr
    induction hr with
    | base x hx => exact (h.start x hx).resolve_right (by simp)
    | step x y _ hy ih => exact (h.step x ih y hy).resolve_right (by simp)
abbrev setM (S : List Hs) : List (Hs × Bool) := S.map fun h => (h, true)
theorem look_set (S : List Hs) (h : Hs) : look (setM S) h = if h ∈ S then some true else none := by
  induction S with
  | nil => rfl
  | cons a r ih =>
    rw [show setM (a :: r) = (a, true) :: setM r from rfl, look, ih]
    by_cases e : h = a
    · simp [e]
    · simp [e]
theorem mset_set (S : List Hs) (h : Hs) (hn : h ∉ S) : mset (setM S) h true = setM (S ++ [h]) := by
  induction S with
  | nil => rfl
  | cons a r ih =>
    rw [show setM (a :: r) = (a, true) :: setM r from rfl, mset, if_neg (fun e => hn (by simp [e])), ih fun q => hn (by simp [q])]
    rfl
def rMu (u k s t : Nat) : Nat := (u - s) * (k + 1) + t
theorem gReached {F : FuncId} {caps : List GVal} {a b : GObj} (nx : Hs → List Hs) (hN : ∀ h : Hs, GCalls Try.prog F (.agg (bytesG h.1) :: caps) [a, b] (fun g O' => g = .slice (hsG (nx h)) .none ∧ O' = [a, b])) (ha : a.isClock = false)
    (l : List Hs) (t : Tag) (ht : t = .nil → l = []) (U : List Hs) (hU : ∀ x ∈ l, x ∈ U) (hnU : ∀ x ∈ U, ∀ y ∈ nx x, y ∈ U) (K : Nat) (hK : ∀ x ∈ U, (nx x).length ≤ K) (hUl : U.length ≤ 100000) (hKl : K ≤ 100000) (hl : l.length ≤ 1000000) :
    GCalls Try.prog 36 [.slice (hsG l) t, .func (.func F) [] caps] [a, b] (fun g O' => ∃ st S, g = .map 2 st ∧ O' = [a, b, .map st (kvG encB (setM S))] ∧ S.Nodup ∧ (∀ x, x ∈ S ↔ Reach nx l x) ∧ S.length ≤ U.length) := by
  have hcl : ∀ Y, clockOf (a :: Y) = none := fun Y => by cases a <;> first | rfl | cases ha
  have hst : ∀ (r : List GObj) (K : Nat → Prop), stamp (a :: r) K = ∀ st, K st := fun r K => by unfold stamp; rw [hcl]
  have htk : ∀ r : List GObj, tickO (a :: r) = a :: r := fun r => tickO_none (hcl r)
  refine GCalls.dropTo ?_
  refine h36.calls mixS (by simp) ?_
  simp only [gstart, s36, List.cons_append, List.nil_append, List.length_cons, List.length_nil, Nat.reduceAdd, Nat.reduceSub, List.replicate_succ, List.replicate_zero]
  simp +contextual -implicitDefEqProofs (maxSteps := 2000000) (disch := omega) only [↓lenV, binV, ↓unV, optV, ↓loadV, ↓storeV, ↓indexAddrV, ↓allocV, ↓sliceV, ↓appendV, ↓srcV, bound, cutTag, hiTag, GVal.cells, grp, GVal.ofConst, ↓resV, resG, List.map, List.headD, List.take, List.drop, ↓reduceIte, Nat.reduceEqDiff, Nat.reduceAdd, Nat.reduceSub, Nat.reduceLeDiff, reduceCtorEq, implies_true, ne_eq, ↓asrcV, ↓lookupV, ↓mapUpdateV, ↓makeMapV, keyOk, keyCells, pairG, Tag.cap, List.replicate, allSolid, GVal.solid, Nat.reduceBEq, Nat.reduceMul, Nat.reduceLT, List.length_map, List.length_range, splice, vcA, ↓vcB, vcC, fbFe, e36, hst, htk]
  intro sm
  refine (GCalls.newUp (hClone l t (by omega) ht) (hcl _) (by rintro g O' (⟨_, rfl, rfl⟩ | ⟨st, rfl, rfl⟩) <;> rfl)).mono ?_
  rintro g O' ⟨g0, O1, hO, rfl, rfl⟩
  have inv0 : RInv nx U l [] l := ⟨List.nodup_nil, fun x hx => hU x (by simpa using hx), fun x hx => .inr hx, fun x hx => by simp at hx, fun x hx => .base x (by simpa using hx)⟩
  have mu1 : ∀ u s n : Nat, rMu u K s n < rMu u K s (n + 1) := fun u s n => by unfold rMu; omega
  have mu2 : ∀ u s n m : Nat, s < u → m ≤ K → rMu u K (s + 1) (n + m) < rMu u K s (n + 1) := fun u s n m h1 h2 => by
    unfold rMu
    have : u - s = (u - (s + 1)) + 1 := by omega
    rw [this, Nat.add_mul]; omega
  simp +contextual -implicitDefEqProofs (maxSteps := 2000000) (disch := omega) only [↓lenV, binV, ↓unV, optV, ↓loadV, ↓storeV, ↓indexAddrV, ↓allocV, ↓sliceV, ↓appendV, ↓srcV, bound, cutTag, hiTag, GVal.cells, grp, GVal.ofConst, ↓resV, resG, List.map, List.headD, List.take, List.drop, ↓reduceIte, Nat.reduceEqDiff, Nat.reduceAdd, Nat.reduceSub, Nat.reduceLeDiff, reduceCtorEq, implies_true, ne_eq, ↓asrcV, ↓lookupV, ↓mapUpdateV, ↓makeMapV, keyOk, keyCells, pairG, Tag.cap, List.replicate, allSolid, GVal.solid, Nat.reduceBEq, Nat.reduceMul, Nat.reduceLT, List.length_map, List.length_range, splice, vcA, ↓vcB, vcC, fbFe, e36, hst, htk]
  refine vcSLoop_by (ι := { p : (List Hs × List Hs) × (List Hs × Nat) // RInv nx U l p.1.1 p.1.2 ∧ p.1.2.length ≤ l.length + K * p.1.1.length }) (fun p => ⟨[.any, .func (.func F) [] caps, .any, .any, .any, .map 2 sm, .own 3 p.1.2.2 0 p.1.1.2.length] ++ List.replicate 30 .any, [a, b, .map sm (kvG encB (setM p.1.1.1)), .row p.1.2.2 32 (hsG (p.1.1.2 ++ p.1.2.1))]⟩) (fun p => rMu U.length K p.1.1.1.length p.1.1.2.length) ?_ ?_
  · rcases hO with ⟨rfl, rfl, rfl⟩ | ⟨v0, rfl, rfl⟩
    · refine Into.row 6 32 rfl rfl ?_
      simp +contextual -implicitDefEqProofs (maxSteps := 2000000) (disch := omega) only [↓lenV, binV, ↓unV, optV, ↓loadV, ↓storeV, ↓indexAddrV, ↓allocV, ↓sliceV, ↓appendV, ↓srcV, bound, cutTag, hiTag, GVal.cells, grp, GVal.ofConst, ↓resV, resG, List.map, List.headD, List.take, List.drop, ↓reduceIte, Nat.reduceEqDiff, Nat.reduceAdd, Nat.reduceSub, Nat.reduceLeDiff, reduceCtorEq, implies_true, ne_eq, ↓asrcV, ↓lookupV, ↓mapUpdateV, ↓makeMapV, keyOk, keyCells, pairG, Tag.cap, List.replicate, allSolid, GVal.solid, Nat.reduceBEq, Nat.reduceMul, Nat.reduceLT, List.length_map, List.length_range, splice, vcA, ↓vcB, vcC, fbFe, e36, hst, htk]
      intro v
      exact Into.first ⟨(([], []), ([], v)), inv0, by simp⟩ ⟨[], rfl⟩ (by simp [WL, leG_self, leG_any])
    · exact Into.first ⟨(([], l), ([], v0)), inv0, by simp⟩ ⟨[], by simp [kvG]⟩ (by simp [WL, leG_self, leG_any, GVal.up])
  · rintro ⟨⟨⟨S, todo⟩, ⟨Z, v⟩⟩, inv, hlen⟩
    change RInv nx U l S todo at inv
    change todo.length ≤ l.length + K * S.length at hlen
    have hSl := inv.len
    have hKS : K * S.length ≤ 100000 * 100000 := Nat.mul_le_mul hKl (by omega)
    rcases List.eq_nil_or_concat todo with rfl | ⟨tt, x, e⟩
    · simp +contextual -implicitDefEqProofs (maxSteps := 2000000) (disch := omega) only [↓lenV, binV, ↓unV, optV, ↓loadV, ↓storeV, ↓indexAddrV, ↓allocV, ↓sliceV, ↓appendV, ↓srcV, bound, cutTag, hiTag, GVal.cells, grp, GVal.ofConst, ↓resV, resG, List.map, List.headD, List.take, List.drop, ↓reduceIte, Nat.reduceEqDiff, Nat.reduceAdd, Nat.reduceSub, Nat.reduceLeDiff, reduceCtorEq, implies_true, ne_eq, ↓asrcV, ↓lookupV, ↓mapUpdateV, ↓makeMapV, keyOk, keyCells, pairG, Tag.cap, List.replicate, allSolid, GVal.solid, Nat.reduceBEq, Nat.reduceMul, Nat.reduceLT, List.length_map, List.length_range, splice, vcA, ↓vcB, vcC, fbFe, e36, hst, htk, Int.lt_irrefl, false_imp_iff, true_and, List.length_nil, Int.natCast_zero]
      exact ⟨_, [a, b, .map sm (kvG encB (setM S))], _, rfl, leA_refl _, sm, S, rfl, rfl, inv.nodup, inv.fin, inv.len⟩
    · rw [List.concat_eq_append] at e
      subst e
      have d0 : ((0 : Int) < (tt.length : Int) + 1) = True := eq_true (by omega)
      have d1 : ((tt.length : Int) + 1 - 1).toNat = tt.length := by omega
      have eS : (hsG (tt ++ [x] ++ Z)).getD tt.length [] = bytesG x.1 := by
        rw [hsG_at _ _ (by simp)]
        simp [List.getD]
      have hl2 : tt.length + 1 ≤ l.length + K * S.length := by rw [List.length_append, List.length_singleton] at hlen; exact hlen
      have hxU : x ∈ U := inv.inU x (.inr (by simp))
      by_cases hx : x ∈ S
      · obtain ⟨i, hi, hv, _⟩ := look_idx encB (setM S) x true (by rw [look_set, if_pos hx])
        simp +contextual -implicitDefEqProofs (maxSteps := 2000000) (disch := omega) only [↓lenV, binV, ↓unV, optV, ↓loadV, ↓storeV, ↓indexAddrV, ↓allocV, ↓sliceV, ↓appendV, ↓srcV, bound, cutTag, hiTag, GVal.cells, grp, GVal.ofConst, ↓resV, resG, List.map, List.headD, List.take, List.drop, ↓reduceIte, Nat.reduceEqDiff, Nat.reduceAdd, Nat.reduceSub, Nat.reduceLeDiff, reduceCtorEq, implies_true, ne_eq, ↓asrcV, ↓lookupV, ↓mapUpdateV, ↓makeMapV, keyOk, keyCells, pairG, Tag.cap, List.replicate, allSolid, GVal.solid, Nat.reduceBEq, Nat.reduceMul, Nat.reduceLT, List.length_map, List.length_range, splice, vcA, ↓vcB, vcC, fbFe, e36, hst, htk, toNat0, Nat.sub_zero, hsG_len, d0, d1, eS, List.length_append, List.length_singleton, List.length_cons, List.length_nil, true_imp_iff, kfind_h, hi, hv, solidH, len32, take32]
        refine ⟨by omega, by omega, by omega, by omega, fun u => ⟨by omega, by omega, by omega, ?_⟩⟩
        exact Into.at ⟨((S, tt), ([x] ++ Z, v)), inv.skip hx, by show tt.length ≤ l.length + K * S.length; omega⟩ (mu1 _ _ _) ⟨[.row u 32 [bytesG x.1]], by simp⟩ (by simp [WL, leG_self, leG_any])
      · obtain ⟨hi, hw⟩ := look_none encB (setM S) x (by rw [look_set, if_neg hx])
        have hw := hw true
        rw [mset_set S x hx] at hw
        have cN := (hN x).keep2 ha
        simp +contextual -implicitDefEqProofs (maxSteps := 2000000) (disch := omega) only [↓lenV, binV, ↓unV, optV, ↓loadV, ↓storeV, ↓indexAddrV, ↓allocV, ↓sliceV, ↓appendV, ↓srcV, bound, cutTag, hiTag, GVal.cells, grp, GVal.ofConst, ↓resV, resG, List.map, List.headD, List.take, List.drop, ↓reduceIte, Nat.reduceEqDiff, Nat.reduceAdd, Nat.reduceSub, Nat.reduceLeDiff, reduceCtorEq, implies_true, ne_eq, ↓asrcV, ↓lookupV, ↓mapUpdateV, ↓makeMapV, keyOk, keyCells, pairG, Tag.cap, List.replicate, allSolid, GVal.solid, Nat.reduceBEq, Nat.reduceMul, Nat.reduceLT, List.length_map, List.length_range, splice, vcA, ↓vcB, vcC, fbFe, e36, hst, htk, toNat0, Nat.sub_zero, hsG_len, d0, d1, eS, List.length_append, List.length_singleton, List.length_cons, List.length_nil, true_imp_iff, kfind_h, hi, hw, solidH, len32, take32]
        have hkx := hK x hxU
        refine ⟨by omega, by omega, by omega, by omega, fun u => ⟨by omega, by omega, by omega, ?_⟩⟩
        refine (cN _).mono ?_
        rintro g O' ⟨rfl, rfl⟩
        simp +contextual -implicitDefEqProofs (maxSteps := 2000000) (disch := omega) only [↓lenV, binV, ↓unV, optV, ↓loadV, ↓storeV, ↓indexAddrV, ↓allocV, ↓sliceV, ↓appendV, ↓srcV, bound, cutTag, hiTag, GVal.cells, grp, GVal.ofConst, ↓resV, resG, List.map, List.headD, List.take, List.drop, ↓reduceIte, Nat.reduceEqDiff, Nat.reduceAdd, Nat.reduceSub, Nat.reduceLeDiff, reduceCtorEq, implies_true, ne_eq, ↓asrcV, ↓lookupV, ↓mapUpdateV, ↓makeMapV, keyOk, keyCells, pairG, Tag.cap, List.replicate, allSolid, GVal.solid, Nat.reduceBEq, Nat.reduceMul, Nat.reduceLT, List.length_map, List.length_range, splice, vcA, ↓vcB, vcC, fbFe, e36, hst, htk, toNat0, Nat.sub_zero, hsG_len, all_hsG, List.length_append, List.length_singleton, List.length_cons, List.length_nil, true_imp_iff]
        refine ⟨by omega, by omega, by omega, fun v2 => ?_⟩
        refine Into.at ⟨((S ++ [x], tt ++ nx x), ([], v2)), inv.go hx (hnU x hxU), ?_⟩ ?_ ⟨[.row u 32 [bytesG x.1]], ?_⟩ (by simp [WL, leG_self, leG_any])
        · show (tt ++ nx x).length ≤ l.length + K * (S ++ [x]).length
          rw [List.length_append, List.length_append, List.length_singleton, Nat.mul_add, Nat.mul_one]; omega
        · show rMu _ K (S ++ [x]).length (tt ++ nx x).length < rMu _ K S.length (tt.length + 1)
          rw [List.length_append, List.length_append, List.length_singleton]
          refine mu2 _ _ _ _ ?_ hkx
          have := (inv.go hx (hnU x hxU)).len
          rw [List.length_append, List.length_singleton] at this
          omega
        · show _ = [a, b, GObj.map sm (kvG encB (setM (S ++ [x]))), GObj.row v2 32 (hsG ((tt ++ nx x) ++ []))] ++ [GObj.row u 32 [bytesG x.1]]
          simp [hsG_app]
          exact List.take_left' (hsG_len tt)
end Gv.Try
