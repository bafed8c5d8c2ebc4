/- Contracts: small functions of graph. -/
import Derived.Test.YtnenmmdpclglhaaGreatDoorP8
set_option linter.unusedVariables false
set_option linter.unusedSimpArgs false
set_option maxRecDepth 20000
set_option maxHeartbeats 4000000
namespace Gv.Tryz
open Go Gv Go.Proofs
open Nat (reduceEqDiff reduceAdd reduceSub reduceLeDiff reduceMul reduceLT)
theorem gCloneP (l : List Hs) (t : Tag) (hl : l.length ≤ 4398046511104) (ht : t = .nil → l = []) : GPure Tryz.prog 43 [.slice (hsG l) t] (.slice (hsG l) .none) := by
  refine GCalls.toPure ((hClone l t hl ht).mono ?_)
  rintro g O' (⟨rfl, rfl, rfl⟩ | ⟨st, rfl, rfl⟩)
  · exact ⟨2, .slice [] .nil, rfl, by rw [leA_slice]; rfl⟩
  · exact ⟨3, .slice (hsG l) .none, frz_own rfl (hsG_len _).symm (frz_hs _ 1 _), by rw [leA_slice]⟩
abbrev errG (n : Int) : GVal := .iface 52 (.int .i64 n)
abbrev whichG (h : Hs) (n : Int) : GVal := .iface 113 (.ref (bytesG h.1 ++ [errG n]))
theorem gOf (h : Hs) (n : Int) : GPure Tryz.prog 49 [.agg (bytesG h.1), errG n] (whichG h n) := by
  refine h49.pure mixS (by simp) ?_
  simp only [gstart, s49, List.cons_append, List.nil_append, List.length_cons, List.length_nil, reduceAdd, reduceSub, List.replicate_succ, List.replicate_zero]
  simp +contextual -implicitDefEqProofs (maxSteps := 2000000) (disch := omega) only [binV, ↓loadV, ↓boxV, ↓buildV, ↓ifaceV, fillG, place, GVal.cells, GVal.ofConst, ↓resV, resG, ↓reduceIte, reduceEqDiff, reduceAdd, reduceSub, reduceLeDiff, reduceCtorEq, aggV, Tag.cap, GVal.solid, Nat.reduceBEq, reduceMul, reduceLT, vcA, ↓vcB, vcC, fbFy, e49, vcD, v32]
  refine ⟨by kernel_rfl, rfl, ?_⟩
  simp only [len33, take32a, drop33a, solid33, List.append_nil, Nat.le_refl, if_true]
  exact ⟨rfl, by simp [leA, leG_self]⟩
theorem gEqual1 (a b : List Hs) (ta tb : Tag) (ha : a.length ≤ 4398046511104) (hl : a.length = b.length) : GPure Tryz.prog 101 [.slice (hsG a) ta, .slice (hsG b) tb] (.bool (decide (a = b))) := by
  have dl : ((a.length : Int) = (b.length : Int)) = True := eq_true (by omega)
  refine h101.pure mixS (by simp) ?_
  simp only [gstart, s101, List.cons_append, List.nil_append, List.length_cons, List.length_nil, reduceAdd, reduceSub, List.replicate_succ, List.replicate_zero]
  simp +contextual -implicitDefEqProofs (maxSteps := 2000000) (disch := omega) only [drawC, drawK, keepT, ↓lenV, binV, ↓loadV, ↓indexAddrV, GVal.cells, GVal.ofConst, ↓resV, resG, ↓reduceIte, reduceEqDiff, reduceAdd, reduceSub, reduceLeDiff, reduceCtorEq, aggV, Tag.cap, GVal.solid, Nat.reduceBEq, reduceMul, reduceLT, vcA, ↓vcB, vcC, fbFy, e101, hsG_len, dl, vcD, vnT]
  refine vcSLoop_by (ι := { k : Nat // k ≤ a.length ∧ a.take k = b.take k }) (fun k => ⟨[.slice (hsG a) ta, .slice (hsG b) tb, .any, .any, .any, .any, .any, .any, .any, .any, .any, .slice (hsG a) ta, .int .i64 a.length, .int .i64 (k.1 : Nat)] ++ List.replicate 12 .any, []⟩) (fun k => a.length - k.1) ?_ ?_
  · exact Into.first ⟨0, by omega, by simp⟩ ⟨[], by simp⟩ (by simp [WL, leG_self, leG_any, leG_int])
  · rintro ⟨k, hk, he⟩
    by_cases h' : k < a.length
    · have d0 : ((k : Int) < (a.length : Int)) = True := eq_true (by omega)
      have ea := hsG_at a k h'
      have eb := hsG_at b k (by omega)
      obtain ⟨x, ex⟩ : ∃ x, a.getD k h0 = x := ⟨_, rfl⟩
      obtain ⟨y, ey⟩ : ∃ y, b.getD k h0 = y := ⟨_, rfl⟩
      rw [ex] at ea
      rw [ey] at eb
      simp +contextual -implicitDefEqProofs (maxSteps := 2000000) (disch := omega) only [drawC, drawK, keepT, ↓lenV, binV, ↓loadV, ↓indexAddrV, GVal.cells, GVal.ofConst, ↓resV, resG, ↓reduceIte, reduceEqDiff, reduceAdd, reduceSub, reduceLeDiff, reduceCtorEq, aggV, Tag.cap, GVal.solid, Nat.reduceBEq, reduceMul, reduceLT, vcA, ↓vcB, vcC, fbFy, e101, hsG_len, d0, ea, eb, all_hsG, take32, len32, cellsEq_hs x y, vcD]
      refine ⟨by omega, by omega, by omega, fun c => ?_, fun c => ?_⟩
      · exact Into.at ⟨k + 1, by omega, by rw [takeH h', takeH (by omega), he, ex, ey, c]⟩ (by show _ < _; simp; omega) ⟨[], by simp⟩ (by simp [WL, leG_self, leG_any, leG_int])
      · rw [decide_eq_false fun e => c (by rw [← ex, ← ey, e])]
    · have d0 : ((k : Int) < (a.length : Int)) = False := eq_false (by omega)
      rw [List.take_of_length_le (by omega), List.take_of_length_le (by omega)] at he
      simp +contextual -implicitDefEqProofs (maxSteps := 2000000) (disch := omega) only [drawC, drawK, keepT, ↓lenV, binV, ↓loadV, ↓indexAddrV, GVal.cells, GVal.ofConst, ↓resV, resG, ↓reduceIte, reduceEqDiff, reduceAdd, reduceSub, reduceLeDiff, reduceCtorEq, aggV, Tag.cap, GVal.solid, Nat.reduceBEq, reduceMul, reduceLT, vcA, ↓vcB, vcC, fbFy, e101, hsG_len, d0, false_imp_iff, true_and, vcD]
      rw [decide_eq_true he]
theorem gEqual0 (a b : List Hs) (ta tb : Tag) (hl : a.length ≠ b.length) : GPure Tryz.prog 101 [.slice (hsG a) ta, .slice (hsG b) tb] (.bool false) := by
  have dl : ((a.length : Int) = (b.length : Int)) = False := eq_false (by omega)
  refine h101.pure mixS (by simp) ?_
  simp only [gstart, s101, List.cons_append, List.nil_append, List.length_cons, List.length_nil, reduceAdd, reduceSub, List.replicate_succ, List.replicate_zero]
  simp +contextual -implicitDefEqProofs (maxSteps := 2000000) (disch := omega) only [drawC, drawK, keepT, ↓lenV, binV, ↓loadV, ↓indexAddrV, GVal.cells, GVal.ofConst, ↓resV, resG, ↓reduceIte, reduceEqDiff, reduceAdd, reduceSub, reduceLeDiff, reduceCtorEq, aggV, Tag.cap, GVal.solid, Nat.reduceBEq, reduceMul, reduceLT, vcA, ↓vcB, vcC, fbFy, e101, hsG_len, dl, vcD, vnT]
theorem gEqual (a b : List Hs) (ta tb : Tag) (ha : a.length ≤ 4398046511104) : GPure Tryz.prog 101 [.slice (hsG a) ta, .slice (hsG b) tb] (.bool (decide (a = b))) := by
  by_cases hl : a.length = b.length
  · exact gEqual1 a b ta tb ha hl
  · rw [decide_eq_false (fun e => hl (by rw [e]))]
    exact gEqual0 a b ta tb hl
def twiceB (l : List Hs) : Bool := decide ((sortR l).length < l.length)
theorem gTwice (l : List Hs) (t : Tag) (hl : l.length ≤ 4398046511104) (ht : t = .nil → l = []) : GPure Tryz.prog 100 [.slice (hsG l) t] (.bool (twiceB l)) := by
  refine h100.pure mixS (by simp) ?_
  simp only [gstart, s100, List.cons_append, List.nil_append, List.length_cons, List.length_nil, reduceAdd, reduceSub, List.replicate_succ, List.replicate_zero]
  simp +contextual -implicitDefEqProofs (maxSteps := 2000000) (disch := omega) only [↓lenV, binV, GVal.cells, GVal.ofConst, ↓resV, resG, ↓reduceIte, reduceEqDiff, reduceAdd, reduceSub, reduceLeDiff, reduceCtorEq, Tag.cap, GVal.solid, Nat.reduceBEq, reduceMul, reduceLT, vcA, ↓vcB, vcC, fbFy, e100, vcD]
  refine (hSort l t hl ht).then ?_ (by rfl)
  simp +contextual -implicitDefEqProofs (maxSteps := 2000000) (disch := omega) only [↓lenV, binV, GVal.cells, GVal.ofConst, ↓resV, resG, ↓reduceIte, reduceEqDiff, reduceAdd, reduceSub, reduceLeDiff, reduceCtorEq, Tag.cap, GVal.solid, Nat.reduceBEq, reduceMul, reduceLT, vcA, ↓vcB, vcC, fbFy, e100, hsG_len, vcD]
  unfold twiceB
  by_cases h : (sortR l).length < l.length
  · rw [decide_eq_true h]; simp [h]
  · rw [decide_eq_false h]; simp [h]
def parsM (m : GM) (h : Hs) : List Hs := (look m h).getD []
theorem gPar1 (m : GM) (h : Hs) (st s i : Nat) (l : List Hs) (hl : l.length ≤ 4398046511104) (hi : idxM m h = some i) (hv : (kvG encL m)[i]? = some (.agg (bytesG h.1), encL l)) : GCalls Tryz.prog 103 [.ptr 0 st 0 0, .agg (bytesG h.1)] (gObj st s m) (fun g O' => g = .tuple [.slice (hsG l) .none, .bool true] ∧ O' = gObj st s m) := by
  refine h103.calls mixS (by simp) ?_
  simp only [gstart, s103, List.cons_append, List.nil_append, List.length_cons, List.length_nil, reduceAdd, reduceSub, List.replicate_succ, List.replicate_zero]
  simp +contextual -implicitDefEqProofs (maxSteps := 2000000) (disch := omega) only [drawC, drawK, keepT, optV, ↓loadV, ↓fieldAddrV, ↓boxV, ↓sliceV, ↓nilV, bound, cutTag, hiTag, GVal.cells, GVal.ofConst, ↓resV, resG, ↓reduceIte, reduceEqDiff, reduceAdd, reduceSub, reduceLeDiff, reduceCtorEq, ↓lookupV, keyOk, keyCells, pairG, Tag.cap, GVal.solid, Nat.reduceBEq, reduceMul, reduceLT, vcA, ↓vcB, vcC, fbFy, e103, kfind_h, hi, hv, vcD, v32]
  refine (gCloneP l .none hl (by simp)).then ?_ (by rfl)
  simp +contextual -implicitDefEqProofs (maxSteps := 2000000) (disch := omega) only [drawC, drawK, keepT, optV, ↓loadV, ↓fieldAddrV, ↓boxV, ↓sliceV, ↓nilV, bound, cutTag, hiTag, GVal.cells, GVal.ofConst, ↓resV, resG, ↓reduceIte, reduceEqDiff, reduceAdd, reduceSub, reduceLeDiff, reduceCtorEq, ↓lookupV, keyOk, keyCells, pairG, Tag.cap, GVal.solid, Nat.reduceBEq, reduceMul, reduceLT, vcA, ↓vcB, vcC, fbFy, e103, vcD]
theorem gPar0 (m : GM) (h : Hs) (st s : Nat) (hi : idxM m h = none) : GCalls Tryz.prog 103 [.ptr 0 st 0 0, .agg (bytesG h.1)] (gObj st s m) (fun g O' => g = .tuple [.slice (hsG []) .none, .bool false] ∧ O' = gObj st s m) := by
  refine h103.calls mixS (by simp) ?_
  simp only [gstart, s103, List.cons_append, List.nil_append, List.length_cons, List.length_nil, reduceAdd, reduceSub, List.replicate_succ, List.replicate_zero]
  simp +contextual -implicitDefEqProofs (maxSteps := 2000000) (disch := omega) only [drawC, drawK, keepT, optV, ↓loadV, ↓fieldAddrV, ↓boxV, ↓sliceV, ↓nilV, bound, cutTag, hiTag, GVal.cells, GVal.ofConst, ↓resV, resG, ↓reduceIte, reduceEqDiff, reduceAdd, reduceSub, reduceLeDiff, reduceCtorEq, ↓lookupV, keyOk, keyCells, pairG, Tag.cap, GVal.solid, Nat.reduceBEq, reduceMul, reduceLT, vcA, ↓vcB, vcC, fbFy, e103, kfind_h, hi, vcD, v32]
  refine (gCloneP [] .nil (by simp) (by simp)).then ?_ (by rfl)
  simp +contextual -implicitDefEqProofs (maxSteps := 2000000) (disch := omega) only [drawC, drawK, keepT, optV, ↓loadV, ↓fieldAddrV, ↓boxV, ↓sliceV, ↓nilV, bound, cutTag, hiTag, GVal.cells, GVal.ofConst, ↓resV, resG, ↓reduceIte, reduceEqDiff, reduceAdd, reduceSub, reduceLeDiff, reduceCtorEq, ↓lookupV, keyOk, keyCells, pairG, Tag.cap, GVal.solid, Nat.reduceBEq, reduceMul, reduceLT, vcA, ↓vcB, vcC, fbFy, e103, vcD]
theorem gParents (m : GM) (h : Hs) (st s : Nat) (hl : (parsM m h).length ≤ 4398046511104) : GCalls Tryz.prog 103 [.ptr 0 st 0 0, .agg (bytesG h.1)] (gObj st s m) (fun g O' => g = .tuple [.slice (hsG (parsM m h)) .none, .bool (look m h).isSome] ∧ O' = gObj st s m) := by
  cases e : look m h with
  | some l =>
    obtain ⟨i, hi, hv, _⟩ := look_idx encL m h l e
    have := gPar1 m h st s i l (by simpa [parsM, e] using hl) hi hv
    simpa [parsM, e] using this
  | none =>
    have := gPar0 m h st s (look_none encL m h e).1
    simpa [parsM, e] using this
end Gv.Tryz
/- Contracts: graph's sizes: what a request may not be, whatever the graph. -/
set_option linter.unusedVariables false
set_option linter.unusedSimpArgs false
set_option maxRecDepth 20000
set_option maxHeartbeats 4000000
namespace Gv.Tryz
open Go Gv Go.Proofs
open Nat (reduceEqDiff reduceAdd reduceSub reduceLeDiff reduceMul reduceLT)
abbrev Cm := Hs × List Hs
def comG (c : Cm) : List GVal := bytesG c.1.1 ++ [.slice (hsG c.2) .none]
def csG (l : List Cm) : List (List GVal) := l.map comG
instance : Inhabited Cm := ⟨(h0, [])⟩
theorem csG_len (l : List Cm) : (csG l).length = l.length := by simp [csG]
theorem csG_at (l : List Cm) (i : Nat) (h : i < l.length) : (csG l).getD i [] = comG (l.getD i default) := by simp [csG, List.getD, h]
theorem comG_len (c : Cm) : (comG c).length = 33 := len33 _ _
theorem all_csG (l : List Cm) : (∀ x ∈ csG l, x.length = 33) = True := eq_true fun x hx => by obtain ⟨s, _, rfl⟩ := List.mem_map.1 hx; exact comG_len s
theorem csG_app (a b : List Cm) : csG (a ++ b) = csG a ++ csG b := by simp [csG]
theorem csG_one (c : Cm) : csG [c] = [comG c] := rfl
theorem dropC {l : List Cm} {k : Nat} (h : k < l.length) : l.drop k = l.getD k default :: l.drop (k + 1) := by
  rw [List.drop_eq_getElem_cons h]; simp [List.getD, h]
theorem memC {l : List Cm} {k : Nat} (h : k < l.length) : l.getD k default ∈ l := by
  rw [List.getD_eq_getElem?_getD, List.getElem?_eq_getElem h]; exact List.getElem_mem h
abbrev Er := Option (Option Hs × Int)
def errV : Er → GVal
  | none => .lit .nilIface
  | some (none, n) => errG n
  | some (some h, n) => whichG h n
abbrev reqG (cs : List Cm) (hs : List Hs) (th : Tag) (gr : Int) : List GVal := [.slice (csG cs) .none, .slice (hsG hs) th, .int .i64 gr]
def sizeE (c : Cm) : Er := if 4 < c.2.length then some (some c.1, 8) else if twiceB c.2 = true then some (some c.1, 1) else none
def badReq (gr : Int) (nc nh : Nat) : Prop := (gr ≠ 1 ∧ gr ≠ 2) ∨ 200 < nc ∨ 200 < nh
instance (gr : Int) (nc nh : Nat) : Decidable (badReq gr nc nh) := by unfold badReq; infer_instance
def sizesP (gr : Int) (nh : Nat) (cs : List Cm) : Er := if badReq gr cs.length nh then some (none, 1) else cs.findSome? sizeE
theorem gSizes1 (cs : List Cm) (hs : List Hs) (th : Tag) (gr : Int) (hc : cs.length ≤ 1000000) (hh : hs.length ≤ 1000000) (hp : ∀ c ∈ cs, c.2.length ≤ 1000000) (d1 : (gr = 1) = True) : GPure Tryz.prog 69 [.agg (reqG cs hs th gr)] (errV (sizesP gr hs.length cs)) := by
  have fin : badReq gr cs.length hs.length → errV (sizesP gr hs.length cs) = errG 1 := fun h => by rw [sizesP, if_pos h]; rfl
  have stop : badReq gr cs.length hs.length → GPure Tryz.prog 69 [.agg (reqG cs hs th gr)] (errG 1) → GPure Tryz.prog 69 [.agg (reqG cs hs th gr)] (errV (sizesP gr hs.length cs)) := fun h k => by rw [fin h]; exact k
  have hgr : gr = 1 ∨ gr = 2 := by simp only [eq_iff_iff, iff_true, iff_false] at *; omega
  by_cases h2 : 200 < cs.length
  · refine stop (.inr (.inl h2)) ?_
    have d2 : ((200 : Int) < (cs.length : Int)) = True := eq_true (by omega)
    clear h2 stop fin hgr
    refine h69.pure mixS (by simp) ?_
    simp only [gstart, s69, List.cons_append, List.nil_append, List.length_cons, List.length_nil, reduceAdd, reduceSub, List.replicate_succ, List.replicate_zero]
    simp +contextual -implicitDefEqProofs (maxSteps := 2000000) (disch := omega) only [↓lenV, binV, ↓loadV, ↓storeV, ↓fieldAddrV, ↓indexAddrV, ↓allocV, ↓boxV, ↓ifaceV, GVal.cells, GVal.ofConst, ↓resV, resG, ↓reduceIte, reduceEqDiff, reduceAdd, reduceSub, reduceLeDiff, reduceCtorEq, aggV, Tag.cap, GVal.solid, Nat.reduceBEq, reduceMul, reduceLT, vcA, ↓vcB, vcC, fbFy, e69, csG_len, hsG_len, d1, d2, vcD, vnT]
    exact leA_refl _
  · have d2 : ((200 : Int) < (cs.length : Int)) = False := eq_false (by omega)
    by_cases h3 : 200 < hs.length
    · refine stop (.inr (.inr h3)) ?_
      have d3 : ((200 : Int) < (hs.length : Int)) = True := eq_true (by omega)
      clear h2 h3 stop fin hgr
      refine h69.pure mixS (by simp) ?_
      simp only [gstart, s69, List.cons_append, List.nil_append, List.length_cons, List.length_nil, reduceAdd, reduceSub, List.replicate_succ, List.replicate_zero]
      simp +contextual -implicitDefEqProofs (maxSteps := 2000000) (disch := omega) only [↓lenV, binV, ↓loadV, ↓storeV, ↓fieldAddrV, ↓indexAddrV, ↓allocV, ↓boxV, ↓ifaceV, GVal.cells, GVal.ofConst, ↓resV, resG, ↓reduceIte, reduceEqDiff, reduceAdd, reduceSub, reduceLeDiff, reduceCtorEq, aggV, Tag.cap, GVal.solid, Nat.reduceBEq, reduceMul, reduceLT, vcA, ↓vcB, vcC, fbFy, e69, csG_len, hsG_len, d1, d2, d3, vcD, vnT]
      exact leA_refl _
    · have d3 : ((200 : Int) < (hs.length : Int)) = False := eq_false (by omega)
      have he : errV (sizesP gr hs.length cs) = errV (cs.findSome? sizeE) := by
        rw [sizesP, if_neg]
        rintro (q | q | q)
        · omega
        · exact h2 q
        · exact h3 q
      rw [he]
      clear h2 h3 stop fin he hgr
      refine h69.pure mixS (by simp) ?_
      simp only [gstart, s69, List.cons_append, List.nil_append, List.length_cons, List.length_nil, reduceAdd, reduceSub, List.replicate_succ, List.replicate_zero]
      simp +contextual -implicitDefEqProofs (maxSteps := 2000000) (disch := omega) only [↓lenV, binV, ↓loadV, ↓storeV, ↓fieldAddrV, ↓indexAddrV, ↓allocV, ↓boxV, ↓ifaceV, GVal.cells, GVal.ofConst, ↓resV, resG, ↓reduceIte, reduceEqDiff, reduceAdd, reduceSub, reduceLeDiff, reduceCtorEq, aggV, Tag.cap, GVal.solid, Nat.reduceBEq, reduceMul, reduceLT, vcA, ↓vcB, vcC, fbFy, e69, csG_len, hsG_len, d1, d2, d3, vcD, vnT]
      refine vcSLoop_by (ι := { k : Nat // k ≤ cs.length ∧ cs.findSome? sizeE = (cs.drop k).findSome? sizeE }) (fun k => ⟨[.any, .ref (reqG cs hs th gr)] ++ List.replicate 25 .any ++ [.slice (csG cs) .none, .int .i64 cs.length, .int .i64 (k.1 : Nat)] ++ List.replicate 21 .any, []⟩) (fun k => cs.length - k.1) ?_ ?_
      · exact Into.first ⟨0, by omega, by simp⟩ ⟨[], by simp⟩ (by simp [WL, leG_self, leG_any, leG_int])
      · rintro ⟨k, hk, hf⟩
        by_cases h : k < cs.length
        · have d0 : ((k : Int) < (cs.length : Int)) = True := eq_true (by omega)
          have eS := csG_at cs k h
          have hx := hp _ (memC h)
          rw [dropC h, List.findSome?_cons] at hf
          generalize cs.getD k default = x at *
          obtain ⟨xh, xp⟩ := x
          by_cases c4 : 4 < xp.length
          · have d4 : ((4 : Int) < (xp.length : Int)) = True := eq_true (by omega)
            have e1 : sizeE (xh, xp) = some (some xh, 8) := by rw [sizeE, if_pos c4]
            rw [e1] at hf
            simp +contextual -implicitDefEqProofs (maxSteps := 2000000) (disch := omega) only [↓lenV, binV, ↓loadV, ↓storeV, ↓fieldAddrV, ↓indexAddrV, ↓allocV, ↓boxV, ↓ifaceV, GVal.cells, GVal.ofConst, ↓resV, resG, ↓reduceIte, reduceEqDiff, reduceAdd, reduceSub, reduceLeDiff, reduceCtorEq, aggV, Tag.cap, GVal.solid, Nat.reduceBEq, reduceMul, reduceLT, vcA, ↓vcB, vcC, fbFy, e69, csG_len, hsG_len, comG, d0, eS, d4, vcD, v33, v32]
            refine ⟨by omega, fun u => ?_⟩
            refine (gOf xh 8).then ?_ (by rfl)
            simp +contextual -implicitDefEqProofs (maxSteps := 2000000) (disch := omega) only [↓lenV, binV, ↓loadV, ↓storeV, ↓fieldAddrV, ↓indexAddrV, ↓allocV, ↓boxV, ↓ifaceV, GVal.cells, GVal.ofConst, ↓resV, resG, ↓reduceIte, reduceEqDiff, reduceAdd, reduceSub, reduceLeDiff, reduceCtorEq, aggV, Tag.cap, GVal.solid, Nat.reduceBEq, reduceMul, reduceLT, vcA, ↓vcB, vcC, fbFy, e69, csG_len, hsG_len, comG, vcD, v33, v32]
            rw [hf]
            exact leA_refl _
          · have d4 : ((4 : Int) < (xp.length : Int)) = False := eq_false (by omega)
            have cT := gTwice xp .none (by omega) (by simp)
            cases et : twiceB xp with
            | true =>
              have e1 : sizeE (xh, xp) = some (some xh, 1) := by rw [sizeE, if_neg c4, if_pos et]
              rw [e1] at hf
              rw [et] at cT
              simp +contextual -implicitDefEqProofs (maxSteps := 2000000) (disch := omega) only [↓lenV, binV, ↓loadV, ↓storeV, ↓fieldAddrV, ↓indexAddrV, ↓allocV, ↓boxV, ↓ifaceV, GVal.cells, GVal.ofConst, ↓resV, resG, ↓reduceIte, reduceEqDiff, reduceAdd, reduceSub, reduceLeDiff, reduceCtorEq, aggV, Tag.cap, GVal.solid, Nat.reduceBEq, reduceMul, reduceLT, vcA, ↓vcB, vcC, fbFy, e69, csG_len, hsG_len, comG, d0, eS, d4, vcD, v33, v32]
              refine ⟨by omega, fun u => ?_⟩
              refine cT.then ?_ (by rfl)
              simp +contextual -implicitDefEqProofs (maxSteps := 2000000) (disch := omega) only [↓lenV, binV, ↓loadV, ↓storeV, ↓fieldAddrV, ↓indexAddrV, ↓allocV, ↓boxV, ↓ifaceV, GVal.cells, GVal.ofConst, ↓resV, resG, ↓reduceIte, reduceEqDiff, reduceAdd, reduceSub, reduceLeDiff, reduceCtorEq, aggV, Tag.cap, GVal.solid, Nat.reduceBEq, reduceMul, reduceLT, vcA, ↓vcB, vcC, fbFy, e69, csG_len, hsG_len, comG, vcD, v33, v32]
              refine (gOf xh 1).then ?_ (by rfl)
              simp +contextual -implicitDefEqProofs (maxSteps := 2000000) (disch := omega) only [↓lenV, binV, ↓loadV, ↓storeV, ↓fieldAddrV, ↓indexAddrV, ↓allocV, ↓boxV, ↓ifaceV, GVal.cells, GVal.ofConst, ↓resV, resG, ↓reduceIte, reduceEqDiff, reduceAdd, reduceSub, reduceLeDiff, reduceCtorEq, aggV, Tag.cap, GVal.solid, Nat.reduceBEq, reduceMul, reduceLT, vcA, ↓vcB, vcC, fbFy, e69, csG_len, hsG_len, comG, vcD, v33, v32]
              rw [hf]
              exact leA_refl _
            | false =>
              have e1 : sizeE (xh, xp) = none := by rw [sizeE, if_neg c4, if_neg (by rw [et]; simp)]
              rw [e1] at hf
              rw [et] at cT
              simp +contextual -implicitDefEqProofs (maxSteps := 2000000) (disch := omega) only [↓lenV, binV, ↓loadV, ↓storeV, ↓fieldAddrV, ↓indexAddrV, ↓allocV, ↓boxV, ↓ifaceV, GVal.cells, GVal.ofConst, ↓resV, resG, ↓reduceIte, reduceEqDiff, reduceAdd, reduceSub, reduceLeDiff, reduceCtorEq, aggV, Tag.cap, GVal.solid, Nat.reduceBEq, reduceMul, reduceLT, vcA, ↓vcB, vcC, fbFy, e69, csG_len, hsG_len, comG, d0, eS, d4, vcD, v33, v32]
              refine ⟨by omega, fun u => ?_⟩
              refine cT.then ?_ (by rfl)
              simp +contextual -implicitDefEqProofs (maxSteps := 2000000) (disch := omega) only [↓lenV, binV, ↓loadV, ↓storeV, ↓fieldAddrV, ↓indexAddrV, ↓allocV, ↓boxV, ↓ifaceV, GVal.cells, GVal.ofConst, ↓resV, resG, ↓reduceIte, reduceEqDiff, reduceAdd, reduceSub, reduceLeDiff, reduceCtorEq, aggV, Tag.cap, GVal.solid, Nat.reduceBEq, reduceMul, reduceLT, vcA, ↓vcB, vcC, fbFy, e69, csG_len, hsG_len, comG, vcD, v33, v32]
              exact Into.at ⟨k + 1, by omega, hf⟩ (by show _ < _; simp; omega) ⟨_, rfl⟩ (by simp [WL, leG_self, leG_any, leG_int])
        · have d0 : ((k : Int) < (cs.length : Int)) = False := eq_false (by omega)
          rw [List.drop_of_length_le (by omega)] at hf
          simp +contextual -implicitDefEqProofs (maxSteps := 2000000) (disch := omega) only [↓lenV, binV, ↓loadV, ↓storeV, ↓fieldAddrV, ↓indexAddrV, ↓allocV, ↓boxV, ↓ifaceV, GVal.cells, GVal.ofConst, ↓resV, resG, ↓reduceIte, reduceEqDiff, reduceAdd, reduceSub, reduceLeDiff, reduceCtorEq, aggV, Tag.cap, GVal.solid, Nat.reduceBEq, reduceMul, reduceLT, vcA, ↓vcB, vcC, fbFy, e69, csG_len, hsG_len, comG, d0, vcD, v33, v32]
          rw [hf]
          exact leA_refl _
theorem gSizes2 (cs : List Cm) (hs : List Hs) (th : Tag) (gr : Int) (hc : cs.length ≤ 1000000) (hh : hs.length ≤ 1000000) (hp : ∀ c ∈ cs, c.2.length ≤ 1000000) (d1 : (gr = 1) = False) (dd : (gr = 2) = True) : GPure Tryz.prog 69 [.agg (reqG cs hs th gr)] (errV (sizesP gr hs.length cs)) := by
  have fin : badReq gr cs.length hs.length → errV (sizesP gr hs.length cs) = errG 1 := fun h => by rw [sizesP, if_pos h]; rfl
  have stop : badReq gr cs.length hs.length → GPure Tryz.prog 69 [.agg (reqG cs hs th gr)] (errG 1) → GPure Tryz.prog 69 [.agg (reqG cs hs th gr)] (errV (sizesP gr hs.length cs)) := fun h k => by rw [fin h]; exact k
  have hgr : gr = 1 ∨ gr = 2 := by simp only [eq_iff_iff, iff_true, iff_false] at *; omega
  by_cases h2 : 200 < cs.length
  · refine stop (.inr (.inl h2)) ?_
    have d2 : ((200 : Int) < (cs.length : Int)) = True := eq_true (by omega)
    clear h2 stop fin hgr
    refine h69.pure mixS (by simp) ?_
    simp only [gstart, s69, List.cons_append, List.nil_append, List.length_cons, List.length_nil, reduceAdd, reduceSub, List.replicate_succ, List.replicate_zero]
    simp +contextual -implicitDefEqProofs (maxSteps := 2000000) (disch := omega) only [↓lenV, binV, ↓loadV, ↓storeV, ↓fieldAddrV, ↓indexAddrV, ↓allocV, ↓boxV, ↓ifaceV, GVal.cells, GVal.ofConst, ↓resV, resG, ↓reduceIte, reduceEqDiff, reduceAdd, reduceSub, reduceLeDiff, reduceCtorEq, aggV, Tag.cap, GVal.solid, Nat.reduceBEq, reduceMul, reduceLT, vcA, ↓vcB, vcC, fbFy, e69, csG_len, hsG_len, d1, dd, d2, vcD, vnT]
    exact leA_refl _
  · have d2 : ((200 : Int) < (cs.length : Int)) = False := eq_false (by omega)
    by_cases h3 : 200 < hs.length
    · refine stop (.inr (.inr h3)) ?_
      have d3 : ((200 : Int) < (hs.length : Int)) = True := eq_true (by omega)
      clear h2 h3 stop fin hgr
      refine h69.pure mixS (by simp) ?_
      simp only [gstart, s69, List.cons_append, List.nil_append, List.length_cons, List.length_nil, reduceAdd, reduceSub, List.replicate_succ, List.replicate_zero]
      simp +contextual -implicitDefEqProofs (maxSteps := 2000000) (disch := omega) only [↓lenV, binV, ↓loadV, ↓storeV, ↓fieldAddrV, ↓indexAddrV, ↓allocV, ↓boxV, ↓ifaceV, GVal.cells, GVal.ofConst, ↓resV, resG, ↓reduceIte, reduceEqDiff, reduceAdd, reduceSub, reduceLeDiff, reduceCtorEq, aggV, Tag.cap, GVal.solid, Nat.reduceBEq, reduceMul, reduceLT, vcA, ↓vcB, vcC, fbFy, e69, csG_len, hsG_len, d1, dd, d2, d3, vcD, vnT]
      exact leA_refl _
    · have d3 : ((200 : Int) < (hs.length : Int)) = False := eq_false (by omega)
      have he : errV (sizesP gr hs.length cs) = errV (cs.findSome? sizeE) := by
        rw [sizesP, if_neg]
        rintro (q | q | q)
        · omega
        · exact h2 q
        · exact h3 q
      rw [he]
      clear h2 h3 stop fin he hgr
      refine h69.pure mixS (by simp) ?_
      simp only [gstart, s69, List.cons_append, List.nil_append, List.length_cons, List.length_nil, reduceAdd, reduceSub, List.replicate_succ, List.replicate_zero]
      simp +contextual -implicitDefEqProofs (maxSteps := 2000000) (disch := omega) only [↓lenV, binV, ↓loadV, ↓storeV, ↓fieldAddrV, ↓indexAddrV, ↓allocV, ↓boxV, ↓ifaceV, GVal.cells, GVal.ofConst, ↓resV, resG, ↓reduceIte, reduceEqDiff, reduceAdd, reduceSub, reduceLeDiff, reduceCtorEq, aggV, Tag.cap, GVal.solid, Nat.reduceBEq, reduceMul, reduceLT, vcA, ↓vcB, vcC, fbFy, e69, csG_len, hsG_len, d1, dd, d2, d3, vcD, vnT]
      refine vcSLoop_by (ι := { k : Nat // k ≤ cs.length ∧ cs.findSome? sizeE = (cs.drop k).findSome? sizeE }) (fun k => ⟨[.any, .ref (reqG cs hs th gr)] ++ List.replicate 25 .any ++ [.slice (csG cs) .none, .int .i64 cs.length, .int .i64 (k.1 : Nat)] ++ List.replicate 21 .any, []⟩) (fun k => cs.length - k.1) ?_ ?_
      · exact Into.first ⟨0, by omega, by simp⟩ ⟨[], by simp⟩ (by simp [WL, leG_self, leG_any, leG_int])
      · rintro ⟨k, hk, hf⟩
        by_cases h : k < cs.length
        · have d0 : ((k : Int) < (cs.length : Int)) = True := eq_true (by omega)
          have eS := csG_at cs k h
          have hx := hp _ (memC h)
          rw [dropC h, List.findSome?_cons] at hf
          generalize cs.getD k default = x at *
          obtain ⟨xh, xp⟩ := x
          by_cases c4 : 4 < xp.length
          · have d4 : ((4 : Int) < (xp.length : Int)) = True := eq_true (by omega)
            have e1 : sizeE (xh, xp) = some (some xh, 8) := by rw [sizeE, if_pos c4]
            rw [e1] at hf
            simp +contextual -implicitDefEqProofs (maxSteps := 2000000) (disch := omega) only [↓lenV, binV, ↓loadV, ↓storeV, ↓fieldAddrV, ↓indexAddrV, ↓allocV, ↓boxV, ↓ifaceV, GVal.cells, GVal.ofConst, ↓resV, resG, ↓reduceIte, reduceEqDiff, reduceAdd, reduceSub, reduceLeDiff, reduceCtorEq, aggV, Tag.cap, GVal.solid, Nat.reduceBEq, reduceMul, reduceLT, vcA, ↓vcB, vcC, fbFy, e69, csG_len, hsG_len, comG, d0, eS, d4, vcD, v33, v32]
            refine ⟨by omega, fun u => ?_⟩
            refine (gOf xh 8).then ?_ (by rfl)
            simp +contextual -implicitDefEqProofs (maxSteps := 2000000) (disch := omega) only [↓lenV, binV, ↓loadV, ↓storeV, ↓fieldAddrV, ↓indexAddrV, ↓allocV, ↓boxV, ↓ifaceV, GVal.cells, GVal.ofConst, ↓resV, resG, ↓reduceIte, reduceEqDiff, reduceAdd, reduceSub, reduceLeDiff, reduceCtorEq, aggV, Tag.cap, GVal.solid, Nat.reduceBEq, reduceMul, reduceLT, vcA, ↓vcB, vcC, fbFy, e69, csG_len, hsG_len, comG, vcD, v33, v32]
            rw [hf]
            exact leA_refl _
          · have d4 : ((4 : Int) < (xp.length : Int)) = False := eq_false (by omega)
            have cT := gTwice xp .none (by omega) (by simp)
            cases et : twiceB xp with
            | true =>
              have e1 : sizeE (xh, xp) = some (some xh, 1) := by rw [sizeE, if_neg c4, if_pos et]
              rw [e1] at hf
              rw [et] at cT
              simp +contextual -implicitDefEqProofs (maxSteps := 2000000) (disch := omega) only [↓lenV, binV, ↓loadV, ↓storeV, ↓fieldAddrV, ↓indexAddrV, ↓allocV, ↓boxV, ↓ifaceV, GVal.cells, GVal.ofConst, ↓resV, resG, ↓reduceIte, reduceEqDiff, reduceAdd, reduceSub, reduceLeDiff, reduceCtorEq, aggV, Tag.cap, GVal.solid, Nat.reduceBEq, reduceMul, reduceLT, vcA, ↓vcB, vcC, fbFy, e69, csG_len, hsG_len, comG, d0, eS, d4, vcD, v33, v32]
              refine ⟨by omega, fun u => ?_⟩
              refine cT.then ?_ (by rfl)
              simp +contextual -implicitDefEqProofs (maxSteps := 2000000) (disch := omega) only [↓lenV, binV, ↓loadV, ↓storeV, ↓fieldAddrV, ↓indexAddrV, ↓allocV, ↓boxV, ↓ifaceV, GVal.cells, GVal.ofConst, ↓resV, resG, ↓reduceIte, reduceEqDiff, reduceAdd, reduceSub, reduceLeDiff, reduceCtorEq, aggV, Tag.cap, GVal.solid, Nat.reduceBEq, reduceMul, reduceLT, vcA, ↓vcB, vcC, fbFy, e69, csG_len, hsG_len, comG, vcD, v33, v32]
              refine (gOf xh 1).then ?_ (by rfl)
              simp +contextual -implicitDefEqProofs (maxSteps := 2000000) (disch := omega) only [↓lenV, binV, ↓loadV, ↓storeV, ↓fieldAddrV, ↓indexAddrV, ↓allocV, ↓boxV, ↓ifaceV, GVal.cells, GVal.ofConst, ↓resV, resG, ↓reduceIte, reduceEqDiff, reduceAdd, reduceSub, reduceLeDiff, reduceCtorEq, aggV, Tag.cap, GVal.solid, Nat.reduceBEq, reduceMul, reduceLT, vcA, ↓vcB, vcC, fbFy, e69, csG_len, hsG_len, comG, vcD, v33, v32]
              rw [hf]
              exact leA_refl _
            | false =>
              have e1 : sizeE (xh, xp) = none := by rw [sizeE, if_neg c4, if_neg (by rw [et]; simp)]
              rw [e1] at hf
              rw [et] at cT
              simp +contextual -implicitDefEqProofs (maxSteps := 2000000) (disch := omega) only [↓lenV, binV, ↓loadV, ↓storeV, ↓fieldAddrV, ↓indexAddrV, ↓allocV, ↓boxV, ↓ifaceV, GVal.cells, GVal.ofConst, ↓resV, resG, ↓reduceIte, reduceEqDiff, reduceAdd, reduceSub, reduceLeDiff, reduceCtorEq, aggV, Tag.cap, GVal.solid, Nat.reduceBEq, reduceMul, reduceLT, vcA, ↓vcB, vcC, fbFy, e69, csG_len, hsG_len, comG, d0, eS, d4, vcD, v33, v32]
              refine ⟨by omega, fun u => ?_⟩
              refine cT.then ?_ (by rfl)
              simp +contextual -implicitDefEqProofs (maxSteps := 2000000) (disch := omega) only [↓lenV, binV, ↓loadV, ↓storeV, ↓fieldAddrV, ↓indexAddrV, ↓allocV, ↓boxV, ↓ifaceV, GVal.cells, GVal.ofConst, ↓resV, resG, ↓reduceIte, reduceEqDiff, reduceAdd, reduceSub, reduceLeDiff, reduceCtorEq, aggV, Tag.cap, GVal.solid, Nat.reduceBEq, reduceMul, reduceLT, vcA, ↓vcB, vcC, fbFy, e69, csG_len, hsG_len, comG, vcD, v33, v32]
              exact Into.at ⟨k + 1, by omega, hf⟩ (by show _ < _; simp; omega) ⟨_, rfl⟩ (by simp [WL, leG_self, leG_any, leG_int])
        · have d0 : ((k : Int) < (cs.length : Int)) = False := eq_false (by omega)
          rw [List.drop_of_length_le (by omega)] at hf
          simp +contextual -implicitDefEqProofs (maxSteps := 2000000) (disch := omega) only [↓lenV, binV, ↓loadV, ↓storeV, ↓fieldAddrV, ↓indexAddrV, ↓allocV, ↓boxV, ↓ifaceV, GVal.cells, GVal.ofConst, ↓resV, resG, ↓reduceIte, reduceEqDiff, reduceAdd, reduceSub, reduceLeDiff, reduceCtorEq, aggV, Tag.cap, GVal.solid, Nat.reduceBEq, reduceMul, reduceLT, vcA, ↓vcB, vcC, fbFy, e69, csG_len, hsG_len, comG, d0, vcD, v33, v32]
          rw [hf]
          exact leA_refl _
theorem gSizes (cs : List Cm) (hs : List Hs) (th : Tag) (gr : Int) (hc : cs.length ≤ 1000000) (hh : hs.length ≤ 1000000) (hp : ∀ c ∈ cs, c.2.length ≤ 1000000) : GPure Tryz.prog 69 [.agg (reqG cs hs th gr)] (errV (sizesP gr hs.length cs)) := by
  by_cases h1 : gr = 1
  · exact gSizes1 cs hs th gr hc hh hp (eq_true h1)
  · by_cases h2 : gr = 2
    · exact gSizes2 cs hs th gr hc hh hp (eq_false h1) (eq_true h2)
    · have fin : errV (sizesP gr hs.length cs) = errG 1 := by rw [sizesP, if_pos (.inl ⟨h1, h2⟩)]; rfl
      rw [fin]
      have d1 : (gr = 1) = False := eq_false h1
      have dd : (gr = 2) = False := eq_false h2
      refine h69.pure mixS (by simp) ?_
      simp only [gstart, s69, List.cons_append, List.nil_append, List.length_cons, List.length_nil, reduceAdd, reduceSub, List.replicate_succ, List.replicate_zero]
      simp +contextual -implicitDefEqProofs (maxSteps := 2000000) (disch := omega) only [↓lenV, binV, ↓loadV, ↓storeV, ↓fieldAddrV, ↓indexAddrV, ↓allocV, ↓boxV, ↓ifaceV, GVal.cells, GVal.ofConst, ↓resV, resG, ↓reduceIte, reduceEqDiff, reduceAdd, reduceSub, reduceLeDiff, reduceCtorEq, aggV, Tag.cap, GVal.solid, Nat.reduceBEq, reduceMul, reduceLT, vcA, ↓vcB, vcC, fbFy, e69, csG_len, hsG_len, d1, dd, vcD, vnT]
      exact leA_refl _
end Gv.Tryz
/- Contracts: graph's joined, lacking. -/
set_option linter.unusedVariables false
set_option linter.unusedSimpArgs false
set_option maxRecDepth 20000
set_option maxHeartbeats 4000000
namespace Gv.Tryz
open Go Gv Go.Proofs
open Nat (reduceEqDiff reduceAdd reduceSub reduceLeDiff reduceMul reduceLT)
def joinE (m : GM) (c : Cm) : Except (Hs × Int) GM := match look m c.1 with
  | some l => if l = c.2 then .ok m else .error (c.1, 9)
  | none => .ok (mset m c.1 c.2)
def joinP : GM → List Cm → Except (Hs × Int) GM
  | m, [] => .ok m
  | m, c :: r => match joinE m c with
    | .ok m' => joinP m' r
    | .error e => .error e
theorem joinP_drop (m : GM) (l : List Cm) (k : Nat) (h : k < l.length) : joinP m (l.drop k) = match joinE m (l.getD k default) with
    | .ok m' => joinP m' (l.drop (k + 1))
    | .error e => .error e := by rw [dropC h, joinP]
def joinV (st : Nat) : Except (Hs × Int) GM → GVal
  | .ok _ => .tuple [.map 2 st, .lit .nilIface]
  | .error (h, n) => .tuple [.lit (.map none), whichG h n]
def joinO (st : Nat) : Except (Hs × Int) GM → List GObj
  | .ok m' => [.map st (kvG encL m')]
  | .error _ => []
theorem gJoined (m : GM) (cs : List Cm) (tc : Tag) (st s : Nat) (hc : cs.length ≤ 1000000) (hp : ∀ c ∈ cs, c.2.length ≤ 1000000) (hm : ∀ h l, look m h = some l → l.length ≤ 1000000) :
    GCalls Tryz.prog 70 [.ptr 0 st 0 0, .slice (csG cs) tc] (gObj st s m) (fun g O' => ∃ st', g = joinV st' (joinP m cs) ∧ O' = gObj st s m ++ joinO st' (joinP m cs)) := by
  refine GCalls.dropTo ?_
  refine h70.calls mixS (by simp) ?_
  simp only [gstart, s70, List.cons_append, List.nil_append, List.length_cons, List.length_nil, reduceAdd, reduceSub, List.replicate_succ, List.replicate_zero]
  simp +contextual -implicitDefEqProofs (maxSteps := 2000000) (disch := omega) only [drawC, drawK, keepT, ↓lenV, binV, ↓unV, ↓loadV, ↓storeV, ↓fieldAddrV, ↓indexAddrV, ↓allocV, ↓nilV, ↓ifaceV, GVal.cells, GVal.ofConst, ↓resV, resG, ↓reduceIte, reduceEqDiff, reduceAdd, reduceSub, reduceLeDiff, reduceCtorEq, ↓lookupV, ↓mapUpdateV, keyOk, keyCells, pairG, Tag.cap, GVal.solid, Nat.reduceBEq, reduceMul, reduceLT, vcA, ↓vcB, vcC, fbFy, e70, vcD]
  refine (cMapClone (O := gObj st s m) rfl rfl).mono ?_
  rintro g O' ⟨s2, rfl, rfl⟩
  simp +contextual -implicitDefEqProofs (maxSteps := 2000000) (disch := omega) only [drawC, drawK, keepT, ↓lenV, binV, ↓unV, ↓loadV, ↓storeV, ↓fieldAddrV, ↓indexAddrV, ↓allocV, ↓nilV, ↓ifaceV, GVal.cells, GVal.ofConst, ↓resV, resG, ↓reduceIte, reduceEqDiff, reduceAdd, reduceSub, reduceLeDiff, reduceCtorEq, ↓lookupV, ↓mapUpdateV, keyOk, keyCells, pairG, Tag.cap, GVal.solid, Nat.reduceBEq, reduceMul, reduceLT, vcA, ↓vcB, vcC, fbFy, e70, csG_len, vcD]
  refine vcSLoop_by (ι := { p : Nat × GM // p.1 ≤ cs.length ∧ joinP m cs = joinP p.2 (cs.drop p.1) ∧ ∀ h l, look p.2 h = some l → l.length ≤ 1000000 }) (fun p => ⟨List.replicate 6 .any ++ [.map 2 s2] ++ List.replicate 9 .any ++ [.slice (csG cs) tc, .int .i64 cs.length, .int .i64 (p.1.1 : Nat)] ++ List.replicate 32 .any, [.row st 1 [[.map 1 s]], .map s (kvG encL m), .map s2 (kvG encL p.1.2)]⟩) (fun p => cs.length - p.1.1) ?_ ?_
  · exact Into.first ⟨(0, m), by show 0 ≤ _; omega, by simp, hm⟩ ⟨[], by simp⟩ (by simp [WL, leG_self, leG_any, leG_int])
  · rintro ⟨⟨k, M⟩, hk, hf, hM⟩
    change k ≤ cs.length at hk
    change joinP m cs = joinP M (cs.drop k) at hf
    change ∀ h l, look M h = some l → l.length ≤ 1000000 at hM
    by_cases h : k < cs.length
    · have d0 : ((k : Int) < (cs.length : Int)) = True := eq_true (by omega)
      have eS := csG_at cs k h
      have hx := hp _ (memC h)
      rw [joinP_drop _ _ _ h] at hf
      generalize cs.getD k default = x at *
      obtain ⟨xh, xp⟩ := x
      change xp.length ≤ 1000000 at hx
      cases el : look M xh with
      | some l =>
        obtain ⟨i, hi, hv, _⟩ := look_idx encL M xh l el
        have hl := hM xh l el
        have cE := gEqual l xp .none .none (by omega)
        by_cases e : l = xp
        · have ej : joinE M (xh, xp) = .ok M := by unfold joinE; simp only [el]; rw [if_pos e]
          rw [ej] at hf
          rw [decide_eq_true e] at cE
          simp +contextual -implicitDefEqProofs (maxSteps := 2000000) (disch := omega) only [drawC, drawK, keepT, ↓lenV, binV, ↓unV, ↓loadV, ↓storeV, ↓fieldAddrV, ↓indexAddrV, ↓allocV, ↓nilV, ↓ifaceV, GVal.cells, GVal.ofConst, ↓resV, resG, ↓reduceIte, reduceEqDiff, reduceAdd, reduceSub, reduceLeDiff, reduceCtorEq, ↓lookupV, ↓mapUpdateV, keyOk, keyCells, pairG, Tag.cap, GVal.solid, Nat.reduceBEq, reduceMul, reduceLT, vcA, ↓vcB, vcC, fbFy, e70, csG_len, hsG_len, comG, kfind_h, hi, hv, d0, eS, vcD, v33, v32]
          refine ⟨by omega, fun u => ?_⟩
          refine cE.then ?_ (by rfl)
          simp +contextual -implicitDefEqProofs (maxSteps := 2000000) (disch := omega) only [drawC, drawK, keepT, ↓lenV, binV, ↓unV, ↓loadV, ↓storeV, ↓fieldAddrV, ↓indexAddrV, ↓allocV, ↓nilV, ↓ifaceV, GVal.cells, GVal.ofConst, ↓resV, resG, ↓reduceIte, reduceEqDiff, reduceAdd, reduceSub, reduceLeDiff, reduceCtorEq, ↓lookupV, ↓mapUpdateV, keyOk, keyCells, pairG, Tag.cap, GVal.solid, Nat.reduceBEq, reduceMul, reduceLT, vcA, ↓vcB, vcC, fbFy, e70, vcD]
          exact Into.at ⟨(k + 1, M), by show k + 1 ≤ _; omega, hf, hM⟩ (by show _ < _; simp; omega) ⟨_, rfl⟩ (by simp [WL, leG_self, leG_any, leG_int])
        · have ej : joinE M (xh, xp) = .error (xh, 9) := by unfold joinE; simp only [el]; rw [if_neg e]
          rw [ej] at hf
          rw [decide_eq_false e] at cE
          simp +contextual -implicitDefEqProofs (maxSteps := 2000000) (disch := omega) only [drawC, drawK, keepT, ↓lenV, binV, ↓unV, ↓loadV, ↓storeV, ↓fieldAddrV, ↓indexAddrV, ↓allocV, ↓nilV, ↓ifaceV, GVal.cells, GVal.ofConst, ↓resV, resG, ↓reduceIte, reduceEqDiff, reduceAdd, reduceSub, reduceLeDiff, reduceCtorEq, ↓lookupV, ↓mapUpdateV, keyOk, keyCells, pairG, Tag.cap, GVal.solid, Nat.reduceBEq, reduceMul, reduceLT, vcA, ↓vcB, vcC, fbFy, e70, csG_len, hsG_len, comG, kfind_h, hi, hv, d0, eS, vcD, v33, v32]
          refine ⟨by omega, fun u => ?_⟩
          refine cE.then ?_ (by rfl)
          simp +contextual -implicitDefEqProofs (maxSteps := 2000000) (disch := omega) only [drawC, drawK, keepT, ↓lenV, binV, ↓unV, ↓loadV, ↓storeV, ↓fieldAddrV, ↓indexAddrV, ↓allocV, ↓nilV, ↓ifaceV, GVal.cells, GVal.ofConst, ↓resV, resG, ↓reduceIte, reduceEqDiff, reduceAdd, reduceSub, reduceLeDiff, reduceCtorEq, ↓lookupV, ↓mapUpdateV, keyOk, keyCells, pairG, Tag.cap, GVal.solid, Nat.reduceBEq, reduceMul, reduceLT, vcA, ↓vcB, vcC, fbFy, e70, csG_len, hsG_len, comG, vcD, v33, v32]
          refine (gOf xh 9).then ?_ (by rfl)
          simp +contextual -implicitDefEqProofs (maxSteps := 2000000) (disch := omega) only [drawC, drawK, keepT, ↓lenV, binV, ↓unV, ↓loadV, ↓storeV, ↓fieldAddrV, ↓indexAddrV, ↓allocV, ↓nilV, ↓ifaceV, GVal.cells, GVal.ofConst, ↓resV, resG, ↓reduceIte, reduceEqDiff, reduceAdd, reduceSub, reduceLeDiff, reduceCtorEq, ↓lookupV, ↓mapUpdateV, keyOk, keyCells, pairG, Tag.cap, GVal.solid, Nat.reduceBEq, reduceMul, reduceLT, vcA, ↓vcB, vcC, fbFy, e70, vcD]
          rw [hf]
          exact ⟨_, gObj st s m, _, rfl, leA_refl _, 0, rfl, rfl⟩
      | none =>
        obtain ⟨hi, hw⟩ := look_none encL M xh el
        have ej : joinE M (xh, xp) = .ok (mset M xh xp) := by unfold joinE; simp only [el]
        rw [ej] at hf
        have hw := hw xp
        have cC := gCloneP xp .none (by omega) (by simp)
        simp +contextual -implicitDefEqProofs (maxSteps := 2000000) (disch := omega) only [drawC, drawK, keepT, ↓lenV, binV, ↓unV, ↓loadV, ↓storeV, ↓fieldAddrV, ↓indexAddrV, ↓allocV, ↓nilV, ↓ifaceV, GVal.cells, GVal.ofConst, ↓resV, resG, ↓reduceIte, reduceEqDiff, reduceAdd, reduceSub, reduceLeDiff, reduceCtorEq, ↓lookupV, ↓mapUpdateV, keyOk, keyCells, pairG, Tag.cap, GVal.solid, Nat.reduceBEq, reduceMul, reduceLT, vcA, ↓vcB, vcC, fbFy, e70, csG_len, hsG_len, comG, kfind_h, hi, d0, eS, vcD, v33, v32]
        refine ⟨by omega, fun u => ?_⟩
        refine cC.then ?_ (by rfl)
        simp +contextual -implicitDefEqProofs (maxSteps := 2000000) (disch := omega) only [drawC, drawK, keepT, ↓lenV, binV, ↓unV, ↓loadV, ↓storeV, ↓fieldAddrV, ↓indexAddrV, ↓allocV, ↓nilV, ↓ifaceV, GVal.cells, GVal.ofConst, ↓resV, resG, ↓reduceIte, reduceEqDiff, reduceAdd, reduceSub, reduceLeDiff, reduceCtorEq, ↓lookupV, ↓mapUpdateV, keyOk, keyCells, pairG, Tag.cap, GVal.solid, Nat.reduceBEq, reduceMul, reduceLT, vcA, ↓vcB, vcC, fbFy, e70, kfind_h, hi, hw, solidH, len32, vcD]
        refine ⟨⟨[], rfl⟩, ?_⟩
        refine Into.at ⟨(k + 1, mset M xh xp), by show k + 1 ≤ _; omega, hf, fun h l e => ?_⟩ (by show _ < _; simp; omega) ⟨[.row u 33 [comG (xh, xp)]], rfl⟩ (by simp [WL, leG_self, leG_any, leG_int])
        simp only [look_mset] at e
        split at e
        · cases e; exact hx
        · exact hM h l e
    · have d0 : ((k : Int) < (cs.length : Int)) = False := eq_false (by omega)
      rw [List.drop_of_length_le (by omega), joinP] at hf
      simp +contextual -implicitDefEqProofs (maxSteps := 2000000) (disch := omega) only [drawC, drawK, keepT, ↓lenV, binV, ↓unV, ↓loadV, ↓storeV, ↓fieldAddrV, ↓indexAddrV, ↓allocV, ↓nilV, ↓ifaceV, GVal.cells, GVal.ofConst, ↓resV, resG, ↓reduceIte, reduceEqDiff, reduceAdd, reduceSub, reduceLeDiff, reduceCtorEq, ↓lookupV, ↓mapUpdateV, keyOk, keyCells, pairG, Tag.cap, GVal.solid, Nat.reduceBEq, reduceMul, reduceLT, vcA, ↓vcB, vcC, fbFy, e70, csG_len, d0, vcD]
      rw [hf]
      exact ⟨_, _, [], (List.append_nil _).symm, leA_refl _, s2, rfl, rfl⟩
def nowhere (M : GM) (n : Int) (p : Hs) : Er := match look M p with
  | some _ => none
  | none => some (some p, n)
def lackP (M : GM) (cs : List Cm) (hs : List Hs) : Er := match cs.findSome? (fun c => c.2.findSome? (nowhere M 10)) with
  | some e => some e
  | none => hs.findSome? (nowhere M 11)
theorem findH {f : Hs → Er} {l : List Hs} {k : Nat} (h : k < l.length) : (l.drop k).findSome? f = match f (l.getD k h0) with
  | some e => some e
  | none => (l.drop (k + 1)).findSome? f := by
  rw [dropH h, List.findSome?_cons]
  cases f (l.getD k h0) <;> rfl
theorem findC {f : Cm → Er} {l : List Cm} {k : Nat} (h : k < l.length) : (l.drop k).findSome? f = match f (l.getD k default) with
  | some e => some e
  | none => (l.drop (k + 1)).findSome? f := by
  rw [dropC h, List.findSome?_cons]
  cases f (l.getD k default) <;> rfl
theorem gLacking (M : GM) (cs : List Cm) (hs : List Hs) (th : Tag) (gr : Int) (s : Nat) (hc : cs.length ≤ 1000000) (hh : hs.length ≤ 1000000) (hp : ∀ c ∈ cs, c.2.length ≤ 1000000) :
    GCalls Tryz.prog 71 [.map 0 s, .agg (reqG cs hs th gr)] [.map s (kvG encL M)] (fun g O' => ∃ x', O' = [x'] ∧ (g = errV (lackP M cs hs) ∧ x' = .map s (kvG encL M))) := by
  refine GCalls.dropTo ?_
  refine h71.calls mixS (by simp) ?_
  simp only [gstart, s71, List.cons_append, List.nil_append, List.length_cons, List.length_nil, reduceAdd, reduceSub, List.replicate_succ, List.replicate_zero]
  simp +contextual -implicitDefEqProofs (maxSteps := 2000000) (disch := omega) only [↓lenV, binV, ↓unV, ↓loadV, ↓storeV, ↓fieldAddrV, ↓indexAddrV, ↓allocV, ↓boxV, ↓ifaceV, GVal.cells, GVal.ofConst, ↓resV, resG, ↓reduceIte, reduceEqDiff, reduceAdd, reduceSub, reduceLeDiff, reduceCtorEq, ↓lookupV, keyOk, keyCells, pairG, Tag.cap, GVal.solid, Nat.reduceBEq, reduceMul, reduceLT, vcA, ↓vcB, vcC, fbFy, e71, csG_len, vcD]
  refine vcSLoop_by (ι := { k : Nat // k ≤ cs.length ∧ cs.findSome? (fun c => c.2.findSome? (nowhere M 10)) = (cs.drop k).findSome? (fun c => c.2.findSome? (nowhere M 10)) }) (fun k => ⟨[.map 0 s, .any, .any, .ref (reqG cs hs th gr)] ++ List.replicate 12 .any ++ [.slice (csG cs) .none, .int .i64 cs.length, .int .i64 (k.1 : Nat)] ++ List.replicate 42 .any, [.map s (kvG encL M)]⟩) (fun k => cs.length - k.1) ?_ ?_
  · exact Into.first ⟨0, by omega, by simp⟩ ⟨[], by simp⟩ (by simp [WL, leG_self, leG_any, leG_int])
  · rintro ⟨k, hk, hf⟩
    by_cases h : k < cs.length
    · have d0 : ((k : Int) < (cs.length : Int)) = True := eq_true (by omega)
      have eS := csG_at cs k h
      have hx := hp _ (memC h)
      rw [findC h] at hf
      generalize cs.getD k default = x at *
      obtain ⟨xh, xp⟩ := x
      change xp.length ≤ 1000000 at hx
      simp only at hf
      simp +contextual -implicitDefEqProofs (maxSteps := 2000000) (disch := omega) only [↓lenV, binV, ↓unV, ↓loadV, ↓storeV, ↓fieldAddrV, ↓indexAddrV, ↓allocV, ↓boxV, ↓ifaceV, GVal.cells, GVal.ofConst, ↓resV, resG, ↓reduceIte, reduceEqDiff, reduceAdd, reduceSub, reduceLeDiff, reduceCtorEq, ↓lookupV, keyOk, keyCells, pairG, Tag.cap, GVal.solid, Nat.reduceBEq, reduceMul, reduceLT, vcA, ↓vcB, vcC, fbFy, e71, csG_len, hsG_len, comG, kfind_h, d0, eS, vcD, v33, v32]
      refine ⟨by omega, fun u => ?_⟩
      refine vcSLoop_by (ι := { j : Nat // j ≤ xp.length ∧ xp.findSome? (nowhere M 10) = (xp.drop j).findSome? (nowhere M 10) }) (fun j => ⟨[.map 0 s, .any, .any, .ref (reqG cs hs th gr)] ++ List.replicate 12 .any ++ [.slice (csG cs) .none, .int .i64 cs.length, .int .i64 (k : Nat)] ++ List.replicate 4 .any ++ [.slice (hsG xp) .none, .int .i64 xp.length, .int .i64 (j.1 : Nat)] ++ List.replicate 35 .any, [.map s (kvG encL M)]⟩) (fun j => xp.length - j.1) ?_ ?_
      · exact Into.first ⟨0, by omega, by simp⟩ ⟨_, rfl⟩ (by simp [WL, leG_self, leG_any, leG_int])
      · rintro ⟨j, hj, hf2⟩
        by_cases h2 : j < xp.length
        · have d1 : ((j : Int) < (xp.length : Int)) = True := eq_true (by omega)
          have eP := hsG_at xp j h2
          rw [findH h2] at hf2
          generalize xp.getD j h0 = p at *
          cases el : look M p with
          | some l =>
            obtain ⟨i, hi, hv, _⟩ := look_idx encL M p l el
            have en : nowhere M 10 p = none := by unfold nowhere; rw [el]
            rw [en] at hf2
            simp +contextual -implicitDefEqProofs (maxSteps := 2000000) (disch := omega) only [↓lenV, binV, ↓unV, ↓loadV, ↓storeV, ↓fieldAddrV, ↓indexAddrV, ↓allocV, ↓boxV, ↓ifaceV, GVal.cells, GVal.ofConst, ↓resV, resG, ↓reduceIte, reduceEqDiff, reduceAdd, reduceSub, reduceLeDiff, reduceCtorEq, ↓lookupV, keyOk, keyCells, pairG, Tag.cap, GVal.solid, Nat.reduceBEq, reduceMul, reduceLT, vcA, ↓vcB, vcC, fbFy, e71, csG_len, hsG_len, comG, kfind_h, d1, eP, hi, hv, vcD, v33, v32]
            refine ⟨by omega, fun u => ?_⟩
            exact Into.at ⟨j + 1, by omega, hf2⟩ (by show _ < _; simp; omega) ⟨_, rfl⟩ (by simp [WL, leG_self, leG_any, leG_int])
          | none =>
            obtain ⟨hi, _⟩ := look_none encL M p el
            have en : nowhere M 10 p = some (some p, 10) := by unfold nowhere; rw [el]
            rw [en] at hf2
            rw [hf2] at hf
            simp +contextual -implicitDefEqProofs (maxSteps := 2000000) (disch := omega) only [↓lenV, binV, ↓unV, ↓loadV, ↓storeV, ↓fieldAddrV, ↓indexAddrV, ↓allocV, ↓boxV, ↓ifaceV, GVal.cells, GVal.ofConst, ↓resV, resG, ↓reduceIte, reduceEqDiff, reduceAdd, reduceSub, reduceLeDiff, reduceCtorEq, ↓lookupV, keyOk, keyCells, pairG, Tag.cap, GVal.solid, Nat.reduceBEq, reduceMul, reduceLT, vcA, ↓vcB, vcC, fbFy, e71, csG_len, hsG_len, comG, kfind_h, d1, eP, hi, vcD, v33, v32]
            refine ⟨by omega, fun u => ?_⟩
            refine (gOf p 10).then ?_ (by rfl)
            simp +contextual -implicitDefEqProofs (maxSteps := 2000000) (disch := omega) only [↓lenV, binV, ↓unV, ↓loadV, ↓storeV, ↓fieldAddrV, ↓indexAddrV, ↓allocV, ↓boxV, ↓ifaceV, GVal.cells, GVal.ofConst, ↓resV, resG, ↓reduceIte, reduceEqDiff, reduceAdd, reduceSub, reduceLeDiff, reduceCtorEq, ↓lookupV, keyOk, keyCells, pairG, Tag.cap, GVal.solid, Nat.reduceBEq, reduceMul, reduceLT, vcA, ↓vcB, vcC, fbFy, e71, vcD]
            have e : lackP M cs hs = some (some p, 10) := by unfold lackP; rw [hf]
            rw [e]
            exact ⟨_, [.map s (kvG encL M)], _, rfl, leA_refl _, _, rfl, rfl, rfl⟩
        · have d1 : ((j : Int) < (xp.length : Int)) = False := eq_false (by omega)
          rw [List.drop_of_length_le (by omega)] at hf2
          rw [hf2] at hf
          simp +contextual -implicitDefEqProofs (maxSteps := 2000000) (disch := omega) only [↓lenV, binV, ↓unV, ↓loadV, ↓storeV, ↓fieldAddrV, ↓indexAddrV, ↓allocV, ↓boxV, ↓ifaceV, GVal.cells, GVal.ofConst, ↓resV, resG, ↓reduceIte, reduceEqDiff, reduceAdd, reduceSub, reduceLeDiff, reduceCtorEq, ↓lookupV, keyOk, keyCells, pairG, Tag.cap, GVal.solid, Nat.reduceBEq, reduceMul, reduceLT, vcA, ↓vcB, vcC, fbFy, e71, csG_len, hsG_len, comG, kfind_h, d1, vcD, v33, v32]
          exact Into.at ⟨k + 1, by omega, hf⟩ (by show _ < _; simp; omega) ⟨[], by simp⟩ (by simp [WL, leG_self, leG_any, leG_int])
    · have d0 : ((k : Int) < (cs.length : Int)) = False := eq_false (by omega)
      rw [List.drop_of_length_le (by omega)] at hf
      have eL : lackP M cs hs = hs.findSome? (nowhere M 11) := by unfold lackP; rw [hf]; rfl
      rw [eL]
      simp +contextual -implicitDefEqProofs (maxSteps := 2000000) (disch := omega) only [↓lenV, binV, ↓unV, ↓loadV, ↓storeV, ↓fieldAddrV, ↓indexAddrV, ↓allocV, ↓boxV, ↓ifaceV, GVal.cells, GVal.ofConst, ↓resV, resG, ↓reduceIte, reduceEqDiff, reduceAdd, reduceSub, reduceLeDiff, reduceCtorEq, ↓lookupV, keyOk, keyCells, pairG, Tag.cap, GVal.solid, Nat.reduceBEq, reduceMul, reduceLT, vcA, ↓vcB, vcC, fbFy, e71, csG_len, hsG_len, comG, kfind_h, d0, vcD, v33, v32]
      refine vcSLoop_by (ι := { k : Nat // k ≤ hs.length ∧ hs.findSome? (nowhere M 11) = (hs.drop k).findSome? (nowhere M 11) }) (fun k => ⟨[.map 0 s, .any, .any, .ref (reqG cs hs th gr)] ++ List.replicate 39 .any ++ [.slice (hsG hs) th, .int .i64 hs.length, .int .i64 (k.1 : Nat)] ++ List.replicate 15 .any, [.map s (kvG encL M)]⟩) (fun k => hs.length - k.1) ?_ ?_
      · exact Into.first ⟨0, by omega, by simp⟩ ⟨[], by simp⟩ (by simp [WL, leG_self, leG_any, leG_int])
      · rintro ⟨j, hj, hf2⟩
        by_cases h2 : j < hs.length
        · have d1 : ((j : Int) < (hs.length : Int)) = True := eq_true (by omega)
          have eP := hsG_at hs j h2
          rw [findH h2] at hf2
          generalize hs.getD j h0 = p at *
          cases el : look M p with
          | some l =>
            obtain ⟨i, hi, hv, _⟩ := look_idx encL M p l el
            have en : nowhere M 11 p = none := by unfold nowhere; rw [el]
            rw [en] at hf2
            simp +contextual -implicitDefEqProofs (maxSteps := 2000000) (disch := omega) only [↓lenV, binV, ↓unV, ↓loadV, ↓storeV, ↓fieldAddrV, ↓indexAddrV, ↓allocV, ↓boxV, ↓ifaceV, GVal.cells, GVal.ofConst, ↓resV, resG, ↓reduceIte, reduceEqDiff, reduceAdd, reduceSub, reduceLeDiff, reduceCtorEq, ↓lookupV, keyOk, keyCells, pairG, Tag.cap, GVal.solid, Nat.reduceBEq, reduceMul, reduceLT, vcA, ↓vcB, vcC, fbFy, e71, csG_len, hsG_len, comG, kfind_h, d1, eP, hi, hv, vcD, v33, v32]
            refine ⟨by omega, fun u => ?_⟩
            exact Into.at ⟨j + 1, by omega, hf2⟩ (by show _ < _; simp; omega) ⟨_, rfl⟩ (by simp [WL, leG_self, leG_any, leG_int])
          | none =>
            obtain ⟨hi, _⟩ := look_none encL M p el
            have en : nowhere M 11 p = some (some p, 11) := by unfold nowhere; rw [el]
            rw [en] at hf2
            simp +contextual -implicitDefEqProofs (maxSteps := 2000000) (disch := omega) only [↓lenV, binV, ↓unV, ↓loadV, ↓storeV, ↓fieldAddrV, ↓indexAddrV, ↓allocV, ↓boxV, ↓ifaceV, GVal.cells, GVal.ofConst, ↓resV, resG, ↓reduceIte, reduceEqDiff, reduceAdd, reduceSub, reduceLeDiff, reduceCtorEq, ↓lookupV, keyOk, keyCells, pairG, Tag.cap, GVal.solid, Nat.reduceBEq, reduceMul, reduceLT, vcA, ↓vcB, vcC, fbFy, e71, csG_len, hsG_len, comG, kfind_h, d1, eP, hi, vcD, v33, v32]
            refine ⟨by omega, fun u => ?_⟩
            refine (gOf p 11).then ?_ (by rfl)
            simp +contextual -implicitDefEqProofs (maxSteps := 2000000) (disch := omega) only [↓lenV, binV, ↓unV, ↓loadV, ↓storeV, ↓fieldAddrV, ↓indexAddrV, ↓allocV, ↓boxV, ↓ifaceV, GVal.cells, GVal.ofConst, ↓resV, resG, ↓reduceIte, reduceEqDiff, reduceAdd, reduceSub, reduceLeDiff, reduceCtorEq, ↓lookupV, keyOk, keyCells, pairG, Tag.cap, GVal.solid, Nat.reduceBEq, reduceMul, reduceLT, vcA, ↓vcB, vcC, fbFy, e71, vcD]
            rw [hf2]
            exact ⟨_, [.map s (kvG encL M)], _, rfl, leA_refl _, _, rfl, rfl, rfl⟩
        · have d1 : ((j : Int) < (hs.length : Int)) = False := eq_false (by omega)
          rw [List.drop_of_length_le (by omega)] at hf2
          simp +contextual -implicitDefEqProofs (maxSteps := 2000000) (disch := omega) only [↓lenV, binV, ↓unV, ↓loadV, ↓storeV, ↓fieldAddrV, ↓indexAddrV, ↓allocV, ↓boxV, ↓ifaceV, GVal.cells, GVal.ofConst, ↓resV, resG, ↓reduceIte, reduceEqDiff, reduceAdd, reduceSub, reduceLeDiff, reduceCtorEq, ↓lookupV, keyOk, keyCells, pairG, Tag.cap, GVal.solid, Nat.reduceBEq, reduceMul, reduceLT, vcA, ↓vcB, vcC, fbFy, e71, csG_len, hsG_len, comG, kfind_h, d1, vcD, v33, v32]
          rw [hf2]
          exact ⟨_, [.map s (kvG encL M)], [], rfl, leA_refl _, _, rfl, rfl, rfl⟩
end Gv.Tryz
/- Contracts: graph's reached: all that next steps lead to. -/
set_option linter.unusedVariables false
set_option linter.unusedSimpArgs false
set_option maxRecDepth 20000
set_option maxHeartbeats 4000000
namespace Gv.Tryz
open Go Gv Go.Proofs
open Nat (reduceEqDiff reduceAdd reduceSub reduceLeDiff reduceMul reduceLT)
inductive Reach (nx : Hs → List Hs) (l : List Hs) : Hs → Prop
  | base (x : Hs) : x ∈ l → Reach nx l x
  | step (x y : Hs) : Reach nx l x → y ∈ nx x → Reach nx l y
structure RInv (nx : Hs → List Hs) (U l S todo : List Hs) : Prop where
  nodup : S.Nodup
  inU : ∀ x, x ∈ S ∨ x ∈ todo → x ∈ U
  start : ∀ x ∈ l, x ∈ S ∨ x ∈ todo
  step : ∀ x ∈ S, ∀ y ∈ nx x, y ∈ S ∨ y ∈ todo
  sound : ∀ x, x ∈ S ∨ x ∈ todo → Reach nx l x
theorem nodup_lenH : ∀ (l A : List Hs), l.Nodup → (∀ x ∈ l, x ∈ A) → l.length ≤ A.length
  | [], _, _, _ => by simp
  | x :: l, A, hn, h => by
    have hx := h x (by simp)
    obtain ⟨h1, h2⟩ := List.nodup_cons.1 hn
    have := nodup_lenH l (A.erase x) h2 fun y hy => (List.mem_erase_of_ne (fun e => h1 (by rw [← e]; exact hy))).2 (h y (by simp [hy]))
    rw [List.length_erase_of_mem hx] at this
    have := List.length_pos_of_mem hx
    simp only [List.length_cons]; omega
theorem RInv.len {nx : Hs → List Hs} {U l S todo : List Hs} (h : RInv nx U l S todo) : S.length ≤ U.length := nodup_lenH S U h.nodup fun x hx => h.inU x (.inl hx)
theorem RInv.skip {nx : Hs → List Hs} {U l S t : List Hs} {x : Hs} (h : RInv nx U l S (t ++ [x])) (hx : x ∈ S) : RInv nx U l S t := by
  have hm : ∀ y, y ∈ S ∨ y ∈ t ++ [x] → y ∈ S ∨ y ∈ t := fun y hy => by
    rcases hy with q | q
    · exact .inl q
    · rcases List.mem_append.1 q with q | q
      · exact .inr q
      · rw [List.mem_singleton.1 q]; exact .inl hx
  have hb : ∀ y, y ∈ S ∨ y ∈ t → y ∈ S ∨ y ∈ t ++ [x] := fun y hy => hy.imp id fun q => List.mem_append_left _ q
  exact ⟨h.nodup, fun y hy => h.inU y (hb y hy), fun y hy => hm y (h.start y hy), fun y hy z hz => hm z (h.step y hy z hz), fun y hy => h.sound y (hb y hy)⟩
theorem RInv.go {nx : Hs → List Hs} {U l S t : List Hs} {x : Hs} (h : RInv nx U l S (t ++ [x])) (hx : x ∉ S) (hU : ∀ y ∈ nx x, y ∈ U) : RInv nx U l (S ++ [x]) (t ++ nx x) := by
  have hxU : x ∈ U := h.inU x (.inr (by simp))
  have hxR : Reach nx l x := h.sound x (.inr (by simp))
  have hm : ∀ y, y ∈ S ∨ y ∈ t ++ [x] → y ∈ S ++ [x] ∨ y ∈ t ++ nx x := fun y hy => by
    rcases hy with q | q
    · exact .inl (List.mem_append_left _ q)
    · rcases List.mem_append.1 q with q | q
      · exact .inr (List.mem_append_left _ q)
      · exact .inl (List.mem_append_right _ q)
  have hb : ∀ y, y ∈ S ++ [x] ∨ y ∈ t ++ nx x → y ∈ S ∨ y ∈ t ∨ y = x ∨ y ∈ nx x := fun y hy => by
    simp only [List.mem_append, List.mem_singleton] at hy
    rcases hy with (q | q) | (q | q)
    · exact .inl q
    · exact .inr (.inr (.inl q))
    · exact .inr (.inl q)
    · exact .inr (.inr (.inr q))
  refine ⟨?_, fun y hy => ?_, fun y hy => hm y (h.start y hy), fun y hy z hz => ?_, fun y hy => ?_⟩
  · rw [List.nodup_append]
    exact ⟨h.nodup, by simp, fun a ha b hb => by rw [List.mem_singleton.1 hb]; exact fun e => hx (e ▸ ha)⟩
  · rcases hb y hy with q | q | q | q
    · exact h.inU y (.inl q)
    · exact h.inU y (.inr (List.mem_append_left _ q))
    · rw [q]; exact hxU
    · exact hU y q
  · rcases List.mem_append.1 hy with q | q
    · exact hm z (h.step y q z hz)
    · rw [List.mem_singleton.1 q] at hz
      exact .inr (List.mem_append_right _ hz)
  · rcases hb y hy with q | q | q | q
    · exact h.sound y (.inl q)
    · exact h.sound y (.inr (List.mem_append_left _ q))
    · rw [q]; exact hxR
    · exact .step x y hxR q
theorem RInv.fin {nx : Hs → List Hs} {U l S : List Hs} (h : RInv nx U l S []) (x : Hs) : x ∈ S ↔ Reach nx l x := by
  constructor
  · exact fun hx => h.sound x (.inl hx)
  · intro hr
    induction hr with
    | base x hx => exact (h.start x hx).resolve_right (by simp)
    | step x y _ hy ih => exact (h.step x ih y hy).resolve_right (by simp)
abbrev setM (S : List Hs) : List (Hs × Bool) := S.map fun h => (h, true)
theorem look_set (S : List Hs) (h : Hs) : look (setM S) h = if h ∈ S then some true else none := by
  induction S with
  | nil => rfl
  | cons a r ih =>
    rw [show setM (a :: r) = (a, true) :: setM r from rfl, look, ih]
    by_cases e : h = a
    · simp [e]
    · simp [e]
theorem mset_set (S : List Hs) (h : Hs) (hn : h ∉ S) : mset (setM S) h true = setM (S ++ [h]) := by
  induction S with
  | nil => rfl
  | cons a r ih =>
    rw [show setM (a :: r) = (a, true) :: setM r from rfl, mset, if_neg (fun e => hn (by simp [e])), ih fun q => hn (by simp [q])]
    rfl
def rMu (u k s t : Nat) : Nat := (u - s) * (k + 1) + t
theorem gReached {F : FuncId} {caps : List GVal} {a b : GObj} (nx : Hs → List Hs) (hN : ∀ h : Hs, GCalls Tryz.prog F (.agg (bytesG h.1) :: caps) [a, b] (fun g O' => g = .slice (hsG (nx h)) .none ∧ O' = [a, b])) (ha : a.isClock = false)
    (l : List Hs) (t : Tag) (ht : t = .nil → l = []) (U : List Hs) (hU : ∀ x ∈ l, x ∈ U) (hnU : ∀ x ∈ U, ∀ y ∈ nx x, y ∈ U) (K : Nat) (hK : ∀ x ∈ U, (nx x).length ≤ K) (hUl : U.length ≤ 100000) (hKl : K ≤ 100000) (hl : l.length ≤ 1000000) :
    GCalls Tryz.prog 46 [.slice (hsG l) t, .func (.func F) [] caps] [a, b] (fun g O' => ∃ st S, g = .map 2 st ∧ O' = [a, b, .map st (kvG encB (setM S))] ∧ S.Nodup ∧ (∀ x, x ∈ S ↔ Reach nx l x) ∧ S.length ≤ U.length) := by
  have hcl : ∀ Y, clockOf (a :: Y) = none := fun Y => by cases a <;> first | rfl | cases ha
  have hst : ∀ (r : List GObj) (K : Nat → Prop), stamp (a :: r) K = ∀ st, K st := fun r K => by unfold stamp; rw [hcl]
  have htk : ∀ r : List GObj, tickO (a :: r) = a :: r := fun r => tickO_none (hcl r)
  refine GCalls.dropTo ?_
  refine h46.calls mixS (by simp) ?_
  simp only [gstart, s46, List.cons_append, List.nil_append, List.length_cons, List.length_nil, reduceAdd, reduceSub, List.replicate_succ, List.replicate_zero]
  simp +contextual -implicitDefEqProofs (maxSteps := 2000000) (disch := omega) only [↓lenV, binV, ↓unV, optV, ↓loadV, ↓storeV, ↓indexAddrV, ↓allocV, ↓sliceV, ↓appendV, ↓srcV, bound, cutTag, hiTag, GVal.cells, GVal.ofConst, ↓resV, resG, ↓reduceIte, reduceEqDiff, reduceAdd, reduceSub, reduceLeDiff, reduceCtorEq, ↓asrcV, ↓lookupV, ↓mapUpdateV, ↓makeMapV, keyOk, keyCells, pairG, Tag.cap, GVal.solid, Nat.reduceBEq, reduceMul, reduceLT, vcA, ↓vcB, vcC, fbFy, e46, hst, htk, vcD]
  intro sm
  refine (GCalls.newUp (hClone l t (by omega) ht) (hcl _) (by rintro g O' (⟨_, rfl, rfl⟩ | ⟨st, rfl, rfl⟩) <;> rfl)).mono ?_
  rintro g O' ⟨g0, O1, hO, rfl, rfl⟩
  have inv0 : RInv nx U l [] l := ⟨List.nodup_nil, fun x hx => hU x (by simpa using hx), fun x hx => .inr hx, fun x hx => by simp at hx, fun x hx => .base x (by simpa using hx)⟩
  have mu1 : ∀ u s n : Nat, rMu u K s n < rMu u K s (n + 1) := fun u s n => by unfold rMu; omega
  have mu2 : ∀ u s n m : Nat, s < u → m ≤ K → rMu u K (s + 1) (n + m) < rMu u K s (n + 1) := fun u s n m h1 h2 => by
    unfold rMu
    have : u - s = (u - (s + 1)) + 1 := by omega
    rw [this, Nat.add_mul]; omega
  simp +contextual -implicitDefEqProofs (maxSteps := 2000000) (disch := omega) only [↓lenV, binV, ↓unV, optV, ↓loadV, ↓storeV, ↓indexAddrV, ↓allocV, ↓sliceV, ↓appendV, ↓srcV, bound, cutTag, hiTag, GVal.cells, GVal.ofConst, ↓resV, resG, ↓reduceIte, reduceEqDiff, reduceAdd, reduceSub, reduceLeDiff, reduceCtorEq, ↓asrcV, ↓lookupV, ↓mapUpdateV, ↓makeMapV, keyOk, keyCells, pairG, Tag.cap, GVal.solid, Nat.reduceBEq, reduceMul, reduceLT, vcA, ↓vcB, vcC, fbFy, e46, hst, htk, vcD]
  refine vcSLoop_by (ι := { p : (List Hs × List Hs) × (List Hs × Nat) // RInv nx U l p.1.1 p.1.2 ∧ p.1.2.length ≤ l.length + K * p.1.1.length }) (fun p => ⟨[.any, .func (.func F) [] caps, .any, .any, .any, .map 2 sm, .own 3 p.1.2.2 0 p.1.1.2.length] ++ List.replicate 30 .any, [a, b, .map sm (kvG encB (setM p.1.1.1)), .row p.1.2.2 32 (hsG (p.1.1.2 ++ p.1.2.1))]⟩) (fun p => rMu U.length K p.1.1.1.length p.1.1.2.length) ?_ ?_
  · rcases hO with ⟨rfl, rfl, rfl⟩ | ⟨v0, rfl, rfl⟩
    · refine Into.row 6 32 rfl rfl ?_
      simp +contextual -implicitDefEqProofs (maxSteps := 2000000) (disch := omega) only [↓lenV, binV, ↓unV, optV, ↓loadV, ↓storeV, ↓indexAddrV, ↓allocV, ↓sliceV, ↓appendV, ↓srcV, bound, cutTag, hiTag, GVal.cells, GVal.ofConst, ↓resV, resG, ↓reduceIte, reduceEqDiff, reduceAdd, reduceSub, reduceLeDiff, reduceCtorEq, ↓asrcV, ↓lookupV, ↓mapUpdateV, ↓makeMapV, keyOk, keyCells, pairG, Tag.cap, GVal.solid, Nat.reduceBEq, reduceMul, reduceLT, vcA, ↓vcB, vcC, fbFy, e46, hst, htk, vcD]
      intro v
      exact Into.first ⟨(([], []), ([], v)), inv0, by simp⟩ ⟨[], rfl⟩ (by simp [WL, leG_self, leG_any])
    · exact Into.first ⟨(([], l), ([], v0)), inv0, by simp⟩ ⟨[], by simp [kvG]⟩ (by simp [WL, leG_self, leG_any, GVal.up])
  · rintro ⟨⟨⟨S, todo⟩, ⟨Z, v⟩⟩, inv, hlen⟩
    change RInv nx U l S todo at inv
    change todo.length ≤ l.length + K * S.length at hlen
    have hSl := inv.len
    have hKS : K * S.length ≤ 100000 * 100000 := Nat.mul_le_mul hKl (by omega)
    rcases List.eq_nil_or_concat todo with rfl | ⟨tt, x, e⟩
    · simp +contextual -implicitDefEqProofs (maxSteps := 2000000) (disch := omega) only [↓lenV, binV, ↓unV, optV, ↓loadV, ↓storeV, ↓indexAddrV, ↓allocV, ↓sliceV, ↓appendV, ↓srcV, bound, cutTag, hiTag, GVal.cells, GVal.ofConst, ↓resV, resG, ↓reduceIte, reduceEqDiff, reduceAdd, reduceSub, reduceLeDiff, reduceCtorEq, ↓asrcV, ↓lookupV, ↓mapUpdateV, ↓makeMapV, keyOk, keyCells, pairG, Tag.cap, GVal.solid, Nat.reduceBEq, reduceMul, reduceLT, vcA, ↓vcB, vcC, fbFy, e46, hst, htk, Int.lt_irrefl, false_imp_iff, true_and, List.length_nil, Int.natCast_zero, vcD]
      exact ⟨_, [a, b, .map sm (kvG encB (setM S))], _, rfl, leA_refl _, sm, S, rfl, rfl, inv.nodup, inv.fin, inv.len⟩
    · rw [List.concat_eq_append] at e
      subst e
      have d0 : ((0 : Int) < (tt.length : Int) + 1) = True := eq_true (by omega)
      have d1 : ((tt.length : Int) + 1 - 1).toNat = tt.length := by omega
      have eS : (hsG (tt ++ [x] ++ Z)).getD tt.length [] = bytesG x.1 := by
        rw [hsG_at _ _ (by simp)]
        simp [List.getD]
      have hl2 : tt.length + 1 ≤ l.length + K * S.length := by rw [List.length_append, List.length_singleton] at hlen; exact hlen
      have hxU : x ∈ U := inv.inU x (.inr (by simp))
      by_cases hx : x ∈ S
      · obtain ⟨i, hi, hv, _⟩ := look_idx encB (setM S) x true (by rw [look_set, if_pos hx])
        simp +contextual -implicitDefEqProofs (maxSteps := 2000000) (disch := omega) only [↓lenV, binV, ↓unV, optV, ↓loadV, ↓storeV, ↓indexAddrV, ↓allocV, ↓sliceV, ↓appendV, ↓srcV, bound, cutTag, hiTag, GVal.cells, GVal.ofConst, ↓resV, resG, ↓reduceIte, reduceEqDiff, reduceAdd, reduceSub, reduceLeDiff, reduceCtorEq, ↓asrcV, ↓lookupV, ↓mapUpdateV, ↓makeMapV, keyOk, keyCells, pairG, Tag.cap, GVal.solid, Nat.reduceBEq, reduceMul, reduceLT, vcA, ↓vcB, vcC, fbFy, e46, hst, htk, toNat0, Nat.sub_zero, hsG_len, d0, d1, eS, List.length_append, List.length_singleton, List.length_cons, List.length_nil, true_imp_iff, kfind_h, hi, hv, vcD, v32]
        refine ⟨by omega, by omega, by omega, by omega, fun u => ⟨by omega, by omega, by omega, ?_⟩⟩
        exact Into.at ⟨((S, tt), ([x] ++ Z, v)), inv.skip hx, by show tt.length ≤ l.length + K * S.length; omega⟩ (mu1 _ _ _) ⟨[.row u 32 [bytesG x.1]], by simp⟩ (by simp [WL, leG_self, leG_any])
      · obtain ⟨hi, hw⟩ := look_none encB (setM S) x (by rw [look_set, if_neg hx])
        have hw := hw true
        rw [mset_set S x hx] at hw
        have cN := (hN x).keep2 ha
        simp +contextual -implicitDefEqProofs (maxSteps := 2000000) (disch := omega) only [↓lenV, binV, ↓unV, optV, ↓loadV, ↓storeV, ↓indexAddrV, ↓allocV, ↓sliceV, ↓appendV, ↓srcV, bound, cutTag, hiTag, GVal.cells, GVal.ofConst, ↓resV, resG, ↓reduceIte, reduceEqDiff, reduceAdd, reduceSub, reduceLeDiff, reduceCtorEq, ↓asrcV, ↓lookupV, ↓mapUpdateV, ↓makeMapV, keyOk, keyCells, pairG, Tag.cap, GVal.solid, Nat.reduceBEq, reduceMul, reduceLT, vcA, ↓vcB, vcC, fbFy, e46, hst, htk, toNat0, Nat.sub_zero, hsG_len, d0, d1, eS, List.length_append, List.length_singleton, List.length_cons, List.length_nil, true_imp_iff, kfind_h, hi, hw, vcD, v32]
        have hkx := hK x hxU
        refine ⟨by omega, by omega, by omega, by omega, fun u => ⟨by omega, by omega, by omega, ?_⟩⟩
        refine (cN _).mono ?_
        rintro g O' ⟨rfl, rfl⟩
        simp +contextual -implicitDefEqProofs (maxSteps := 2000000) (disch := omega) only [↓lenV, binV, ↓unV, optV, ↓loadV, ↓storeV, ↓indexAddrV, ↓allocV, ↓sliceV, ↓appendV, ↓srcV, bound, cutTag, hiTag, GVal.cells, GVal.ofConst, ↓resV, resG, ↓reduceIte, reduceEqDiff, reduceAdd, reduceSub, reduceLeDiff, reduceCtorEq, ↓asrcV, ↓lookupV, ↓mapUpdateV, ↓makeMapV, keyOk, keyCells, pairG, Tag.cap, GVal.solid, Nat.reduceBEq, reduceMul, reduceLT, vcA, ↓vcB, vcC, fbFy, e46, hst, htk, toNat0, Nat.sub_zero, hsG_len, all_hsG, List.length_append, List.length_singleton, List.length_cons, List.length_nil, true_imp_iff, vcD]
        refine ⟨by omega, by omega, by omega, fun v2 => ?_⟩
        refine Into.at ⟨((S ++ [x], tt ++ nx x), ([], v2)), inv.go hx (hnU x hxU), ?_⟩ ?_ ⟨[.row u 32 [bytesG x.1]], ?_⟩ (by simp [WL, leG_self, leG_any])
        · show (tt ++ nx x).length ≤ l.length + K * (S ++ [x]).length
          rw [List.length_append, List.length_append, List.length_singleton, Nat.mul_add, Nat.mul_one]; omega
        · show rMu _ K (S ++ [x]).length (tt ++ nx x).length < rMu _ K S.length (tt.length + 1)
          rw [List.length_append, List.length_append, List.length_singleton]
          refine mu2 _ _ _ _ ?_ hkx
          have := (inv.go hx (hnU x hxU)).len
          rw [List.length_append, List.length_singleton] at this
          omega
        · show _ = [a, b, GObj.map sm (kvG encB (setM (S ++ [x]))), GObj.row v2 32 (hsG ((tt ++ nx x) ++ []))] ++ [GObj.row u 32 [bytesG x.1]]
          simp [hsG_app]
          exact List.take_left' (hsG_len tt)
end Gv.Tryz
/- Contracts: graph's round, joinedBy, Add, New. -/
set_option linter.unusedVariables false
set_option linter.unusedSimpArgs false
set_option maxRecDepth 20000
set_option maxHeartbeats 4000000
namespace Gv.Tryz
open Go Gv Go.Proofs
open Nat (reduceEqDiff reduceAdd reduceSub reduceLeDiff reduceMul reduceLT)
theorem parsM_some {m : GM} {h : Hs} {l : List Hs} (e : look m h = some l) : parsM m h = l := by rw [parsM, e]; rfl
theorem parsM_none {m : GM} {h : Hs} (e : look m h = none) : parsM m h = [] := by rw [parsM, e]; rfl
theorem gRound1 (a : GObj) (M : GM) (h : Hs) (s : Nat) (l : List Hs) (el : look M h = some l) : GCalls Tryz.prog 102 [.agg (bytesG h.1), .ref [.map 1 s]] [a, .map s (kvG encL M)] (fun g O' => g = .slice (hsG l) .none ∧ O' = [a, .map s (kvG encL M)]) := by
  obtain ⟨i, hi, hv, _⟩ := look_idx encL M h l el
  refine h102.calls mixS (by simp) ?_
  simp only [gstart, s102, List.cons_append, List.nil_append, List.length_cons, List.length_nil, reduceAdd, reduceSub, List.replicate_succ, List.replicate_zero]
  simp +contextual -implicitDefEqProofs (maxSteps := 2000000) (disch := omega) only [optV, ↓loadV, ↓boxV, ↓sliceV, bound, cutTag, hiTag, GVal.cells, GVal.ofConst, ↓resV, resG, ↓reduceIte, reduceEqDiff, reduceAdd, reduceSub, reduceLeDiff, reduceCtorEq, ↓lookupV, keyOk, keyCells, pairG, Tag.cap, GVal.solid, Nat.reduceBEq, reduceMul, reduceLT, vcA, ↓vcB, vcC, fbFy, e102, kfind_h, hi, hv, vcD, v32]
theorem gRound0 (a : GObj) (M : GM) (h : Hs) (s : Nat) (el : look M h = none) : GCalls Tryz.prog 102 [.agg (bytesG h.1), .ref [.map 1 s]] [a, .map s (kvG encL M)] (fun g O' => g = .slice [] .nil ∧ O' = [a, .map s (kvG encL M)]) := by
  obtain ⟨hi, _⟩ := look_none encL M h el
  refine h102.calls mixS (by simp) ?_
  simp only [gstart, s102, List.cons_append, List.nil_append, List.length_cons, List.length_nil, reduceAdd, reduceSub, List.replicate_succ, List.replicate_zero]
  simp +contextual -implicitDefEqProofs (maxSteps := 2000000) (disch := omega) only [optV, ↓loadV, ↓boxV, ↓sliceV, bound, cutTag, hiTag, GVal.cells, GVal.ofConst, ↓resV, resG, ↓reduceIte, reduceEqDiff, reduceAdd, reduceSub, reduceLeDiff, reduceCtorEq, ↓lookupV, keyOk, keyCells, pairG, Tag.cap, GVal.solid, Nat.reduceBEq, reduceMul, reduceLT, vcA, ↓vcB, vcC, fbFy, e102, kfind_h, hi, vcD, v32]
theorem gRoundN (a : GObj) (M : GM) (h : Hs) (s : Nat) : GCalls Tryz.prog 102 [.agg (bytesG h.1), .ref [.map 1 s]] [a, .map s (kvG encL M)] (fun g O' => g = .slice (hsG (parsM M h)) .none ∧ O' = [a, .map s (kvG encL M)]) := by
  cases el : look M h with
  | some l => rw [parsM_some el]; exact gRound1 a M h s l el
  | none =>
    rw [parsM_none el]
    refine GCalls.into ((gRound0 a M h s el).mono ?_)
    rintro g O' ⟨rfl, rfl⟩
    exact GInto.weak (O := [a, .map s (kvG encL M)]) (X := []) (by rw [leG_none]; rfl) (.here ⟨rfl, rfl⟩)
noncomputable def roundE (m M : GM) (c : Cm) : Er := by
  classical exact if (look m c.1).isSome then none else if Reach (parsM M) c.2 c.1 then some (some c.1, 12) else none
def hashesM (M : GM) : List Hs := M.map (·.1) ++ M.flatMap (·.2)
theorem parsM_mem {M : GM} {x y : Hs} (h : y ∈ parsM M x) : ∃ p ∈ M, p.1 = x ∧ y ∈ p.2 := by
  induction M with
  | nil => cases h
  | cons p r ih =>
    unfold parsM at h
    rw [look] at h
    by_cases e : x = p.1
    · rw [if_pos e] at h
      exact ⟨p, by simp, e.symm, h⟩
    · rw [if_neg e] at h
      obtain ⟨q, h1, h2, h3⟩ := ih h
      exact ⟨q, by simp [h1], h2, h3⟩
theorem look_mem {M : GM} {x : Hs} {l : List Hs} (h : look M x = some l) : (x, l) ∈ M := by
  induction M with
  | nil => cases h
  | cons p r ih =>
    rw [look] at h
    by_cases e : x = p.1
    · rw [if_pos e] at h
      cases h
      rw [e]; simp
    · rw [if_neg e] at h
      simp [ih h]
structure GMOK (M : GM) : Prop where
  len : M.length ≤ 10000
  row : ∀ p ∈ M, p.2.length ≤ 4
theorem GMOK.pars {M : GM} (h : GMOK M) (x : Hs) : (parsM M x).length ≤ 4 := by
  cases e : look M x with
  | some l => rw [parsM_some e]; exact h.row _ (look_mem e)
  | none => rw [parsM_none e]; simp
theorem GMOK.hashes {M : GM} (h : GMOK M) : (hashesM M).length ≤ 50000 := by
  have : ∀ M : GM, (∀ p ∈ M, p.2.length ≤ 4) → (hashesM M).length ≤ 5 * M.length := by
    intro M
    induction M with
    | nil => intro _; simp [hashesM]
    | cons p r ih =>
      intro h
      have := ih fun q hq => h q (by simp [hq])
      have := h p (by simp)
      simp only [hashesM, List.map_cons, List.flatMap_cons, List.length_append, List.length_cons] at *
      omega
  have := this M h.row
  have := h.len
  omega
theorem pars_in {M : GM} {x y : Hs} (h : y ∈ parsM M x) : y ∈ hashesM M := by
  obtain ⟨p, h1, _, h3⟩ := parsM_mem h
  exact List.mem_append_right _ (List.mem_flatMap.2 ⟨p, h1, h3⟩)
theorem gReachedM (M : GM) (hM : GMOK M) (l : List Hs) (t : Tag) (ht : t = .nil → l = []) (hl : l.length ≤ 10000) {O : List GObj} {i j : Nat} {a : GObj} {s : Nat} (hi : O[i]? = some a) (hj : O[j]? = some (.map s (kvG encL M))) (hij : i ≠ j) (hca : a.isClock = false) (hc : clockOf O = none) :
    GCalls Tryz.prog 46 [.slice (hsG l) t, .func (.func 102) [] [.ref [.map j s]]] O (fun g O' => ∃ st kv, g = .map O.length st ∧ O' = O ++ [.map st kv] ∧ ∃ S : List Hs, kv = kvG encB (setM S) ∧ S.Nodup ∧ (∀ x, x ∈ S ↔ Reach (parsM M) l x)) := by
  have h := gReached (caps := [.ref [.map 1 s]]) (parsM M) (fun h => gRoundN a M h s) hca l t ht (l ++ hashesM M) (fun x hx => List.mem_append_left _ hx) (fun x _ y hy => List.mem_append_right _ (pars_in hy)) 4 (fun x _ => hM.pars x) (by have := hM.hashes; rw [List.length_append]; omega) (by omega) (by omega)
  refine GCalls.on2new (R := fun st kv => ∃ S : List Hs, kv = kvG encB (setM S) ∧ S.Nodup ∧ (∀ x, x ∈ S ↔ Reach (parsM M) l x)) (h.mono ?_) i j hij hi hj ⟨GLe.refl _, GLe.func _ trivial ⟨GLe.ref ⟨GLe.map _ _ _, trivial⟩, trivial⟩, trivial⟩ hca hc
  rintro g O' ⟨st, S, rfl, rfl, h1, h2, _⟩
  exact ⟨st, _, rfl, rfl, S, rfl, h1, h2⟩
noncomputable def roundP (m M : GM) (cs : List Cm) : Er := cs.findSome? (roundE m M)
theorem gRound (m M : GM) (cs : List Cm) (tc : Tag) (st s s2 : Nat) (hM : GMOK M) (hc : cs.length ≤ 1000000) (hp : ∀ c ∈ cs, c.2.length ≤ 10000) :
    GCalls Tryz.prog 72 [.ptr 0 st 0 0, .map 2 s2, .slice (csG cs) tc] (gObj st s m ++ [.map s2 (kvG encL M)]) (fun g O' => g = errV (roundP m M cs) ∧ O' = gObj st s m ++ [.map s2 (kvG encL M)]) := by
  refine GCalls.dropTo ?_
  refine h72.calls mixS (by simp) ?_
  simp only [gstart, s72, List.cons_append, List.nil_append, List.length_cons, List.length_nil, reduceAdd, reduceSub, List.replicate_succ, List.replicate_zero]
  simp +contextual -implicitDefEqProofs (maxSteps := 2000000) (disch := omega) only [drawC, drawK, keepT, ↓lenV, binV, ↓loadV, ↓storeV, ↓fieldAddrV, ↓indexAddrV, ↓allocV, ↓boxV, ↓nilV, ↓ifaceV, GVal.cells, GVal.ofConst, ↓resV, resG, ↓reduceIte, reduceEqDiff, reduceAdd, reduceSub, reduceLeDiff, reduceCtorEq, ↓lookupV, keyOk, keyCells, pairG, Tag.cap, GVal.solid, Nat.reduceBEq, reduceMul, reduceLT, vcA, ↓vcB, vcC, fbFy, e72, csG_len, vcD]
  refine vcSLoop_by (ι := { k : Nat // k ≤ cs.length ∧ cs.findSome? (roundE m M) = (cs.drop k).findSome? (roundE m M) }) (fun k => ⟨[.ptr 0 st 0 0, .any, .any, .any, .ref [.map 2 s2]] ++ List.replicate 6 .any ++ [.slice (csG cs) tc, .int .i64 cs.length, .int .i64 (k.1 : Nat)] ++ List.replicate 26 .any, [.row st 1 [[.map 1 s]], .map s (kvG encL m), .map s2 (kvG encL M)]⟩) (fun k => cs.length - k.1) ?_ ?_
  · exact Into.first ⟨0, by omega, by simp⟩ ⟨[], by simp⟩ (by simp [WL, leG_self, leG_any, leG_int])
  · rintro ⟨k, hk, hf⟩
    by_cases h : k < cs.length
    · have d0 : ((k : Int) < (cs.length : Int)) = True := eq_true (by omega)
      have eS := csG_at cs k h
      have hx := hp _ (memC h)
      rw [findC h] at hf
      generalize cs.getD k default = x at *
      obtain ⟨xh, xp⟩ := x
      change xp.length ≤ 10000 at hx
      cases el : look m xh with
      | some l =>
        obtain ⟨i, hi, hv, _⟩ := look_idx encL m xh l el
        have en : roundE m M (xh, xp) = none := by unfold roundE; rw [el]; simp
        rw [en] at hf
        simp +contextual -implicitDefEqProofs (maxSteps := 2000000) (disch := omega) only [drawC, drawK, keepT, ↓lenV, binV, ↓loadV, ↓storeV, ↓fieldAddrV, ↓indexAddrV, ↓allocV, ↓boxV, ↓nilV, ↓ifaceV, GVal.cells, GVal.ofConst, ↓resV, resG, ↓reduceIte, reduceEqDiff, reduceAdd, reduceSub, reduceLeDiff, reduceCtorEq, ↓lookupV, keyOk, keyCells, pairG, Tag.cap, GVal.solid, Nat.reduceBEq, reduceMul, reduceLT, vcA, ↓vcB, vcC, fbFy, e72, csG_len, hsG_len, comG, kfind_h, d0, eS, hi, hv, vcD, v33, v32]
        refine ⟨by omega, fun u => ?_⟩
        exact Into.at ⟨k + 1, by omega, hf⟩ (by show _ < _; simp; omega) ⟨_, rfl⟩ (by simp [WL, leG_self, leG_any, leG_int])
      | none =>
        obtain ⟨hi, _⟩ := look_none encL m xh el
        simp +contextual -implicitDefEqProofs (maxSteps := 2000000) (disch := omega) only [drawC, drawK, keepT, ↓lenV, binV, ↓loadV, ↓storeV, ↓fieldAddrV, ↓indexAddrV, ↓allocV, ↓boxV, ↓nilV, ↓ifaceV, GVal.cells, GVal.ofConst, ↓resV, resG, ↓reduceIte, reduceEqDiff, reduceAdd, reduceSub, reduceLeDiff, reduceCtorEq, ↓lookupV, keyOk, keyCells, pairG, Tag.cap, GVal.solid, Nat.reduceBEq, reduceMul, reduceLT, vcA, ↓vcB, vcC, fbFy, e72, csG_len, hsG_len, comG, kfind_h, d0, eS, hi, vcD, v33, v32]
        refine ⟨by omega, fun u => ?_⟩
        refine (gReachedM M hM xp .none (by simp) hx (i := 1) (j := 2) rfl rfl (by simp) rfl rfl).mono ?_
        rintro g O' ⟨sr, kv, rfl, rfl, S, rfl, hS, hR⟩
        by_cases hm : xh ∈ S
        · obtain ⟨i2, hi2, hv2, _⟩ := look_idx encB (setM S) xh true (by rw [look_set, if_pos hm])
          have en : roundE m M (xh, xp) = some (some xh, 12) := by
            unfold roundE; rw [el]; simp [(hR xh).1 hm]
          rw [en] at hf
          simp +contextual -implicitDefEqProofs (maxSteps := 2000000) (disch := omega) only [drawC, drawK, keepT, ↓lenV, binV, ↓loadV, ↓storeV, ↓fieldAddrV, ↓indexAddrV, ↓allocV, ↓boxV, ↓nilV, ↓ifaceV, GVal.cells, GVal.ofConst, ↓resV, resG, ↓reduceIte, reduceEqDiff, reduceAdd, reduceSub, reduceLeDiff, reduceCtorEq, ↓lookupV, keyOk, keyCells, pairG, Tag.cap, GVal.solid, Nat.reduceBEq, reduceMul, reduceLT, vcA, ↓vcB, vcC, fbFy, e72, csG_len, hsG_len, comG, kfind_h, hi2, hv2, vcD, v33, v32]
          refine ⟨⟨[_], rfl⟩, ?_⟩
          refine (gOf xh 12).then ?_ (by rfl)
          simp +contextual -implicitDefEqProofs (maxSteps := 2000000) (disch := omega) only [drawC, drawK, keepT, ↓lenV, binV, ↓loadV, ↓storeV, ↓fieldAddrV, ↓indexAddrV, ↓allocV, ↓boxV, ↓nilV, ↓ifaceV, GVal.cells, GVal.ofConst, ↓resV, resG, ↓reduceIte, reduceEqDiff, reduceAdd, reduceSub, reduceLeDiff, reduceCtorEq, ↓lookupV, keyOk, keyCells, pairG, Tag.cap, GVal.solid, Nat.reduceBEq, reduceMul, reduceLT, vcA, ↓vcB, vcC, fbFy, e72, vcD]
          unfold roundP
          rw [hf]
          exact ⟨_, gObj st s m ++ [.map s2 (kvG encL M)], _, rfl, leA_refl _, rfl, rfl⟩
        · obtain ⟨hi2, _⟩ := look_none encB (setM S) xh (by rw [look_set, if_neg hm])
          have en : roundE m M (xh, xp) = none := by
            have hnr : ¬ Reach (parsM M) xp xh := fun q => hm ((hR xh).2 q)
            unfold roundE; rw [el]; simp [hnr]
          rw [en] at hf
          simp +contextual -implicitDefEqProofs (maxSteps := 2000000) (disch := omega) only [drawC, drawK, keepT, ↓lenV, binV, ↓loadV, ↓storeV, ↓fieldAddrV, ↓indexAddrV, ↓allocV, ↓boxV, ↓nilV, ↓ifaceV, GVal.cells, GVal.ofConst, ↓resV, resG, ↓reduceIte, reduceEqDiff, reduceAdd, reduceSub, reduceLeDiff, reduceCtorEq, ↓lookupV, keyOk, keyCells, pairG, Tag.cap, GVal.solid, Nat.reduceBEq, reduceMul, reduceLT, vcA, ↓vcB, vcC, fbFy, e72, csG_len, hsG_len, comG, kfind_h, hi2, vcD, v33, v32]
          refine ⟨⟨[_], rfl⟩, ?_⟩
          exact Into.at ⟨k + 1, by omega, hf⟩ (by show _ < _; simp; omega) ⟨_, rfl⟩ (by simp [WL, leG_self, leG_any, leG_int])
    · have d0 : ((k : Int) < (cs.length : Int)) = False := eq_false (by omega)
      rw [List.drop_of_length_le (by omega)] at hf
      simp +contextual -implicitDefEqProofs (maxSteps := 2000000) (disch := omega) only [drawC, drawK, keepT, ↓lenV, binV, ↓loadV, ↓storeV, ↓fieldAddrV, ↓indexAddrV, ↓allocV, ↓boxV, ↓nilV, ↓ifaceV, GVal.cells, GVal.ofConst, ↓resV, resG, ↓reduceIte, reduceEqDiff, reduceAdd, reduceSub, reduceLeDiff, reduceCtorEq, ↓lookupV, keyOk, keyCells, pairG, Tag.cap, GVal.solid, Nat.reduceBEq, reduceMul, reduceLT, vcA, ↓vcB, vcC, fbFy, e72, csG_len, hsG_len, comG, kfind_h, d0, vcD, v33, v32]
      unfold roundP
      rw [hf]
      exact ⟨_, gObj st s m ++ [.map s2 (kvG encL M)], [], rfl, leA_refl _, rfl, rfl⟩
theorem errV_some (e : Option Hs × Int) : ∃ ty v, errV (some e) = .iface ty v := by
  obtain ⟨h, n⟩ := e
  cases h with
  | none => exact ⟨_, _, rfl⟩
  | some h => exact ⟨_, _, rfl⟩
theorem kvG_len {α : Type} (enc : α → GVal) (m : List (Hs × α)) : (kvG enc m).length = m.length := by simp [kvG]
structure GOK (m : GM) : Prop where
  len : m.length ≤ 1000
  row : ∀ p ∈ m, p.2.length ≤ 4
theorem sizesP_none {gr : Int} {nh : Nat} {cs : List Cm} (h : sizesP gr nh cs = none) : cs.length ≤ 200 ∧ nh ≤ 200 ∧ (gr = 1 ∨ gr = 2) ∧ ∀ c ∈ cs, c.2.length ≤ 4 ∧ twiceB c.2 = false := by
  unfold sizesP at h
  split at h
  · cases h
  · rename_i hb
    unfold badReq at hb
    refine ⟨by omega, by omega, by omega, fun c hc => ?_⟩
    have := List.findSome?_eq_none_iff.1 h c hc
    unfold sizeE at this
    split at this
    · cases this
    · split at this
      · cases this
      · rename_i h1 h2; exact ⟨by omega, by simpa using h2⟩
theorem mset_mem {α : Type} {m : List (Hs × α)} {h : Hs} {v : α} {p : Hs × α} (hp : p ∈ mset m h v) : p ∈ m ∨ p = (h, v) := by
  induction m with
  | nil => simp [mset] at hp; exact .inr hp
  | cons q r ih =>
    rw [mset] at hp
    split at hp
    · rcases List.mem_cons.1 hp with e | e
      · exact .inr e
      · exact .inl (List.mem_cons_of_mem _ e)
    · rcases List.mem_cons.1 hp with e | e
      · exact .inl (by rw [e]; simp)
      · exact (ih e).imp (List.mem_cons_of_mem _) id
theorem joinP_ok : ∀ {cs : List Cm} {m M : GM}, joinP m cs = .ok M → (∀ p ∈ m, p.2.length ≤ 4) → (∀ c ∈ cs, c.2.length ≤ 4) → M.length ≤ m.length + cs.length ∧ ∀ p ∈ M, p.2.length ≤ 4
  | [], m, M, h, hm, hc => by rw [joinP] at h; cases h; exact ⟨by simp, hm⟩
  | c :: r, m, M, h, hm, hc => by
    rw [joinP] at h
    have hr : ∀ x ∈ r, x.2.length ≤ 4 := fun x hx => hc x (by simp [hx])
    have hx := hc c (by simp)
    unfold joinE at h
    cases el : look m c.1 with
    | some l =>
      simp only [el] at h
      split at h
      · rename_i m' e
        split at e
        · cases e
          obtain ⟨h1, h2⟩ := joinP_ok h hm hr
          exact ⟨by simp only [List.length_cons]; omega, h2⟩
        · cases e
      · cases h
    | none =>
      simp only [el] at h
      obtain ⟨h1, h2⟩ := joinP_ok h (fun p hp => by
        rcases mset_mem hp with q | q
        · exact hm p q
        · rw [q]; exact hx) hr
      have := mset_len m c.1 c.2
      rw [el] at this
      simp at this
      exact ⟨by simp only [List.length_cons]; omega, h2⟩
noncomputable def joinedP (gr : Int) (m : GM) (cs : List Cm) (hs : List Hs) : Except (Option Hs × Int) GM := match sizesP gr hs.length cs with
  | some e => .error e
  | none => match joinP m cs with
    | .error (h, n) => .error (some h, n)
    | .ok M => match lackP M cs hs with
      | some e => .error e
      | none => match roundP m M cs with
        | some e => .error e
        | none => if 1000 < M.length then .error (none, 13) else .ok M
def jdV (st : Nat) : Except (Option Hs × Int) GM → GVal
  | .ok _ => .tuple [.map 2 st, .lit .nilIface]
  | .error e => .tuple [.lit (.map none), errV (some e)]
def jdO (st : Nat) : Except (Option Hs × Int) GM → List GObj
  | .ok M => [.map st (kvG encL M)]
  | .error _ => []
theorem gJoinedBy (m : GM) (hm : GOK m) (cs : List Cm) (hs : List Hs) (th : Tag) (gr : Int) (st s : Nat) (hc : cs.length ≤ 1000000) (hh : hs.length ≤ 1000000) (hp : ∀ c ∈ cs, c.2.length ≤ 1000000) :
    GCalls Tryz.prog 37 [.ptr 0 st 0 0, .agg (reqG cs hs th gr)] (gObj st s m) (fun g O' => ∃ s2, g = jdV s2 (joinedP gr m cs hs) ∧ O' = gObj st s m ++ jdO s2 (joinedP gr m cs hs)) := by
  have c1 := gSizes cs hs th gr hc hh hp
  cases e1 : sizesP gr hs.length cs with
  | some e =>
    have ej : joinedP gr m cs hs = .error e := by unfold joinedP; rw [e1]
    rw [e1] at c1
    obtain ⟨ty, v, ev⟩ := errV_some e
    rw [ev] at c1
    rw [ej]
    refine h37.calls mixS (by simp) ?_
    simp only [gstart, s37, List.cons_append, List.nil_append, List.length_cons, List.length_nil, reduceAdd, reduceSub, List.replicate_succ, List.replicate_zero]
    simp +contextual -implicitDefEqProofs (maxSteps := 2000000) (disch := omega) only [↓lenV, binV, ↓loadV, ↓fieldAddrV, ↓boxV, ↓ifaceV, GVal.cells, GVal.ofConst, ↓resV, resG, ↓reduceIte, reduceEqDiff, reduceAdd, reduceSub, reduceLeDiff, reduceCtorEq, aggV, Tag.cap, GVal.solid, Nat.reduceBEq, reduceMul, reduceLT, vcA, ↓vcB, vcC, fbFy, e37, vcD]
    refine c1.then ?_ (by rfl)
    simp +contextual -implicitDefEqProofs (maxSteps := 2000000) (disch := omega) only [↓lenV, binV, ↓loadV, ↓fieldAddrV, ↓boxV, ↓ifaceV, GVal.cells, GVal.ofConst, ↓resV, resG, ↓reduceIte, reduceEqDiff, reduceAdd, reduceSub, reduceLeDiff, reduceCtorEq, aggV, Tag.cap, GVal.solid, Nat.reduceBEq, reduceMul, reduceLT, vcA, ↓vcB, vcC, fbFy, e37, Tryz.underlying28, vcD]
    exact ⟨0, by rw [jdV, ev], rfl⟩
  | none =>
    obtain ⟨n1, n2, n3, n4⟩ := sizesP_none e1
    rw [e1] at c1
    have c2 := gJoined m cs .none st s hc hp (fun h l e => by have := hm.row _ (look_mem e); simp only at this; omega)
    cases e2 : joinP m cs with
    | error x =>
      obtain ⟨xh, xn⟩ := x
      have ej : joinedP gr m cs hs = .error (some xh, xn) := by unfold joinedP; rw [e1]; simp only [e2]
      rw [e2] at c2
      rw [ej]
      refine h37.calls mixS (by simp) ?_
      simp only [gstart, s37, List.cons_append, List.nil_append, List.length_cons, List.length_nil, reduceAdd, reduceSub, List.replicate_succ, List.replicate_zero]
      simp +contextual -implicitDefEqProofs (maxSteps := 2000000) (disch := omega) only [↓lenV, binV, ↓loadV, ↓fieldAddrV, ↓boxV, ↓ifaceV, GVal.cells, GVal.ofConst, ↓resV, resG, ↓reduceIte, reduceEqDiff, reduceAdd, reduceSub, reduceLeDiff, reduceCtorEq, aggV, Tag.cap, GVal.solid, Nat.reduceBEq, reduceMul, reduceLT, vcA, ↓vcB, vcC, fbFy, e37, vcD]
      refine c1.then ?_ (by rfl)
      simp +contextual -implicitDefEqProofs (maxSteps := 2000000) (disch := omega) only [↓lenV, binV, ↓loadV, ↓fieldAddrV, ↓boxV, ↓ifaceV, GVal.cells, GVal.ofConst, ↓resV, resG, ↓reduceIte, reduceEqDiff, reduceAdd, reduceSub, reduceLeDiff, reduceCtorEq, aggV, Tag.cap, GVal.solid, Nat.reduceBEq, reduceMul, reduceLT, vcA, ↓vcB, vcC, fbFy, e37, Tryz.underlying28, errV, vcD]
      refine c2.mono ?_
      rintro g O' ⟨_, rfl, rfl⟩
      simp +contextual -implicitDefEqProofs (maxSteps := 2000000) (disch := omega) only [↓lenV, binV, ↓loadV, ↓fieldAddrV, ↓boxV, ↓ifaceV, GVal.cells, GVal.ofConst, ↓resV, resG, ↓reduceIte, reduceEqDiff, reduceAdd, reduceSub, reduceLeDiff, reduceCtorEq, aggV, Tag.cap, GVal.solid, Nat.reduceBEq, reduceMul, reduceLT, vcA, ↓vcB, vcC, fbFy, e37, Tryz.underlying28, joinV, joinO, vcD]
      exact ⟨0, rfl, rfl⟩
    | ok M =>
      obtain ⟨m1, m2⟩ := joinP_ok e2 hm.row (fun c hc => (n4 c hc).1)
      have hM : GMOK M := ⟨by have := hm.len; omega, m2⟩
      have c3 := fun s2 => GCalls.keep1 (gLacking M cs hs th gr s2 hc hh hp) (O := gObj st s m ++ [.map s2 (kvG encL M)]) (args' := [.map 2 s2, .agg (reqG cs hs th gr)]) 2 rfl rfl rfl rfl
      rw [e2] at c2
      cases e3 : lackP M cs hs with
      | some e =>
        have ej : joinedP gr m cs hs = .error e := by unfold joinedP; rw [e1]; simp only [e2, e3]
        rw [e3] at c3
        obtain ⟨ty, v, ev⟩ := errV_some e
        rw [ev] at c3
        rw [ej]
        refine GCalls.dropTo ?_
        refine h37.calls mixS (by simp) ?_
        simp only [gstart, s37, List.cons_append, List.nil_append, List.length_cons, List.length_nil, reduceAdd, reduceSub, List.replicate_succ, List.replicate_zero]
        simp +contextual -implicitDefEqProofs (maxSteps := 2000000) (disch := omega) only [↓lenV, binV, ↓loadV, ↓fieldAddrV, ↓boxV, ↓ifaceV, GVal.cells, GVal.ofConst, ↓resV, resG, ↓reduceIte, reduceEqDiff, reduceAdd, reduceSub, reduceLeDiff, reduceCtorEq, aggV, Tag.cap, GVal.solid, Nat.reduceBEq, reduceMul, reduceLT, vcA, ↓vcB, vcC, fbFy, e37, vcD]
        refine c1.then ?_ (by rfl)
        simp +contextual -implicitDefEqProofs (maxSteps := 2000000) (disch := omega) only [↓lenV, binV, ↓loadV, ↓fieldAddrV, ↓boxV, ↓ifaceV, GVal.cells, GVal.ofConst, ↓resV, resG, ↓reduceIte, reduceEqDiff, reduceAdd, reduceSub, reduceLeDiff, reduceCtorEq, aggV, Tag.cap, GVal.solid, Nat.reduceBEq, reduceMul, reduceLT, vcA, ↓vcB, vcC, fbFy, e37, Tryz.underlying28, errV, vcD]
        refine c2.mono ?_
        rintro g O' ⟨s2, rfl, rfl⟩
        simp +contextual -implicitDefEqProofs (maxSteps := 2000000) (disch := omega) only [↓lenV, binV, ↓loadV, ↓fieldAddrV, ↓boxV, ↓ifaceV, GVal.cells, GVal.ofConst, ↓resV, resG, ↓reduceIte, reduceEqDiff, reduceAdd, reduceSub, reduceLeDiff, reduceCtorEq, aggV, Tag.cap, GVal.solid, Nat.reduceBEq, reduceMul, reduceLT, vcA, ↓vcB, vcC, fbFy, e37, Tryz.underlying28, joinV, joinO, vcD]
        refine (c3 s2).mono ?_
        rintro g O' ⟨rfl, rfl⟩
        simp +contextual -implicitDefEqProofs (maxSteps := 2000000) (disch := omega) only [↓lenV, binV, ↓loadV, ↓fieldAddrV, ↓boxV, ↓ifaceV, GVal.cells, GVal.ofConst, ↓resV, resG, ↓reduceIte, reduceEqDiff, reduceAdd, reduceSub, reduceLeDiff, reduceCtorEq, aggV, Tag.cap, GVal.solid, Nat.reduceBEq, reduceMul, reduceLT, vcA, ↓vcB, vcC, fbFy, e37, Tryz.underlying28, vcD]
        exact ⟨_, gObj st s m, _, rfl, leA_refl _, 0, by rw [jdV, ev], rfl⟩
      | none =>
        have c4 := fun s2 => gRound m M cs .none st s s2 hM hc (fun c hc => by have := (n4 c hc).1; omega)
        rw [e3] at c3
        cases e4 : roundP m M cs with
        | some e =>
          have ej : joinedP gr m cs hs = .error e := by unfold joinedP; rw [e1]; simp only [e2, e3, e4]
          rw [e4] at c4
          obtain ⟨ty, v, ev⟩ := errV_some e
          rw [ev] at c4
          rw [ej]
          refine GCalls.dropTo ?_
          refine h37.calls mixS (by simp) ?_
          simp only [gstart, s37, List.cons_append, List.nil_append, List.length_cons, List.length_nil, reduceAdd, reduceSub, List.replicate_succ, List.replicate_zero]
          simp +contextual -implicitDefEqProofs (maxSteps := 2000000) (disch := omega) only [↓lenV, binV, ↓loadV, ↓fieldAddrV, ↓boxV, ↓ifaceV, GVal.cells, GVal.ofConst, ↓resV, resG, ↓reduceIte, reduceEqDiff, reduceAdd, reduceSub, reduceLeDiff, reduceCtorEq, aggV, Tag.cap, GVal.solid, Nat.reduceBEq, reduceMul, reduceLT, vcA, ↓vcB, vcC, fbFy, e37, vcD]
          refine c1.then ?_ (by rfl)
          simp +contextual -implicitDefEqProofs (maxSteps := 2000000) (disch := omega) only [↓lenV, binV, ↓loadV, ↓fieldAddrV, ↓boxV, ↓ifaceV, GVal.cells, GVal.ofConst, ↓resV, resG, ↓reduceIte, reduceEqDiff, reduceAdd, reduceSub, reduceLeDiff, reduceCtorEq, aggV, Tag.cap, GVal.solid, Nat.reduceBEq, reduceMul, reduceLT, vcA, ↓vcB, vcC, fbFy, e37, Tryz.underlying28, errV, vcD]
          refine c2.mono ?_
          rintro g O' ⟨s2, rfl, rfl⟩
          simp +contextual -implicitDefEqProofs (maxSteps := 2000000) (disch := omega) only [↓lenV, binV, ↓loadV, ↓fieldAddrV, ↓boxV, ↓ifaceV, GVal.cells, GVal.ofConst, ↓resV, resG, ↓reduceIte, reduceEqDiff, reduceAdd, reduceSub, reduceLeDiff, reduceCtorEq, aggV, Tag.cap, GVal.solid, Nat.reduceBEq, reduceMul, reduceLT, vcA, ↓vcB, vcC, fbFy, e37, Tryz.underlying28, joinV, joinO, vcD]
          refine (c3 s2).mono ?_
          rintro g O' ⟨rfl, rfl⟩
          simp +contextual -implicitDefEqProofs (maxSteps := 2000000) (disch := omega) only [↓lenV, binV, ↓loadV, ↓fieldAddrV, ↓boxV, ↓ifaceV, GVal.cells, GVal.ofConst, ↓resV, resG, ↓reduceIte, reduceEqDiff, reduceAdd, reduceSub, reduceLeDiff, reduceCtorEq, aggV, Tag.cap, GVal.solid, Nat.reduceBEq, reduceMul, reduceLT, vcA, ↓vcB, vcC, fbFy, e37, Tryz.underlying28, errV, vcD]
          refine (c4 s2).mono ?_
          rintro g O' ⟨rfl, rfl⟩
          simp +contextual -implicitDefEqProofs (maxSteps := 2000000) (disch := omega) only [↓lenV, binV, ↓loadV, ↓fieldAddrV, ↓boxV, ↓ifaceV, GVal.cells, GVal.ofConst, ↓resV, resG, ↓reduceIte, reduceEqDiff, reduceAdd, reduceSub, reduceLeDiff, reduceCtorEq, aggV, Tag.cap, GVal.solid, Nat.reduceBEq, reduceMul, reduceLT, vcA, ↓vcB, vcC, fbFy, e37, Tryz.underlying28, vcD]
          exact ⟨_, gObj st s m, _, rfl, leA_refl _, 0, by rw [jdV, ev], rfl⟩
        | none =>
          rw [e4] at c4
          by_cases h5 : 1000 < M.length
          · have d5 : ((1000 : Int) < (M.length : Int)) = True := eq_true (by omega)
            have ej : joinedP gr m cs hs = .error (none, 13) := by unfold joinedP; rw [e1]; simp only [e2, e3, e4]; rw [if_pos h5]
            rw [ej]
            refine GCalls.dropTo ?_
            refine h37.calls mixS (by simp) ?_
            simp only [gstart, s37, List.cons_append, List.nil_append, List.length_cons, List.length_nil, reduceAdd, reduceSub, List.replicate_succ, List.replicate_zero]
            simp +contextual -implicitDefEqProofs (maxSteps := 2000000) (disch := omega) only [↓lenV, binV, ↓loadV, ↓fieldAddrV, ↓boxV, ↓ifaceV, GVal.cells, GVal.ofConst, ↓resV, resG, ↓reduceIte, reduceEqDiff, reduceAdd, reduceSub, reduceLeDiff, reduceCtorEq, aggV, Tag.cap, GVal.solid, Nat.reduceBEq, reduceMul, reduceLT, vcA, ↓vcB, vcC, fbFy, e37, vcD]
            refine c1.then ?_ (by rfl)
            simp +contextual -implicitDefEqProofs (maxSteps := 2000000) (disch := omega) only [↓lenV, binV, ↓loadV, ↓fieldAddrV, ↓boxV, ↓ifaceV, GVal.cells, GVal.ofConst, ↓resV, resG, ↓reduceIte, reduceEqDiff, reduceAdd, reduceSub, reduceLeDiff, reduceCtorEq, aggV, Tag.cap, GVal.solid, Nat.reduceBEq, reduceMul, reduceLT, vcA, ↓vcB, vcC, fbFy, e37, Tryz.underlying28, errV, vcD]
            refine c2.mono ?_
            rintro g O' ⟨s2, rfl, rfl⟩
            simp +contextual -implicitDefEqProofs (maxSteps := 2000000) (disch := omega) only [↓lenV, binV, ↓loadV, ↓fieldAddrV, ↓boxV, ↓ifaceV, GVal.cells, GVal.ofConst, ↓resV, resG, ↓reduceIte, reduceEqDiff, reduceAdd, reduceSub, reduceLeDiff, reduceCtorEq, aggV, Tag.cap, GVal.solid, Nat.reduceBEq, reduceMul, reduceLT, vcA, ↓vcB, vcC, fbFy, e37, Tryz.underlying28, joinV, joinO, vcD]
            refine (c3 s2).mono ?_
            rintro g O' ⟨rfl, rfl⟩
            simp +contextual -implicitDefEqProofs (maxSteps := 2000000) (disch := omega) only [↓lenV, binV, ↓loadV, ↓fieldAddrV, ↓boxV, ↓ifaceV, GVal.cells, GVal.ofConst, ↓resV, resG, ↓reduceIte, reduceEqDiff, reduceAdd, reduceSub, reduceLeDiff, reduceCtorEq, aggV, Tag.cap, GVal.solid, Nat.reduceBEq, reduceMul, reduceLT, vcA, ↓vcB, vcC, fbFy, e37, Tryz.underlying28, errV, vcD]
            refine (c4 s2).mono ?_
            rintro g O' ⟨rfl, rfl⟩
            simp +contextual -implicitDefEqProofs (maxSteps := 2000000) (disch := omega) only [↓lenV, binV, ↓loadV, ↓fieldAddrV, ↓boxV, ↓ifaceV, GVal.cells, GVal.ofConst, ↓resV, resG, ↓reduceIte, reduceEqDiff, reduceAdd, reduceSub, reduceLeDiff, reduceCtorEq, aggV, Tag.cap, GVal.solid, Nat.reduceBEq, reduceMul, reduceLT, vcA, ↓vcB, vcC, fbFy, e37, Tryz.underlying28, errV, kvG_len, d5, vcD]
            exact ⟨_, gObj st s m, _, rfl, leA_refl _, 0, rfl, rfl⟩
          · have d5 : ((1000 : Int) < (M.length : Int)) = False := eq_false (by omega)
            have ej : joinedP gr m cs hs = .ok M := by unfold joinedP; rw [e1]; simp only [e2, e3, e4]; rw [if_neg h5]
            rw [ej]
            refine h37.calls mixS (by simp) ?_
            simp only [gstart, s37, List.cons_append, List.nil_append, List.length_cons, List.length_nil, reduceAdd, reduceSub, List.replicate_succ, List.replicate_zero]
            simp +contextual -implicitDefEqProofs (maxSteps := 2000000) (disch := omega) only [↓lenV, binV, ↓loadV, ↓fieldAddrV, ↓boxV, ↓ifaceV, GVal.cells, GVal.ofConst, ↓resV, resG, ↓reduceIte, reduceEqDiff, reduceAdd, reduceSub, reduceLeDiff, reduceCtorEq, aggV, Tag.cap, GVal.solid, Nat.reduceBEq, reduceMul, reduceLT, vcA, ↓vcB, vcC, fbFy, e37, vcD]
            refine c1.then ?_ (by rfl)
            simp +contextual -implicitDefEqProofs (maxSteps := 2000000) (disch := omega) only [↓lenV, binV, ↓loadV, ↓fieldAddrV, ↓boxV, ↓ifaceV, GVal.cells, GVal.ofConst, ↓resV, resG, ↓reduceIte, reduceEqDiff, reduceAdd, reduceSub, reduceLeDiff, reduceCtorEq, aggV, Tag.cap, GVal.solid, Nat.reduceBEq, reduceMul, reduceLT, vcA, ↓vcB, vcC, fbFy, e37, Tryz.underlying28, errV, vcD]
            refine c2.mono ?_
            rintro g O' ⟨s2, rfl, rfl⟩
            simp +contextual -implicitDefEqProofs (maxSteps := 2000000) (disch := omega) only [↓lenV, binV, ↓loadV, ↓fieldAddrV, ↓boxV, ↓ifaceV, GVal.cells, GVal.ofConst, ↓resV, resG, ↓reduceIte, reduceEqDiff, reduceAdd, reduceSub, reduceLeDiff, reduceCtorEq, aggV, Tag.cap, GVal.solid, Nat.reduceBEq, reduceMul, reduceLT, vcA, ↓vcB, vcC, fbFy, e37, Tryz.underlying28, joinV, joinO, vcD]
            refine (c3 s2).mono ?_
            rintro g O' ⟨rfl, rfl⟩
            simp +contextual -implicitDefEqProofs (maxSteps := 2000000) (disch := omega) only [↓lenV, binV, ↓loadV, ↓fieldAddrV, ↓boxV, ↓ifaceV, GVal.cells, GVal.ofConst, ↓resV, resG, ↓reduceIte, reduceEqDiff, reduceAdd, reduceSub, reduceLeDiff, reduceCtorEq, aggV, Tag.cap, GVal.solid, Nat.reduceBEq, reduceMul, reduceLT, vcA, ↓vcB, vcC, fbFy, e37, Tryz.underlying28, errV, vcD]
            refine (c4 s2).mono ?_
            rintro g O' ⟨rfl, rfl⟩
            simp +contextual -implicitDefEqProofs (maxSteps := 2000000) (disch := omega) only [↓lenV, binV, ↓loadV, ↓fieldAddrV, ↓boxV, ↓ifaceV, GVal.cells, GVal.ofConst, ↓resV, resG, ↓reduceIte, reduceEqDiff, reduceAdd, reduceSub, reduceLeDiff, reduceCtorEq, aggV, Tag.cap, GVal.solid, Nat.reduceBEq, reduceMul, reduceLT, vcA, ↓vcB, vcC, fbFy, e37, Tryz.underlying28, errV, kvG_len, d5, vcD]
            exact ⟨s2, rfl, rfl⟩
noncomputable def addedM (m : GM) (cs : List Cm) : GM := match joinedP 2 m cs [] with
  | .ok M => M
  | .error _ => m
noncomputable def addedE (m : GM) (cs : List Cm) : Er := match joinedP 2 m cs [] with
  | .ok _ => none
  | .error e => some e
theorem gAddRaw (m M : GM) (cs : List Cm) (st s : Nat) (c1 : GCalls Tryz.prog 37 [.ptr 0 st 0 0, .agg (reqG cs [] .nil 2)] (gObj st s m) (fun g O' => ∃ s2, g = jdV s2 (.ok M) ∧ O' = gObj st s m ++ jdO s2 (.ok M))) :
    GCalls Tryz.prog 11 [.ptr 0 st 0 0, .slice (csG cs) .none] (gObj st s m) (fun g O' => ∃ s2, g = .lit .nilIface ∧ O' = [.row st 1 [[.map 2 s2]], .map s (kvG encL m), .map s2 (kvG encL M)]) := by
  refine h11.calls mixS (by simp) ?_
  simp only [gstart, s11, List.cons_append, List.nil_append, List.length_cons, List.length_nil, reduceAdd, reduceSub, List.replicate_succ, List.replicate_zero]
  simp +contextual -implicitDefEqProofs (maxSteps := 2000000) (disch := omega) only [binV, ↓storeV, ↓fieldAddrV, ↓buildV, ↓nilV, fillG, place, GVal.cells, GVal.ofConst, ↓resV, resG, ↓reduceIte, reduceEqDiff, reduceAdd, reduceSub, reduceLeDiff, reduceCtorEq, aggV, Tag.cap, GVal.solid, Nat.reduceBEq, reduceMul, reduceLT, vcA, ↓vcB, vcC, fbFy, e11, vcD]
  refine c1.mono ?_
  rintro g O' ⟨s2, rfl, rfl⟩
  simp +contextual -implicitDefEqProofs (maxSteps := 2000000) (disch := omega) only [binV, ↓storeV, ↓fieldAddrV, ↓buildV, ↓nilV, fillG, place, GVal.cells, GVal.ofConst, ↓resV, resG, ↓reduceIte, reduceEqDiff, reduceAdd, reduceSub, reduceLeDiff, reduceCtorEq, aggV, Tag.cap, GVal.solid, Nat.reduceBEq, reduceMul, reduceLT, vcA, ↓vcB, vcC, fbFy, e11, Tryz.underlying28, jdV, jdO, vcD]
  exact ⟨_, rfl⟩
theorem gAddOk (m M : GM) (cs : List Cm) (st s : Nat) (c1 : GCalls Tryz.prog 37 [.ptr 0 st 0 0, .agg (reqG cs [] .nil 2)] (gObj st s m) (fun g O' => ∃ s2, g = jdV s2 (.ok M) ∧ O' = gObj st s m ++ jdO s2 (.ok M))) :
    GCalls Tryz.prog 11 [.ptr 0 st 0 0, .slice (csG cs) .none] (gObj st s m) (fun g O' => ∃ x' y', O' = [x', y'] ∧ (g = errV none ∧ ∃ s', x' = .row st 1 [[.map 1 s']] ∧ y' = .map s' (kvG encL M))) := by
  refine GCalls.frame (gAddRaw m M cs st s c1) [0, 1] ⟨⟨_, rfl, .refl _⟩, ⟨_, rfl, .refl _⟩, trivial⟩ (by simp) (GLes.refl _) rfl rfl ?_
  rintro g O' ⟨s2, rfl, rfl⟩
  exact ⟨_, [.row st 1 [[.map 1 s2]], .map s2 (kvG encL M)], [(false, 0), (false, 2)], ⟨_, _, rfl, rfl, s2, rfl, rfl⟩, GLe.refl _, ⟨⟨_, rfl, OLe.row ⟨⟨GLe.map _ _ _, trivial⟩, trivial⟩⟩, ⟨_, rfl, .refl _⟩, trivial⟩, by simp, rfl⟩
theorem gAdd (m : GM) (hm : GOK m) (cs : List Cm) (st s : Nat) (hc : cs.length ≤ 1000000) (hp : ∀ c ∈ cs, c.2.length ≤ 1000000) :
    GCalls Tryz.prog 11 [.ptr 0 st 0 0, .slice (csG cs) .none] (gObj st s m) (fun g O' => ∃ x' y', O' = [x', y'] ∧ (g = errV (addedE m cs) ∧ ∃ s', x' = .row st 1 [[.map 1 s']] ∧ y' = .map s' (kvG encL (addedM m cs)))) := by
  have c1 := gJoinedBy m hm cs [] .nil 2 st s hc (by simp) hp
  cases e1 : joinedP 2 m cs [] with
  | error e =>
    have ea : addedE m cs = some e := by unfold addedE; rw [e1]
    have em : addedM m cs = m := by unfold addedM; rw [e1]
    rw [e1] at c1
    rw [ea, em]
    obtain ⟨ty, v, ev⟩ := errV_some e
    refine h11.calls mixS (by simp) ?_
    simp only [gstart, s11, List.cons_append, List.nil_append, List.length_cons, List.length_nil, reduceAdd, reduceSub, List.replicate_succ, List.replicate_zero]
    simp +contextual -implicitDefEqProofs (maxSteps := 2000000) (disch := omega) only [binV, ↓storeV, ↓fieldAddrV, ↓buildV, ↓nilV, fillG, place, GVal.cells, GVal.ofConst, ↓resV, resG, ↓reduceIte, reduceEqDiff, reduceAdd, reduceSub, reduceLeDiff, reduceCtorEq, aggV, Tag.cap, GVal.solid, Nat.reduceBEq, reduceMul, reduceLT, vcA, ↓vcB, vcC, fbFy, e11, vcD]
    refine c1.mono ?_
    rintro g O' ⟨s2, rfl, rfl⟩
    simp +contextual -implicitDefEqProofs (maxSteps := 2000000) (disch := omega) only [binV, ↓storeV, ↓fieldAddrV, ↓buildV, ↓nilV, fillG, place, GVal.cells, GVal.ofConst, ↓resV, resG, ↓reduceIte, reduceEqDiff, reduceAdd, reduceSub, reduceLeDiff, reduceCtorEq, aggV, Tag.cap, GVal.solid, Nat.reduceBEq, reduceMul, reduceLT, vcA, ↓vcB, vcC, fbFy, e11, Tryz.underlying28, jdV, jdO, ev, vcD]
    exact ⟨_, _, rfl, s, rfl, rfl⟩
  | ok M =>
    have ea : addedE m cs = none := by unfold addedE; rw [e1]
    have em : addedM m cs = M := by unfold addedM; rw [e1]
    rw [e1] at c1
    rw [ea, em]
    exact gAddOk m M cs st s c1
theorem gNewRaw : GCalls Tryz.prog 6 [] [] (fun g O' => ∃ st s, g = .ptr 1 st 0 0 ∧ O' = [.map s (kvG encL []), .row st 1 [[.map 0 s]]]) := by
  refine h6.calls mixS (by simp) ?_
  simp only [gstart, s6, List.cons_append, List.nil_append, List.length_cons, List.length_nil, reduceAdd, reduceSub, List.replicate_succ, List.replicate_zero]
  simp +contextual -implicitDefEqProofs (maxSteps := 2000000) (disch := omega) only [↓boxV, ↓buildV, fillG, place, GVal.cells, GVal.ofConst, ↓resV, resG, ↓reduceIte, reduceEqDiff, reduceAdd, reduceSub, reduceLeDiff, reduceCtorEq, ↓makeMapV, Tag.cap, GVal.solid, Nat.reduceBEq, reduceMul, reduceLT, vcA, ↓vcB, vcC, fbFy, e6, vcD]
  exact fun s => ⟨rfl, fun st => ⟨_, _, rfl, rfl⟩⟩
theorem gNew : GCalls Tryz.prog 6 [] [] (fun g O' => ∃ st s, g = .ptr 0 st 0 0 ∧ O' = gObj st s []) := by
  refine GCalls.frame gNewRaw [] trivial (by simp) trivial rfl rfl ?_
  rintro g O' ⟨st, s, rfl, rfl⟩
  exact ⟨_, gObj st s [], [(false, 1), (false, 0)], ⟨st, s, rfl, rfl⟩, GLe.ptr _ _ _ _ _, ⟨⟨_, rfl, OLe.row ⟨⟨GLe.map _ _ _, trivial⟩, trivial⟩⟩, ⟨_, rfl, .refl _⟩, trivial⟩, by simp, rfl⟩
end Gv.Tryz
