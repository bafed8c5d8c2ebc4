/- Contracts: graph's sizes: what a request may not be, whatever the graph. -/
import Derived.Test.YtgkglnjmiobdmaaGreatDoorP8
import Derived.Test.YtgkglnjmiobdmaaGreatDoorProg
import Derived.WalkKit
import Derived.LaidEql
import Derived.Stop.Asserts
import Derived.RowKitTokens
import Derived.Test.YtgkglnjmiobdmaaGreatDoorP6
import Derived.Maps.Range
import Derived.Sort.MapsRangeIn
import Derived.RangeFuncGives
import Derived.Test.YtgkglnjmiobdmaaGreatDoorP5
import Derived.KernelRfl
import Derived.OpenShut
import Derived.ChangeArms
import Derived.Carry
set_option linter.unusedVariables false
set_option linter.unusedSimpArgs false
set_option maxRecDepth 20000
set_option maxHeartbeats 4000000
namespace Gv.Tryz
open Go Gv Go.Proofs
open Nat (reduceEqDiff reduceAdd reduceSub reduceLeDiff reduceMul reduceLT)
abbrev Cm := Hs × List Hs
def comG (c : Cm) : List GVal := bytesG c.1.1 ++ [.slice (hsG c.2) .none]
def csG (l : List Cm) : List (List GVal) := l.map comG
instance : Inhabited Cm := ⟨(h0, [])⟩
theorem csG_len (l : List Cm) : (csG l).length = l.length := by simp [csG]
theorem csG_at (l : List Cm) (i : Nat) (h : i < l.length) : (csG l).getD i [] = comG (l.getD i default) := by simp [csG, List.getD, h]
theorem comG_len (c : Cm) : (comG c).length = 33 := len33 _ _
theorem all_csG (l : List Cm) : (∀ x ∈ csG l, x.length = 33) = True := eq_true fun x hx => by obtain ⟨s, _, rfl⟩ := List.mem_map.1 hx; exact comG_len s
theorem csG_app (a b : List Cm) : csG (a ++ b) = csG a ++ csG b := by simp [csG]
theorem dropC {l : List Cm} {k : Nat} (h : k < l.length) : l.drop k = l.getD k default :: l.drop (k + 1) := by
  rw [List.drop_eq_getElem_cons h]; simp [List.getD, h]
theorem takeC {l : List Cm} {k : Nat} (h : k < l.length) : l.take (k + 1) = l.take k ++ [l.getD k default] := by
  rw [List.take_add_one]; simp [List.getD, h]
theorem memC {l : List Cm} {k : Nat} (h : k < l.length) : l.getD k default ∈ l := by
  rw [List.getD_eq_getElem?_getD, List.getElem?_eq_getElem h]; exact List.getElem_mem h
abbrev Er := Option (Option Hs × Int)
def errV : Er → GVal
  | none => .lit .nilIface
  | some (none, n) => errG n
  | some (some h, n) => whichG h n
abbrev reqG (cs : List Cm) (hs : List Hs) (th : Tag) (gr : Int) : List GVal := [.slice (csG cs) .none, .slice (hsG hs) th, .int .i64 gr]
def sizeE (c : Cm) : Er := if 4 < c.2.length then some (some c.1, 8) else if twiceB c.2 = true then some (some c.1, 1) else none
def badReq (gr : Int) (nc nh : Nat) : Prop := (gr ≠ 1 ∧ gr ≠ 2) ∨ 200 < nc ∨ 200 < nh
instance (gr : Int) (nc nh : Nat) : Decidable (badReq gr nc nh) := by unfold badReq; infer_instance
def sizesP (gr : Int) (nh : Nat) (cs : List Cm) : Er := if badReq gr cs.length nh then some (none, 1) else cs.findSome? sizeE
theorem gSizes1 (cs : List Cm) (hs : List Hs) (th : Tag) (gr : Int) (hc : cs.length ≤ 1000000) (hh : hs.length ≤ 1000000) (hp : ∀ c ∈ cs, c.2.length ≤ 1000000) (d1 : (gr = 1) = True) : GPure Tryz.prog 54 [.agg (reqG cs hs th gr)] (errV (sizesP gr hs.length cs)) := by
  have fin : badReq gr cs.length hs.length → errV (sizesP gr hs.length cs) = errG 1 := fun h => by rw [sizesP, if_pos h]; rfl
  have stop : badReq gr cs.length hs.length → GPure Tryz.prog 54 [.agg (reqG cs hs th gr)] (errG 1) → GPure Tryz.prog 54 [.agg (reqG cs hs th gr)] (errV (sizesP gr hs.length cs)) := fun h k => by rw [fin h]; exact k
  have hgr : gr = 1 ∨ gr = 2 := by simp only [eq_iff_iff, iff_true] at *; omega
  by_cases h2 : 200 < cs.length
  · refine stop (.inr (.inl h2)) ?_
    have d2 : ((200 : Int) < (cs.length : Int)) = True := eq_true (by omega)
    clear h2 stop fin hgr
    refine h54.pure mixS (by simp) ?_
    simp only [gstart, s54, List.cons_append, List.nil_append, List.length_cons, List.length_nil, reduceAdd, reduceSub, List.replicate_succ, List.replicate_zero]
    simp +contextual -implicitDefEqProofs (maxSteps := 2000000) (disch := omega) only [↓lenV, binV, ↓loadV, ↓fieldAddrV, ↓boxV, ↓ifaceV, GVal.cells, grp, GVal.ofConst, ↓resV, resG, List.headD, List.take, List.drop, reduceAdd, reduceLeDiff, implies_true, ne_eq, allSolid, GVal.solid, vcA, ↓vcB, vcC, fbFw, e54, csG_len, d1, d2, not_true_eq_false, false_imp_iff, true_imp_iff]
    exact leA_refl _
  · have d2 : ((200 : Int) < (cs.length : Int)) = False := eq_false (by omega)
    by_cases h3 : 200 < hs.length
    · refine stop (.inr (.inr h3)) ?_
      have d3 : ((200 : Int) < (hs.length : Int)) = True := eq_true (by omega)
      clear h2 h3 stop fin hgr
      refine h54.pure mixS (by simp) ?_
      simp only [gstart, s54, List.cons_append, List.nil_append, List.length_cons, List.length_nil, reduceAdd, reduceSub, List.replicate_succ, List.replicate_zero]
      simp +contextual -implicitDefEqProofs (maxSteps := 2000000) (disch := omega) only [↓lenV, binV, ↓loadV, ↓fieldAddrV, ↓boxV, ↓ifaceV, GVal.cells, grp, GVal.ofConst, ↓resV, resG, List.headD, List.take, List.drop, reduceAdd, reduceLeDiff, implies_true, ne_eq, allSolid, GVal.solid, vcA, ↓vcB, vcC, fbFw, e54, csG_len, hsG_len, d1, d2, d3, not_true_eq_false, false_imp_iff, true_imp_iff]
      exact leA_refl _
    · have d3 : ((200 : Int) < (hs.length : Int)) = False := eq_false (by omega)
      have he : errV (sizesP gr hs.length cs) = errV (cs.findSome? sizeE) := by
        rw [sizesP, if_neg]
        rintro (q | q | q)
        · omega
        · exact h2 q
        · exact h3 q
      rw [he]
      clear h2 h3 stop fin he hgr
      refine h54.pure mixS (by simp) ?_
      simp only [gstart, s54, List.cons_append, List.nil_append, List.length_cons, List.length_nil, reduceAdd, reduceSub, List.replicate_succ, List.replicate_zero]
      simp +contextual -implicitDefEqProofs (maxSteps := 2000000) (disch := omega) only [↓lenV, binV, ↓loadV, ↓fieldAddrV, ↓boxV, ↓ifaceV, GVal.cells, grp, GVal.ofConst, ↓resV, resG, List.headD, List.take, List.drop, reduceAdd, reduceLeDiff, implies_true, ne_eq, allSolid, GVal.solid, vcA, ↓vcB, vcC, fbFw, e54, csG_len, hsG_len, d1, d2, d3, not_true_eq_false, false_imp_iff, true_imp_iff]
      refine vcSLoop_by (ι := { k : Nat // k ≤ cs.length ∧ cs.findSome? sizeE = (cs.drop k).findSome? sizeE }) (fun k => ⟨[.any, .ref (reqG cs hs th gr)] ++ List.replicate 25 .any ++ [.slice (csG cs) .none, .int .i64 cs.length, .int .i64 (k.1 : Nat)] ++ List.replicate 21 .any, []⟩) (fun k => cs.length - k.1) ?_ ?_
      · exact Into.first ⟨0, by omega, by simp⟩ ⟨[], by simp⟩ (by simp [WL, leG_self, leG_any])
      · rintro ⟨k, hk, hf⟩
        by_cases h : k < cs.length
        · have d0 : ((k : Int) < (cs.length : Int)) = True := eq_true (by omega)
          have eS := csG_at cs k h
          have hx := hp _ (memC h)
          rw [dropC h, List.findSome?_cons] at hf
          generalize cs.getD k default = x at *
          obtain ⟨xh, xp⟩ := x
          by_cases c4 : 4 < xp.length
          · have d4 : ((4 : Int) < (xp.length : Int)) = True := eq_true (by omega)
            have e1 : sizeE (xh, xp) = some (some xh, 8) := by rw [sizeE, if_pos c4]
            rw [e1] at hf
            simp +contextual -implicitDefEqProofs (maxSteps := 2000000) (disch := omega) only [↓lenV, binV, ↓loadV, ↓storeV, ↓fieldAddrV, ↓indexAddrV, ↓allocV, ↓ifaceV, GVal.cells, grp, GVal.ofConst, List.map, List.headD, List.take, List.drop, reduceEqDiff, reduceAdd, reduceLeDiff, reduceCtorEq, implies_true, List.replicate, GVal.solid, splice, vcA, ↓vcB, vcC, fbFw, csG_len, hsG_len, comG, take32a, drop32a, take33a, len33, solid33, d0, eS, d4]
            refine ⟨by omega, fun u => ?_⟩
            refine (gOf xh 8).then ?_ (by rfl)
            simp +contextual -implicitDefEqProofs (maxSteps := 2000000) (disch := omega) only [↓resV, resG, vcA, ↓vcB]
            rw [hf]
            exact leA_refl _
          · have d4 : ((4 : Int) < (xp.length : Int)) = False := eq_false (by omega)
            have cT := gTwice xp .none (by omega) (by simp)
            cases et : twiceB xp with
            | true =>
              have e1 : sizeE (xh, xp) = some (some xh, 1) := by rw [sizeE, if_neg c4, if_pos et]
              rw [e1] at hf
              rw [et] at cT
              simp +contextual -implicitDefEqProofs (maxSteps := 2000000) (disch := omega) only [↓lenV, binV, ↓loadV, ↓storeV, ↓fieldAddrV, ↓indexAddrV, ↓allocV, ↓ifaceV, GVal.cells, grp, GVal.ofConst, List.map, List.headD, List.take, List.drop, reduceEqDiff, reduceAdd, reduceLeDiff, reduceCtorEq, implies_true, List.replicate, GVal.solid, splice, vcA, ↓vcB, vcC, fbFw, csG_len, hsG_len, comG, take32a, drop32a, take33a, len33, solid33, d0, eS, d4]
              refine ⟨by omega, fun u => ?_⟩
              refine cT.then ?_ (by rfl)
              simp +contextual -implicitDefEqProofs (maxSteps := 2000000) (disch := omega) only [↓loadV, ↓fieldAddrV, ↓ifaceV, grp, GVal.ofConst, List.map, List.drop, reduceEqDiff, reduceLeDiff, reduceCtorEq, vcA, ↓vcB, vcC, fbFw, take32a, len33]
              refine (gOf xh 1).then ?_ (by rfl)
              simp +contextual -implicitDefEqProofs (maxSteps := 2000000) (disch := omega) only [↓resV, resG, vcA, ↓vcB]
              rw [hf]
              exact leA_refl _
            | false =>
              have e1 : sizeE (xh, xp) = none := by rw [sizeE, if_neg c4, if_neg (by rw [et]; simp)]
              rw [e1] at hf
              rw [et] at cT
              simp +contextual -implicitDefEqProofs (maxSteps := 2000000) (disch := omega) only [↓lenV, binV, ↓loadV, ↓storeV, ↓fieldAddrV, ↓indexAddrV, ↓allocV, ↓ifaceV, GVal.cells, grp, GVal.ofConst, List.map, List.headD, List.take, List.drop, reduceEqDiff, reduceAdd, reduceLeDiff, reduceCtorEq, implies_true, List.replicate, GVal.solid, splice, vcA, ↓vcB, vcC, fbFw, csG_len, hsG_len, comG, take32a, drop32a, take33a, len33, solid33, d0, eS, d4]
              refine ⟨by omega, fun u => ?_⟩
              refine cT.then ?_ (by rfl)
              simp +contextual -implicitDefEqProofs (maxSteps := 2000000) (disch := omega) only [binV, GVal.ofConst, vcA, ↓vcB, vcC]
              exact Into.at ⟨k + 1, by omega, hf⟩ (by show _ < _; simp; omega) ⟨_, rfl⟩ (by simp [WL, leG_self, leG_any])
        · have d0 : ((k : Int) < (cs.length : Int)) = False := eq_false (by omega)
          rw [List.drop_of_length_le (by omega)] at hf
          simp +contextual -implicitDefEqProofs (maxSteps := 2000000) (disch := omega) only [↓lenV, binV, ↓loadV, ↓storeV, ↓fieldAddrV, ↓indexAddrV, ↓allocV, ↓ifaceV, GVal.cells, grp, GVal.ofConst, ↓resV, resG, List.map, List.headD, List.take, List.drop, ↓reduceIte, reduceEqDiff, reduceAdd, reduceLeDiff, reduceCtorEq, implies_true, List.replicate, GVal.solid, splice, vcA, ↓vcB, vcC, fbFw, csG_len, d0]
          rw [hf]
          exact leA_refl _
theorem gSizes2 (cs : List Cm) (hs : List Hs) (th : Tag) (gr : Int) (hc : cs.length ≤ 1000000) (hh : hs.length ≤ 1000000) (hp : ∀ c ∈ cs, c.2.length ≤ 1000000) (d1 : (gr = 1) = False) (dd : (gr = 2) = True) : GPure Tryz.prog 54 [.agg (reqG cs hs th gr)] (errV (sizesP gr hs.length cs)) := by
  have fin : badReq gr cs.length hs.length → errV (sizesP gr hs.length cs) = errG 1 := fun h => by rw [sizesP, if_pos h]; rfl
  have stop : badReq gr cs.length hs.length → GPure Tryz.prog 54 [.agg (reqG cs hs th gr)] (errG 1) → GPure Tryz.prog 54 [.agg (reqG cs hs th gr)] (errV (sizesP gr hs.length cs)) := fun h k => by rw [fin h]; exact k
  have hgr : gr = 1 ∨ gr = 2 := by simp only [eq_iff_iff, iff_true, iff_false] at *; omega
  by_cases h2 : 200 < cs.length
  · refine stop (.inr (.inl h2)) ?_
    have d2 : ((200 : Int) < (cs.length : Int)) = True := eq_true (by omega)
    clear h2 stop fin hgr
    refine h54.pure mixS (by simp) ?_
    simp only [gstart, s54, List.cons_append, List.nil_append, List.length_cons, List.length_nil, reduceAdd, reduceSub, List.replicate_succ, List.replicate_zero]
    simp +contextual -implicitDefEqProofs (maxSteps := 2000000) (disch := omega) only [↓lenV, binV, ↓loadV, ↓fieldAddrV, ↓boxV, ↓ifaceV, GVal.cells, grp, GVal.ofConst, ↓resV, resG, List.headD, List.take, List.drop, reduceAdd, reduceLeDiff, implies_true, ne_eq, allSolid, GVal.solid, vcA, ↓vcB, vcC, fbFw, e54, csG_len, d1, dd, d2, not_true_eq_false, false_imp_iff, true_imp_iff]
    exact leA_refl _
  · have d2 : ((200 : Int) < (cs.length : Int)) = False := eq_false (by omega)
    by_cases h3 : 200 < hs.length
    · refine stop (.inr (.inr h3)) ?_
      have d3 : ((200 : Int) < (hs.length : Int)) = True := eq_true (by omega)
      clear h2 h3 stop fin hgr
      refine h54.pure mixS (by simp) ?_
      simp only [gstart, s54, List.cons_append, List.nil_append, List.length_cons, List.length_nil, reduceAdd, reduceSub, List.replicate_succ, List.replicate_zero]
      simp +contextual -implicitDefEqProofs (maxSteps := 2000000) (disch := omega) only [↓lenV, binV, ↓loadV, ↓fieldAddrV, ↓boxV, ↓ifaceV, GVal.cells, grp, GVal.ofConst, ↓resV, resG, List.headD, List.take, List.drop, reduceAdd, reduceLeDiff, implies_true, ne_eq, allSolid, GVal.solid, vcA, ↓vcB, vcC, fbFw, e54, csG_len, hsG_len, d1, dd, d2, d3, not_true_eq_false, false_imp_iff, true_imp_iff]
      exact leA_refl _
    · have d3 : ((200 : Int) < (hs.length : Int)) = False := eq_false (by omega)
      have he : errV (sizesP gr hs.length cs) = errV (cs.findSome? sizeE) := by
        rw [sizesP, if_neg]
        rintro (q | q | q)
        · omega
        · exact h2 q
        · exact h3 q
      rw [he]
      clear h2 h3 stop fin he hgr
      refine h54.pure mixS (by simp) ?_
      simp only [gstart, s54, List.cons_append, List.nil_append, List.length_cons, List.length_nil, reduceAdd, reduceSub, List.replicate_succ, List.replicate_zero]
      simp +contextual -implicitDefEqProofs (maxSteps := 2000000) (disch := omega) only [↓lenV, binV, ↓loadV, ↓fieldAddrV, ↓boxV, ↓ifaceV, GVal.cells, grp, GVal.ofConst, ↓resV, resG, List.headD, List.take, List.drop, reduceAdd, reduceLeDiff, implies_true, ne_eq, allSolid, GVal.solid, vcA, ↓vcB, vcC, fbFw, e54, csG_len, hsG_len, d1, dd, d2, d3, not_true_eq_false, false_imp_iff, true_imp_iff]
      refine vcSLoop_by (ι := { k : Nat // k ≤ cs.length ∧ cs.findSome? sizeE = (cs.drop k).findSome? sizeE }) (fun k => ⟨[.any, .ref (reqG cs hs th gr)] ++ List.replicate 25 .any ++ [.slice (csG cs) .none, .int .i64 cs.length, .int .i64 (k.1 : Nat)] ++ List.replicate 21 .any, []⟩) (fun k => cs.length - k.1) ?_ ?_
      · exact Into.first ⟨0, by omega, by simp⟩ ⟨[], by simp⟩ (by simp [WL, leG_self, leG_any])
      · rintro ⟨k, hk, hf⟩
        by_cases h : k < cs.length
        · have d0 : ((k : Int) < (cs.length : Int)) = True := eq_true (by omega)
          have eS := csG_at cs k h
          have hx := hp _ (memC h)
          rw [dropC h, List.findSome?_cons] at hf
          generalize cs.getD k default = x at *
          obtain ⟨xh, xp⟩ := x
          by_cases c4 : 4 < xp.length
          · have d4 : ((4 : Int) < (xp.length : Int)) = True := eq_true (by omega)
            have e1 : sizeE (xh, xp) = some (some xh, 8) := by rw [sizeE, if_pos c4]
            rw [e1] at hf
            simp +contextual -implicitDefEqProofs (maxSteps := 2000000) (disch := omega) only [↓lenV, binV, ↓loadV, ↓storeV, ↓fieldAddrV, ↓indexAddrV, ↓allocV, ↓ifaceV, GVal.cells, grp, GVal.ofConst, List.map, List.headD, List.take, List.drop, reduceEqDiff, reduceAdd, reduceLeDiff, reduceCtorEq, implies_true, List.replicate, GVal.solid, splice, vcA, ↓vcB, vcC, fbFw, csG_len, hsG_len, comG, take32a, drop32a, take33a, len33, solid33, d0, eS, d4]
            refine ⟨by omega, fun u => ?_⟩
            refine (gOf xh 8).then ?_ (by rfl)
            simp +contextual -implicitDefEqProofs (maxSteps := 2000000) (disch := omega) only [↓resV, resG, vcA, ↓vcB]
            rw [hf]
            exact leA_refl _
          · have d4 : ((4 : Int) < (xp.length : Int)) = False := eq_false (by omega)
            have cT := gTwice xp .none (by omega) (by simp)
            cases et : twiceB xp with
            | true =>
              have e1 : sizeE (xh, xp) = some (some xh, 1) := by rw [sizeE, if_neg c4, if_pos et]
              rw [e1] at hf
              rw [et] at cT
              simp +contextual -implicitDefEqProofs (maxSteps := 2000000) (disch := omega) only [↓lenV, binV, ↓loadV, ↓storeV, ↓fieldAddrV, ↓indexAddrV, ↓allocV, ↓ifaceV, GVal.cells, grp, GVal.ofConst, List.map, List.headD, List.take, List.drop, reduceEqDiff, reduceAdd, reduceLeDiff, reduceCtorEq, implies_true, List.replicate, GVal.solid, splice, vcA, ↓vcB, vcC, fbFw, csG_len, hsG_len, comG, take32a, drop32a, take33a, len33, solid33, d0, eS, d4]
              refine ⟨by omega, fun u => ?_⟩
              refine cT.then ?_ (by rfl)
              simp +contextual -implicitDefEqProofs (maxSteps := 2000000) (disch := omega) only [↓loadV, ↓fieldAddrV, ↓ifaceV, grp, GVal.ofConst, List.map, List.drop, reduceEqDiff, reduceLeDiff, reduceCtorEq, vcA, ↓vcB, vcC, fbFw, take32a, len33]
              refine (gOf xh 1).then ?_ (by rfl)
              simp +contextual -implicitDefEqProofs (maxSteps := 2000000) (disch := omega) only [↓resV, resG, vcA, ↓vcB]
              rw [hf]
              exact leA_refl _
            | false =>
              have e1 : sizeE (xh, xp) = none := by rw [sizeE, if_neg c4, if_neg (by rw [et]; simp)]
              rw [e1] at hf
              rw [et] at cT
              simp +contextual -implicitDefEqProofs (maxSteps := 2000000) (disch := omega) only [↓lenV, binV, ↓loadV, ↓storeV, ↓fieldAddrV, ↓indexAddrV, ↓allocV, ↓ifaceV, GVal.cells, grp, GVal.ofConst, List.map, List.headD, List.take, List.drop, reduceEqDiff, reduceAdd, reduceLeDiff, reduceCtorEq, implies_true, List.replicate, GVal.solid, splice, vcA, ↓vcB, vcC, fbFw, csG_len, hsG_len, comG, take32a, drop32a, take33a, len33, solid33, d0, eS, d4]
              refine ⟨by omega, fun u => ?_⟩
              refine cT.then ?_ (by rfl)
              simp +contextual -implicitDefEqProofs (maxSteps := 2000000) (disch := omega) only [binV, GVal.ofConst, vcA, ↓vcB, vcC]
              exact Into.at ⟨k + 1, by omega, hf⟩ (by show _ < _; simp; omega) ⟨_, rfl⟩ (by simp [WL, leG_self, leG_any])
        · have d0 : ((k : Int) < (cs.length : Int)) = False := eq_false (by omega)
          rw [List.drop_of_length_le (by omega)] at hf
          simp +contextual -implicitDefEqProofs (maxSteps := 2000000) (disch := omega) only [↓lenV, binV, ↓loadV, ↓storeV, ↓fieldAddrV, ↓indexAddrV, ↓allocV, ↓ifaceV, GVal.cells, grp, GVal.ofConst, ↓resV, resG, List.map, List.headD, List.take, List.drop, ↓reduceIte, reduceEqDiff, reduceAdd, reduceLeDiff, reduceCtorEq, implies_true, List.replicate, GVal.solid, splice, vcA, ↓vcB, vcC, fbFw, csG_len, d0]
          rw [hf]
          exact leA_refl _
theorem gSizes (cs : List Cm) (hs : List Hs) (th : Tag) (gr : Int) (hc : cs.length ≤ 1000000) (hh : hs.length ≤ 1000000) (hp : ∀ c ∈ cs, c.2.length ≤ 1000000) : GPure Tryz.prog 54 [.agg (reqG cs hs th gr)] (errV (sizesP gr hs.length cs)) := by
  by_cases h1 : gr = 1
  · exact gSizes1 cs hs th gr hc hh hp (eq_true h1)
  · by_cases h2 : gr = 2
    · exact gSizes2 cs hs th gr hc hh hp (eq_false h1) (eq_true h2)
    · have fin : errV (sizesP gr hs.length cs) = errG 1 := by rw [sizesP, if_pos (.inl ⟨h1, h2⟩)]; rfl
      rw [fin]
      have d1 : (gr = 1) = False := eq_false h1
      have dd : (gr = 2) = False := eq_false h2
      refine h54.pure mixS (by simp) ?_
      simp only [gstart, s54, List.cons_append, List.nil_append, List.length_cons, List.length_nil, reduceAdd, reduceSub, List.replicate_succ, List.replicate_zero]
      simp +contextual -implicitDefEqProofs (maxSteps := 2000000) (disch := omega) only [↓lenV, binV, ↓loadV, ↓fieldAddrV, ↓boxV, ↓ifaceV, GVal.cells, grp, GVal.ofConst, ↓resV, resG, List.headD, List.take, List.drop, reduceAdd, reduceLeDiff, implies_true, ne_eq, allSolid, GVal.solid, vcA, ↓vcB, vcC, fbFw, e54, csG_len, hsG_len, d1, dd, false_imp_iff, true_imp_iff]
      exact leA_refl _
end Gv.Tryz
/- errors.As at a target of kind *api.Errno: Go's own text walked (after the worked example toyas). -/
namespace Gv.Tryz
open Go Go.Proofs Go.RowKit Go.Extern.Stop Go.Stop Go.Extern

/-! ### CLOSED FACTS ON THE MODEL's ENTRIES FOR internal/reflectlite, at this program's types: 25: *p.E · 27: **p.E · 23: error · 45: reflectlite's rtype · 1: how many package-level variables the dump has -/
theorem AsD.valueOf27 (t : Addr) (w : World) : (ReflectliteValue.unpack (.iface 100 (.pointer (some t)))).run Tryz.prog w
    = .ok (.agg #[.pointer (some ⟨2, 100, none⟩), .pointer (some ⟨w.heap.size, 0, none⟩), .int .u64 150]) (w.alloc (.cells #[.pointer (some t)] 100)) := by kernel_rfl
theorem AsD.type27 (a : Addr) (w : World) : (ReflectliteValue.methodAny (ReflectliteValue.valueError "reflectlite.Value.Type" 0) (fun t _ _ _ => ReflectliteType.toType t) #[.agg #[.pointer (some ⟨2, 100, none⟩), .pointer (some a), .int .u64 150]]).run Tryz.prog w
    = .ok (.iface 131 (.agg #[.pointer (some ⟨2, 100, none⟩)])) w := by kernel_rfl
theorem AsD.methodKind (h : Value) (w : World) : (Go.method 293 131 (.agg #[h]) "Kind").run Tryz.prog w = .ok (113, h) w := by kernel_rfl
theorem AsD.kind27 (w : World) : ((ReflectliteType.abiMethod fun t => (fun a : Nat => Value.int IntKind.u8 (a : Int)) <$> Rtype.kind t) #[.pointer (some ⟨2, 100, none⟩)]).run Tryz.prog w = .ok (.int .u8 22) w := by kernel_rfl
theorem AsD.kind25 (w : World) : ((ReflectliteType.abiMethod fun t => (fun a : Nat => Value.int IntKind.u8 (a : Int)) <$> Rtype.kind t) #[.pointer (some ⟨2, 38, none⟩)]).run Tryz.prog w = .ok (.int .u8 2) w := by kernel_rfl

/-! ### THE ENTRIES THAT READ OR WRITE MEMORY: laws with a premise on the cell (after Derived/Lib/ReflectliteSlice.lean's manner: each unfolding a lemma of its own, by rfl) -/
theorem rlm (z : Sem Value) (f : TypeId → Addr → Nat → Nat → Sem Value) (v : Value) :
    ReflectliteValue.method z f #[v] = (do match ← ReflectliteValue.parts v with | none => z | some (t, a, fl) => f t a fl (fl % 32)) := rfl
theorem AsD.parts27 (a : Addr) (w : World) : (ReflectliteValue.parts (.agg #[.pointer (some ⟨2, 100, none⟩), .pointer (some a), .int .u64 150])).run Tryz.prog w = .ok (some (100, a, 150)) w := by kernel_rfl
theorem AsD.isNil27 (a p : Addr) (W : World) (ha : W.cell? a = some (.pointer (some p))) :
    (ReflectliteValue.method (ReflectliteValue.valueError "reflectlite.Value.IsNil" 0) ReflectliteValue.isNil #[.agg #[.pointer (some ⟨2, 100, none⟩), .pointer (some a), .int .u64 150]]).run Tryz.prog W = .ok (.bool false) W := by
  rw [rlm]
  simp only [Sem.run_bind, AsD.parts27, Result.andThen]
  simp [ReflectliteValue.isNil, loadVar, isAgg, underlying, Tryz.underlying100, ha, Result.andThen]

theorem AsD.methodElem (h : Value) (w : World) : (Go.method 293 131 (.agg #[h]) "Elem").run Tryz.prog w = .ok (125, .agg #[h]) w := by kernel_rfl
theorem AsD.methodImplements (h : Value) (w : World) : (Go.method 293 131 (.agg #[h]) "Implements").run Tryz.prog w = .ok (126, .agg #[h]) w := by kernel_rfl
theorem AsD.methodAssignableTo (h : Value) (w : World) : (Go.method 293 131 (.agg #[h]) "AssignableTo").run Tryz.prog w = .ok (123, .agg #[h]) w := by kernel_rfl
theorem AsD.elem27 (w : World) : (ReflectliteType.method ReflectliteType.elem #[.agg #[.pointer (some ⟨2, 100, none⟩)]]).run Tryz.prog w = .ok (.iface 131 (.agg #[.pointer (some ⟨2, 38, none⟩)])) w := by kernel_rfl
theorem AsD.implements25 (w : World) : (ReflectliteType.relation "Implements" ReflectliteType.implements_ #[.agg #[.pointer (some ⟨2, 38, none⟩)], .iface 131 (.agg #[.pointer (some ⟨2, 45, none⟩)])]).run Tryz.prog w = .ok (.bool true) w := by kernel_rfl
theorem AsD.typeOf25 (v : Value) (w : World) : (ReflectliteType.typeOf #[.iface 38 v]).run Tryz.prog w = .ok (.iface 131 (.agg #[.pointer (some ⟨2, 38, none⟩)])) w := by kernel_rfl
theorem AsD.assignable25 (w : World) : (ReflectliteType.relation "AssignableTo" ReflectliteType.assignableTo #[.agg #[.pointer (some ⟨2, 38, none⟩)], .iface 131 (.agg #[.pointer (some ⟨2, 38, none⟩)])]).run Tryz.prog w = .ok (.bool true) w := by kernel_rfl
theorem AsD.valueOf25 (e : Int) (w : World) : (ReflectliteValue.unpack (.iface 38 (.int .i64 e))).run Tryz.prog w
    = .ok (.agg #[.pointer (some ⟨2, 38, none⟩), .pointer (some ⟨w.heap.size, 0, none⟩), .int .u64 130]) (w.alloc (.cells #[.int .i64 e] 38)) := by kernel_rfl

theorem AsD.elemOf27 (w : World) : (Rtype.elem? 100).run Tryz.prog w = .ok (some 38) w := by kernel_rfl
theorem AsD.mk25 (p : Addr) (w : World) : (ReflectliteValue.mk 38 p ReflectliteValue.flagAddr).run Tryz.prog w = .ok (.agg #[.pointer (some ⟨2, 38, none⟩), .pointer (some p), .int .u64 386]) w := by kernel_rfl
theorem AsD.elemV27 (a p : Addr) (W : World) (ha : W.cell? a = some (.pointer (some p))) :
    (ReflectliteValue.method (ReflectliteValue.valueError "reflectlite.Value.Elem" 0) ReflectliteValue.elem #[.agg #[.pointer (some ⟨2, 100, none⟩), .pointer (some a), .int .u64 150]]).run Tryz.prog W
      = .ok (.agg #[.pointer (some ⟨2, 38, none⟩), .pointer (some p), .int .u64 386]) W := by
  rw [rlm]
  simp only [Sem.run_bind, AsD.parts27, Result.andThen]
  simp [ReflectliteValue.elem, loadVar, isAgg, underlying, Tryz.underlying100, ha, Result.andThen, AsD.elemOf27, AsD.mk25]
theorem rls (v x : Value) : ReflectliteValue.set #[v, x] = (do
    let (some (dst, a, fl), some (src, b, _)) := (← ReflectliteValue.parts v, ← ReflectliteValue.parts x)
      | unsupported (.noEntry "extern/(internal/reflectlite.Value).Set.zeroValue")
    if fl / ReflectliteValue.flagAddr % 2 == 0 then unsupported (.noEntry "extern/(internal/reflectlite.Value).Set.unaddressable")
    let val ← loadVar src b
    if ← Rtype.directlyAssignable dst src then storeVar dst a val
    else if ← Rtype.implements dst src then
      if (← Rtype.kind src) == 20 then
        match val with
        | .nilIface => unsupported (.noEntry "extern/reflectlite: a nil value of one interface type handed on as a value of another")
        | _ => storeVar dst a val
      else storeVar dst a (.iface src val)
    else panicString ("reflectlite.Set: value of type " ++ (← Rtype.spelt src) ++ " is not assignable to type " ++ (← Rtype.spelt dst))
    pure (.tuple #[])) := rfl
theorem AsD.parts25a (a : Addr) (w : World) : (ReflectliteValue.parts (.agg #[.pointer (some ⟨2, 38, none⟩), .pointer (some a), .int .u64 386])).run Tryz.prog w = .ok (some (38, a, 386)) w := by kernel_rfl
theorem AsD.parts25 (a : Addr) (w : World) : (ReflectliteValue.parts (.agg #[.pointer (some ⟨2, 38, none⟩), .pointer (some a), .int .u64 130])).run Tryz.prog w = .ok (some (38, a, 130)) w := by kernel_rfl
theorem AsD.direct25 (w : World) : (Rtype.directlyAssignable 38 38).run Tryz.prog w = .ok true w := by kernel_rfl
theorem AsD.set25 (ta b : Addr) (e : Int) (old : Value) (W : World) (hb : W.cell? b = some (.int .i64 e)) (ht : W.cell? ta = some old) (hf : W.frozen? ta = false) :
    (ReflectliteValue.set #[.agg #[.pointer (some ⟨2, 38, none⟩), .pointer (some ta), .int .u64 386], .agg #[.pointer (some ⟨2, 38, none⟩), .pointer (some b), .int .u64 130]]).run Tryz.prog W
      = .ok (.tuple #[]) (W.setCell ta (.int .i64 e)) := by
  rw [rls]
  simp only [Sem.run_bind, AsD.parts25a, AsD.parts25, Result.andThen]
  simp [ReflectliteValue.flagAddr, loadVar, isAgg, underlying, Tryz.underlying38, hb, Result.andThen, AsD.direct25, storeVar, Value.cells, storeCells, Addr.add]
  rw [run_store Tryz.prog W ta _ _ (by rfl)]
  simp [ht, hf]

set_option maxRecDepth 20000 in
set_option maxHeartbeats 4000000 in
theorem as_hit (e : Int) (t : Addr) (old : Value) (w : World) (hg : w.cell? ⟨0, 0, none⟩ = some (.iface 131 (.agg #[.pointer (some ⟨2, 45, none⟩)]))) (ht0 : w.cell? t = some old) (hf0 : w.frozen? t = false) :
    Calls Tryz.prog 52 #[.iface 38 (.int .i64 e), .iface 100 (.pointer (some t))] w fun ev w' => ev = .returned (.bool true) ∧ w' = ((((w.alloc (.cells #[.pointer (some t)] 100)).alloc (.cells #[.pointer (some ⟨2, 100, none⟩), .pointer (some ⟨w.heap.size, 0, none⟩), .int .u64 150] 117)).alloc (.cells #[.pointer (some ⟨2, 100, none⟩), .pointer (some ⟨w.heap.size, 0, none⟩), .int .u64 150] 117)).alloc (.cells #[.int .i64 e] 38)).setCell t (.int .i64 e) := by
  have h6 := @run_callFunc_extern Tryz.prog 69 _ (fun args => ReflectliteValue.unpack (args.getD 0 (.tuple #[]))) Tryz.func69 (by kernel_rfl) (by kernel_rfl) (by kernel_rfl) (by kernel_rfl)
  have h7 := @run_callFunc_extern Tryz.prog 70 _ (ReflectliteValue.methodAny (ReflectliteValue.valueError "reflectlite.Value.Type" 0) (fun t _ _ _ => ReflectliteType.toType t)) Tryz.func70 (by kernel_rfl) (by kernel_rfl) (by kernel_rfl) (by kernel_rfl)
  have h8 := @run_callFunc_extern Tryz.prog 71 _ (ReflectliteValue.method (ReflectliteValue.valueError "reflectlite.Value.IsNil" 0) ReflectliteValue.isNil) Tryz.func71 (by kernel_rfl) (by kernel_rfl) (by kernel_rfl) (by kernel_rfl)
  have h27 := @run_callFunc_extern Tryz.prog 113 _ (ReflectliteType.abiMethod fun t => do pure (.int .u8 (← Rtype.kind t))) Tryz.func113 (by kernel_rfl) (by kernel_rfl) (by kernel_rfl) (by kernel_rfl)
  have h37 := @run_callFunc_extern Tryz.prog 125 _ (ReflectliteType.method ReflectliteType.elem) Tryz.func125 (by kernel_rfl) (by kernel_rfl) (by kernel_rfl) (by kernel_rfl)
  have h38 := @run_callFunc_extern Tryz.prog 126 _ (ReflectliteType.relation "Implements" ReflectliteType.implements_) Tryz.func126 (by kernel_rfl) (by kernel_rfl) (by kernel_rfl) (by kernel_rfl)
  have h10 := @run_callFunc_extern Tryz.prog 80 _ ReflectliteType.typeOf Tryz.func80 (by kernel_rfl) (by kernel_rfl) (by kernel_rfl) (by kernel_rfl)
  have h35 := @run_callFunc_extern Tryz.prog 123 _ (ReflectliteType.relation "AssignableTo" ReflectliteType.assignableTo) Tryz.func123 (by kernel_rfl) (by kernel_rfl) (by kernel_rfl) (by kernel_rfl)
  have h11 := @run_callFunc_extern Tryz.prog 81 _ (ReflectliteValue.method (ReflectliteValue.valueError "reflectlite.Value.Elem" 0) ReflectliteValue.elem) Tryz.func81 (by kernel_rfl) (by kernel_rfl) (by kernel_rfl) (by kernel_rfl)
  have h12 := @run_callFunc_extern Tryz.prog 82 _ ReflectliteValue.set Tryz.func82 (by kernel_rfl) (by kernel_rfl) (by kernel_rfl) (by kernel_rfl)
  have tO := AsD.typeOf25
  have mA := AsD.methodAssignableTo
  have a25 := AsD.assignable25
  have v25 := AsD.valueOf25
  have f6 := AsD.valueOf27
  have f7 := AsD.type27
  have mK := AsD.methodKind
  have mE := AsD.methodElem
  have mI := AsD.methodImplements
  have k27 := AsD.kind27
  have k25 := AsD.kind25
  have e27 := AsD.elem27
  have i25 := AsD.implements25
  have n8 := AsD.isNil27 ⟨w.heap.size, 0, none⟩ t ((w.alloc (.cells #[.pointer (some t)] 100)).alloc (.cells #[.pointer (some ⟨2, 100, none⟩), .pointer (some ⟨w.heap.size, 0, none⟩), .int .u64 150] 117)) (by simp)
  have hlt : 0 < w.heap.size := by
    rcases Nat.eq_zero_or_pos w.heap.size with h0 | h
    · simp [World.cell?, h0] at hg
    · exact h
  have hg2 : ((w.alloc (.cells #[.pointer (some t)] 100)).alloc (.cells #[.pointer (some ⟨2, 100, none⟩), .pointer (some ⟨w.heap.size, 0, none⟩), .int .u64 150] 117)).cell? ⟨0, 0, none⟩ = some (.iface 131 (.agg #[.pointer (some ⟨2, 45, none⟩)])) := by
    rw [World.cell?_alloc_lt _ _ ⟨0, 0, none⟩ (by simp), World.cell?_alloc_lt _ _ ⟨0, 0, none⟩ hlt]; exact hg
  have htl : t.block < w.heap.size := by
    rcases Nat.lt_or_ge t.block w.heap.size with h | h
    · exact h
    · simp [World.cell?, Array.getElem?_eq_none h] at ht0
  have el := AsD.elemV27 ⟨w.heap.size, 0, none⟩ t (((w.alloc (.cells #[.pointer (some t)] 100)).alloc (.cells #[.pointer (some ⟨2, 100, none⟩), .pointer (some ⟨w.heap.size, 0, none⟩), .int .u64 150] 117)).alloc (.cells #[.pointer (some ⟨2, 100, none⟩), .pointer (some ⟨w.heap.size, 0, none⟩), .int .u64 150] 117)) (by rw [World.cell?_alloc_lt _ _ ⟨w.heap.size, 0, none⟩ (by simp; omega)]; simp)
  have st := AsD.set25 t ⟨w.heap.size + 1 + 1 + 1, 0, none⟩ e old ((((w.alloc (.cells #[.pointer (some t)] 100)).alloc (.cells #[.pointer (some ⟨2, 100, none⟩), .pointer (some ⟨w.heap.size, 0, none⟩), .int .u64 150] 117)).alloc (.cells #[.pointer (some ⟨2, 100, none⟩), .pointer (some ⟨w.heap.size, 0, none⟩), .int .u64 150] 117)).alloc (.cells #[.int .i64 e] 38))
    (by rw [World.cell?_alloc_at _ _ _ _ (by simp)]; rfl)
    (by rw [World.cell?_alloc_lt _ _ t (by simp; omega), World.cell?_alloc_lt _ _ t (by simp; omega), World.cell?_alloc_lt _ _ t (by simp; omega), World.cell?_alloc_lt _ _ t htl]; exact ht0)
    (by rw [World.frozen?_alloc_old _ _ t (by simp; omega), World.frozen?_alloc_old _ _ t (by simp; omega), World.frozen?_alloc_old _ _ t (by simp; omega), World.frozen?_alloc_old _ _ t (Nat.ne_of_lt htl)]; exact hf0)
  go_enter Tryz.func52, Tryz.ntmps52
  go_wp2
  refine wp_loop_rounds 1 ?_
  rw [rounds_succ]
  go_wp2
  go_ret
  exact ⟨rfl, rfl⟩
end Gv.Tryz
/- errors.As at *api.Errno where the error is a *oops.Which; at **oops.Which. -/
namespace Gv.Tryz
open Go Go.Proofs Go.RowKit Go.Extern.Stop Go.Stop Go.Extern
theorem AsW.typeOf (v : Value) (w : World) : (ReflectliteType.typeOf #[.iface 95 v]).run Tryz.prog w = .ok (.iface 131 (.agg #[.pointer (some ⟨2, 95, none⟩)])) w := by kernel_rfl
theorem AsW.notAssignable (w : World) : (ReflectliteType.relation "AssignableTo" ReflectliteType.assignableTo #[.agg #[.pointer (some ⟨2, 95, none⟩)], .iface 131 (.agg #[.pointer (some ⟨2, 38, none⟩)])]).run Tryz.prog w = .ok (.bool false) w := by kernel_rfl
theorem AsW.noAs (v : Value) (xT : TypeId) (w : World) : (Instr.typeAssert (.iface 95 v) xT 136 true).run Tryz.prog w = .ok (.tuple #[.nilIface, .bool false]) w := run_typeAssert_lacksB Tryz.underlying136 (by kernel_rfl) (by kernel_rfl) v xT w
theorem AsW.hasUnwrap (v : Value) (xT : TypeId) (w : World) : (Instr.typeAssert (.iface 95 v) xT 139 true).run Tryz.prog w = .ok (.tuple #[.iface 95 v, .bool true]) w := run_typeAssert_hasB Tryz.underlying139 (by kernel_rfl) v xT w
theorem AsW.methodUnwrap (p : Value) (w : World) : (Go.method 293 95 p "Unwrap").run Tryz.prog w = .ok (118, p) w := by kernel_rfl
set_option maxRecDepth 20000 in
set_option maxHeartbeats 4000000 in
theorem as_wrap (b0 off : Nat) (e : Int) (t : Addr) (old : Value) (w : World) (hp : w.cell? ⟨b0, off + 32, none⟩ = some (.iface 38 (.int .i64 e))) (hg : w.cell? ⟨0, 0, none⟩ = some (.iface 131 (.agg #[.pointer (some ⟨2, 45, none⟩)]))) (ht0 : w.cell? t = some old) (hf0 : w.frozen? t = false) :
    Calls Tryz.prog 52 #[.iface 95 (.pointer (some ⟨b0, off, none⟩)), .iface 100 (.pointer (some t))] w fun ev w' => ev = .returned (.bool true) ∧ w' = ((((w.alloc (.cells #[.pointer (some t)] 100)).alloc (.cells #[.pointer (some ⟨2, 100, none⟩), .pointer (some ⟨w.heap.size, 0, none⟩), .int .u64 150] 117)).alloc (.cells #[.pointer (some ⟨2, 100, none⟩), .pointer (some ⟨w.heap.size, 0, none⟩), .int .u64 150] 117)).alloc (.cells #[.int .i64 e] 38)).setCell t (.int .i64 e) := by
  have h6 := @run_callFunc_extern Tryz.prog 69 _ (fun args => ReflectliteValue.unpack (args.getD 0 (.tuple #[]))) Tryz.func69 (by kernel_rfl) (by kernel_rfl) (by kernel_rfl) (by kernel_rfl)
  have h7 := @run_callFunc_extern Tryz.prog 70 _ (ReflectliteValue.methodAny (ReflectliteValue.valueError "reflectlite.Value.Type" 0) (fun t _ _ _ => ReflectliteType.toType t)) Tryz.func70 (by kernel_rfl) (by kernel_rfl) (by kernel_rfl) (by kernel_rfl)
  have h8 := @run_callFunc_extern Tryz.prog 71 _ (ReflectliteValue.method (ReflectliteValue.valueError "reflectlite.Value.IsNil" 0) ReflectliteValue.isNil) Tryz.func71 (by kernel_rfl) (by kernel_rfl) (by kernel_rfl) (by kernel_rfl)
  have h27 := @run_callFunc_extern Tryz.prog 113 _ (ReflectliteType.abiMethod fun t => do pure (.int .u8 (← Rtype.kind t))) Tryz.func113 (by kernel_rfl) (by kernel_rfl) (by kernel_rfl) (by kernel_rfl)
  have h37 := @run_callFunc_extern Tryz.prog 125 _ (ReflectliteType.method ReflectliteType.elem) Tryz.func125 (by kernel_rfl) (by kernel_rfl) (by kernel_rfl) (by kernel_rfl)
  have h38 := @run_callFunc_extern Tryz.prog 126 _ (ReflectliteType.relation "Implements" ReflectliteType.implements_) Tryz.func126 (by kernel_rfl) (by kernel_rfl) (by kernel_rfl) (by kernel_rfl)
  have h10 := @run_callFunc_extern Tryz.prog 80 _ ReflectliteType.typeOf Tryz.func80 (by kernel_rfl) (by kernel_rfl) (by kernel_rfl) (by kernel_rfl)
  have h35 := @run_callFunc_extern Tryz.prog 123 _ (ReflectliteType.relation "AssignableTo" ReflectliteType.assignableTo) Tryz.func123 (by kernel_rfl) (by kernel_rfl) (by kernel_rfl) (by kernel_rfl)
  have h11 := @run_callFunc_extern Tryz.prog 81 _ (ReflectliteValue.method (ReflectliteValue.valueError "reflectlite.Value.Elem" 0) ReflectliteValue.elem) Tryz.func81 (by kernel_rfl) (by kernel_rfl) (by kernel_rfl) (by kernel_rfl)
  have h12 := @run_callFunc_extern Tryz.prog 82 _ ReflectliteValue.set Tryz.func82 (by kernel_rfl) (by kernel_rfl) (by kernel_rfl) (by kernel_rfl)
  have tW := AsW.typeOf
  have nA := AsW.notAssignable
  have noA := AsW.noAs
  have hU := AsW.hasUnwrap
  have mU := AsW.methodUnwrap
  have tO := AsD.typeOf25
  have mA := AsD.methodAssignableTo
  have a25 := AsD.assignable25
  have v25 := AsD.valueOf25
  have f6 := AsD.valueOf27
  have f7 := AsD.type27
  have mK := AsD.methodKind
  have mE := AsD.methodElem
  have mI := AsD.methodImplements
  have k27 := AsD.kind27
  have k25 := AsD.kind25
  have e27 := AsD.elem27
  have i25 := AsD.implements25
  have n8 := AsD.isNil27 ⟨w.heap.size, 0, none⟩ t ((w.alloc (.cells #[.pointer (some t)] 100)).alloc (.cells #[.pointer (some ⟨2, 100, none⟩), .pointer (some ⟨w.heap.size, 0, none⟩), .int .u64 150] 117)) (by simp)
  have hlt : 0 < w.heap.size := by
    rcases Nat.eq_zero_or_pos w.heap.size with h0 | h
    · simp [World.cell?, h0] at hg
    · exact h
  have hg2 : ((w.alloc (.cells #[.pointer (some t)] 100)).alloc (.cells #[.pointer (some ⟨2, 100, none⟩), .pointer (some ⟨w.heap.size, 0, none⟩), .int .u64 150] 117)).cell? ⟨0, 0, none⟩ = some (.iface 131 (.agg #[.pointer (some ⟨2, 45, none⟩)])) := by
    rw [World.cell?_alloc_lt _ _ ⟨0, 0, none⟩ (by simp), World.cell?_alloc_lt _ _ ⟨0, 0, none⟩ hlt]; exact hg
  have htl : t.block < w.heap.size := by
    rcases Nat.lt_or_ge t.block w.heap.size with h | h
    · exact h
    · simp [World.cell?, Array.getElem?_eq_none h] at ht0
  have el := AsD.elemV27 ⟨w.heap.size, 0, none⟩ t (((w.alloc (.cells #[.pointer (some t)] 100)).alloc (.cells #[.pointer (some ⟨2, 100, none⟩), .pointer (some ⟨w.heap.size, 0, none⟩), .int .u64 150] 117)).alloc (.cells #[.pointer (some ⟨2, 100, none⟩), .pointer (some ⟨w.heap.size, 0, none⟩), .int .u64 150] 117)) (by rw [World.cell?_alloc_lt _ _ ⟨w.heap.size, 0, none⟩ (by simp; omega)]; simp)
  have st := AsD.set25 t ⟨w.heap.size + 1 + 1 + 1, 0, none⟩ e old ((((w.alloc (.cells #[.pointer (some t)] 100)).alloc (.cells #[.pointer (some ⟨2, 100, none⟩), .pointer (some ⟨w.heap.size, 0, none⟩), .int .u64 150] 117)).alloc (.cells #[.pointer (some ⟨2, 100, none⟩), .pointer (some ⟨w.heap.size, 0, none⟩), .int .u64 150] 117)).alloc (.cells #[.int .i64 e] 38))
    (by rw [World.cell?_alloc_at _ _ _ _ (by simp)]; rfl)
    (by rw [World.cell?_alloc_lt _ _ t (by simp; omega), World.cell?_alloc_lt _ _ t (by simp; omega), World.cell?_alloc_lt _ _ t (by simp; omega), World.cell?_alloc_lt _ _ t htl]; exact ht0)
    (by rw [World.frozen?_alloc_old _ _ t (by simp; omega), World.frozen?_alloc_old _ _ t (by simp; omega), World.frozen?_alloc_old _ _ t (by simp; omega), World.frozen?_alloc_old _ _ t (Nat.ne_of_lt htl)]; exact hf0)
  have hbl : b0 < w.heap.size := by
    rcases Nat.lt_or_ge b0 w.heap.size with h | h
    · exact h
    · simp [World.cell?, Array.getElem?_eq_none h] at hp
  have hp3 : (((w.alloc (.cells #[.pointer (some t)] 100)).alloc (.cells #[.pointer (some ⟨2, 100, none⟩), .pointer (some ⟨w.heap.size, 0, none⟩), .int .u64 150] 117)).alloc (.cells #[.pointer (some ⟨2, 100, none⟩), .pointer (some ⟨w.heap.size, 0, none⟩), .int .u64 150] 117)).cell? ⟨b0, off + 32, none⟩ = some (.iface 38 (.int .i64 e)) := by
    rw [World.cell?_alloc_lt _ _ ⟨b0, off + 32, none⟩ (by simp; omega), World.cell?_alloc_lt _ _ ⟨b0, off + 32, none⟩ (by simp; omega), World.cell?_alloc_lt _ _ ⟨b0, off + 32, none⟩ hbl]; exact hp
  go_enter Tryz.func52, Tryz.ntmps52
  go_wp2
  refine wp_loop_rounds 2 ?_
  rw [rounds_succ]
  go_wp2
  rw [rounds_succ]
  go_wp2
  go_ret
  exact ⟨rfl, rfl⟩
end Gv.Tryz
/- errors.As at **oops.Which: the error is a *oops.Which; it is a plain api.Errno. -/
namespace Gv.Tryz
open Go Go.Proofs Go.RowKit Go.Extern.Stop Go.Stop Go.Extern
theorem AsX.valueOf27 (t : Addr) (w : World) : (ReflectliteValue.unpack (.iface 97 (.pointer (some t)))).run Tryz.prog w
    = .ok (.agg #[.pointer (some ⟨2, 97, none⟩), .pointer (some ⟨w.heap.size, 0, none⟩), .int .u64 150]) (w.alloc (.cells #[.pointer (some t)] 97)) := by kernel_rfl
theorem AsX.type27 (a : Addr) (w : World) : (ReflectliteValue.methodAny (ReflectliteValue.valueError "reflectlite.Value.Type" 0) (fun t _ _ _ => ReflectliteType.toType t) #[.agg #[.pointer (some ⟨2, 97, none⟩), .pointer (some a), .int .u64 150]]).run Tryz.prog w
    = .ok (.iface 131 (.agg #[.pointer (some ⟨2, 97, none⟩)])) w := by kernel_rfl
theorem AsX.methodKind (h : Value) (w : World) : (Go.method 293 131 (.agg #[h]) "Kind").run Tryz.prog w = .ok (113, h) w := by kernel_rfl
theorem AsX.kind27 (w : World) : ((ReflectliteType.abiMethod fun t => (fun a : Nat => Value.int IntKind.u8 (a : Int)) <$> Rtype.kind t) #[.pointer (some ⟨2, 97, none⟩)]).run Tryz.prog w = .ok (.int .u8 22) w := by kernel_rfl
theorem AsX.kind25 (w : World) : ((ReflectliteType.abiMethod fun t => (fun a : Nat => Value.int IntKind.u8 (a : Int)) <$> Rtype.kind t) #[.pointer (some ⟨2, 95, none⟩)]).run Tryz.prog w = .ok (.int .u8 22) w := by kernel_rfl

theorem AsX.parts27 (a : Addr) (w : World) : (ReflectliteValue.parts (.agg #[.pointer (some ⟨2, 97, none⟩), .pointer (some a), .int .u64 150])).run Tryz.prog w = .ok (some (97, a, 150)) w := by kernel_rfl
theorem AsX.isNil27 (a p : Addr) (W : World) (ha : W.cell? a = some (.pointer (some p))) :
    (ReflectliteValue.method (ReflectliteValue.valueError "reflectlite.Value.IsNil" 0) ReflectliteValue.isNil #[.agg #[.pointer (some ⟨2, 97, none⟩), .pointer (some a), .int .u64 150]]).run Tryz.prog W = .ok (.bool false) W := by
  rw [rlm]
  simp only [Sem.run_bind, AsX.parts27, Result.andThen]
  simp [ReflectliteValue.isNil, loadVar, isAgg, underlying, Tryz.underlying97, ha, Result.andThen]

theorem AsX.methodElem (h : Value) (w : World) : (Go.method 293 131 (.agg #[h]) "Elem").run Tryz.prog w = .ok (125, .agg #[h]) w := by kernel_rfl
theorem AsX.methodImplements (h : Value) (w : World) : (Go.method 293 131 (.agg #[h]) "Implements").run Tryz.prog w = .ok (126, .agg #[h]) w := by kernel_rfl
theorem AsX.methodAssignableTo (h : Value) (w : World) : (Go.method 293 131 (.agg #[h]) "AssignableTo").run Tryz.prog w = .ok (123, .agg #[h]) w := by kernel_rfl
theorem AsX.elem27 (w : World) : (ReflectliteType.method ReflectliteType.elem #[.agg #[.pointer (some ⟨2, 97, none⟩)]]).run Tryz.prog w = .ok (.iface 131 (.agg #[.pointer (some ⟨2, 95, none⟩)])) w := by kernel_rfl
theorem AsX.implements25 (w : World) : (ReflectliteType.relation "Implements" ReflectliteType.implements_ #[.agg #[.pointer (some ⟨2, 95, none⟩)], .iface 131 (.agg #[.pointer (some ⟨2, 45, none⟩)])]).run Tryz.prog w = .ok (.bool true) w := by kernel_rfl
theorem AsX.typeOf25 (v : Value) (w : World) : (ReflectliteType.typeOf #[.iface 95 v]).run Tryz.prog w = .ok (.iface 131 (.agg #[.pointer (some ⟨2, 95, none⟩)])) w := by kernel_rfl
theorem AsX.assignable25 (w : World) : (ReflectliteType.relation "AssignableTo" ReflectliteType.assignableTo #[.agg #[.pointer (some ⟨2, 95, none⟩)], .iface 131 (.agg #[.pointer (some ⟨2, 95, none⟩)])]).run Tryz.prog w = .ok (.bool true) w := by kernel_rfl
theorem AsX.valueOf25 (p : Addr) (w : World) : (ReflectliteValue.unpack (.iface 95 (.pointer (some p)))).run Tryz.prog w
    = .ok (.agg #[.pointer (some ⟨2, 95, none⟩), .pointer (some ⟨w.heap.size, 0, none⟩), .int .u64 150]) (w.alloc (.cells #[.pointer (some p)] 95)) := by kernel_rfl

theorem AsX.elemOf27 (w : World) : (Rtype.elem? 97).run Tryz.prog w = .ok (some 95) w := by kernel_rfl
theorem AsX.mk25 (p : Addr) (w : World) : (ReflectliteValue.mk 95 p ReflectliteValue.flagAddr).run Tryz.prog w = .ok (.agg #[.pointer (some ⟨2, 95, none⟩), .pointer (some p), .int .u64 406]) w := by kernel_rfl
theorem AsX.elemV27 (a p : Addr) (W : World) (ha : W.cell? a = some (.pointer (some p))) :
    (ReflectliteValue.method (ReflectliteValue.valueError "reflectlite.Value.Elem" 0) ReflectliteValue.elem #[.agg #[.pointer (some ⟨2, 97, none⟩), .pointer (some a), .int .u64 150]]).run Tryz.prog W
      = .ok (.agg #[.pointer (some ⟨2, 95, none⟩), .pointer (some p), .int .u64 406]) W := by
  rw [rlm]
  simp only [Sem.run_bind, AsX.parts27, Result.andThen]
  simp [ReflectliteValue.elem, loadVar, isAgg, underlying, Tryz.underlying97, ha, Result.andThen, AsX.elemOf27, AsX.mk25]
theorem AsX.parts25a (a : Addr) (w : World) : (ReflectliteValue.parts (.agg #[.pointer (some ⟨2, 95, none⟩), .pointer (some a), .int .u64 406])).run Tryz.prog w = .ok (some (95, a, 406)) w := by kernel_rfl
theorem AsX.parts25 (a : Addr) (w : World) : (ReflectliteValue.parts (.agg #[.pointer (some ⟨2, 95, none⟩), .pointer (some a), .int .u64 150])).run Tryz.prog w = .ok (some (95, a, 150)) w := by kernel_rfl
theorem AsX.direct25 (w : World) : (Rtype.directlyAssignable 95 95).run Tryz.prog w = .ok true w := by kernel_rfl
theorem AsX.set25 (ta b p : Addr) (old : Value) (W : World) (hb : W.cell? b = some (.pointer (some p))) (ht : W.cell? ta = some old) (hf : W.frozen? ta = false) :
    (ReflectliteValue.set #[.agg #[.pointer (some ⟨2, 95, none⟩), .pointer (some ta), .int .u64 406], .agg #[.pointer (some ⟨2, 95, none⟩), .pointer (some b), .int .u64 150]]).run Tryz.prog W
      = .ok (.tuple #[]) (W.setCell ta (.pointer (some p))) := by
  rw [rls]
  simp only [Sem.run_bind, AsX.parts25a, AsX.parts25, Result.andThen]
  simp [ReflectliteValue.flagAddr, loadVar, isAgg, underlying, Tryz.underlying95, hb, Result.andThen, AsX.direct25, storeVar, Value.cells, storeCells, Addr.add]
  rw [run_store Tryz.prog W ta _ _ (by rfl)]
  simp [ht, hf]

set_option maxRecDepth 20000 in
set_option maxHeartbeats 4000000 in
theorem as_hitW (p : Addr) (t : Addr) (old : Value) (w : World) (hg : w.cell? ⟨0, 0, none⟩ = some (.iface 131 (.agg #[.pointer (some ⟨2, 45, none⟩)]))) (ht0 : w.cell? t = some old) (hf0 : w.frozen? t = false) :
    Calls Tryz.prog 52 #[.iface 95 (.pointer (some p)), .iface 97 (.pointer (some t))] w fun ev w' => ev = .returned (.bool true) ∧ w' = ((((w.alloc (.cells #[.pointer (some t)] 97)).alloc (.cells #[.pointer (some ⟨2, 97, none⟩), .pointer (some ⟨w.heap.size, 0, none⟩), .int .u64 150] 117)).alloc (.cells #[.pointer (some ⟨2, 97, none⟩), .pointer (some ⟨w.heap.size, 0, none⟩), .int .u64 150] 117)).alloc (.cells #[.pointer (some p)] 95)).setCell t (.pointer (some p)) := by
  have h6 := @run_callFunc_extern Tryz.prog 69 _ (fun args => ReflectliteValue.unpack (args.getD 0 (.tuple #[]))) Tryz.func69 (by kernel_rfl) (by kernel_rfl) (by kernel_rfl) (by kernel_rfl)
  have h7 := @run_callFunc_extern Tryz.prog 70 _ (ReflectliteValue.methodAny (ReflectliteValue.valueError "reflectlite.Value.Type" 0) (fun t _ _ _ => ReflectliteType.toType t)) Tryz.func70 (by kernel_rfl) (by kernel_rfl) (by kernel_rfl) (by kernel_rfl)
  have h8 := @run_callFunc_extern Tryz.prog 71 _ (ReflectliteValue.method (ReflectliteValue.valueError "reflectlite.Value.IsNil" 0) ReflectliteValue.isNil) Tryz.func71 (by kernel_rfl) (by kernel_rfl) (by kernel_rfl) (by kernel_rfl)
  have h27 := @run_callFunc_extern Tryz.prog 113 _ (ReflectliteType.abiMethod fun t => do pure (.int .u8 (← Rtype.kind t))) Tryz.func113 (by kernel_rfl) (by kernel_rfl) (by kernel_rfl) (by kernel_rfl)
  have h37 := @run_callFunc_extern Tryz.prog 125 _ (ReflectliteType.method ReflectliteType.elem) Tryz.func125 (by kernel_rfl) (by kernel_rfl) (by kernel_rfl) (by kernel_rfl)
  have h38 := @run_callFunc_extern Tryz.prog 126 _ (ReflectliteType.relation "Implements" ReflectliteType.implements_) Tryz.func126 (by kernel_rfl) (by kernel_rfl) (by kernel_rfl) (by kernel_rfl)
  have h10 := @run_callFunc_extern Tryz.prog 80 _ ReflectliteType.typeOf Tryz.func80 (by kernel_rfl) (by kernel_rfl) (by kernel_rfl) (by kernel_rfl)
  have h35 := @run_callFunc_extern Tryz.prog 123 _ (ReflectliteType.relation "AssignableTo" ReflectliteType.assignableTo) Tryz.func123 (by kernel_rfl) (by kernel_rfl) (by kernel_rfl) (by kernel_rfl)
  have h11 := @run_callFunc_extern Tryz.prog 81 _ (ReflectliteValue.method (ReflectliteValue.valueError "reflectlite.Value.Elem" 0) ReflectliteValue.elem) Tryz.func81 (by kernel_rfl) (by kernel_rfl) (by kernel_rfl) (by kernel_rfl)
  have h12 := @run_callFunc_extern Tryz.prog 82 _ ReflectliteValue.set Tryz.func82 (by kernel_rfl) (by kernel_rfl) (by kernel_rfl) (by kernel_rfl)
  have tO := AsX.typeOf25
  have mA := AsX.methodAssignableTo
  have a25 := AsX.assignable25
  have v25 := AsX.valueOf25
  have f6 := AsX.valueOf27
  have f7 := AsX.type27
  have mK := AsX.methodKind
  have mE := AsX.methodElem
  have mI := AsX.methodImplements
  have k27 := AsX.kind27
  have k25 := AsX.kind25
  have e27 := AsX.elem27
  have i25 := AsX.implements25
  have n8 := AsX.isNil27 ⟨w.heap.size, 0, none⟩ t ((w.alloc (.cells #[.pointer (some t)] 97)).alloc (.cells #[.pointer (some ⟨2, 97, none⟩), .pointer (some ⟨w.heap.size, 0, none⟩), .int .u64 150] 117)) (by simp)
  have hlt : 0 < w.heap.size := by
    rcases Nat.eq_zero_or_pos w.heap.size with h0 | h
    · simp [World.cell?, h0] at hg
    · exact h
  have hg2 : ((w.alloc (.cells #[.pointer (some t)] 97)).alloc (.cells #[.pointer (some ⟨2, 97, none⟩), .pointer (some ⟨w.heap.size, 0, none⟩), .int .u64 150] 117)).cell? ⟨0, 0, none⟩ = some (.iface 131 (.agg #[.pointer (some ⟨2, 45, none⟩)])) := by
    rw [World.cell?_alloc_lt _ _ ⟨0, 0, none⟩ (by simp), World.cell?_alloc_lt _ _ ⟨0, 0, none⟩ hlt]; exact hg
  have htl : t.block < w.heap.size := by
    rcases Nat.lt_or_ge t.block w.heap.size with h | h
    · exact h
    · simp [World.cell?, Array.getElem?_eq_none h] at ht0
  have el := AsX.elemV27 ⟨w.heap.size, 0, none⟩ t (((w.alloc (.cells #[.pointer (some t)] 97)).alloc (.cells #[.pointer (some ⟨2, 97, none⟩), .pointer (some ⟨w.heap.size, 0, none⟩), .int .u64 150] 117)).alloc (.cells #[.pointer (some ⟨2, 97, none⟩), .pointer (some ⟨w.heap.size, 0, none⟩), .int .u64 150] 117)) (by rw [World.cell?_alloc_lt _ _ ⟨w.heap.size, 0, none⟩ (by simp; omega)]; simp)
  have st := AsX.set25 t ⟨w.heap.size + 1 + 1 + 1, 0, none⟩ p old ((((w.alloc (.cells #[.pointer (some t)] 97)).alloc (.cells #[.pointer (some ⟨2, 97, none⟩), .pointer (some ⟨w.heap.size, 0, none⟩), .int .u64 150] 117)).alloc (.cells #[.pointer (some ⟨2, 97, none⟩), .pointer (some ⟨w.heap.size, 0, none⟩), .int .u64 150] 117)).alloc (.cells #[.pointer (some p)] 95))
    (by rw [World.cell?_alloc_at _ _ _ _ (by simp)]; rfl)
    (by rw [World.cell?_alloc_lt _ _ t (by simp; omega), World.cell?_alloc_lt _ _ t (by simp; omega), World.cell?_alloc_lt _ _ t (by simp; omega), World.cell?_alloc_lt _ _ t htl]; exact ht0)
    (by rw [World.frozen?_alloc_old _ _ t (by simp; omega), World.frozen?_alloc_old _ _ t (by simp; omega), World.frozen?_alloc_old _ _ t (by simp; omega), World.frozen?_alloc_old _ _ t (Nat.ne_of_lt htl)]; exact hf0)
  go_enter Tryz.func52, Tryz.ntmps52
  go_wp2
  refine wp_loop_rounds 1 ?_
  rw [rounds_succ]
  go_wp2
  go_ret
  exact ⟨rfl, rfl⟩
end Gv.Tryz
/- errors.As at **oops.Which: the error is a plain api.Errno. -/
namespace Gv.Tryz
open Go Go.Proofs Go.RowKit Go.Extern.Stop Go.Stop Go.Extern
theorem AsM.typeOf (v : Value) (w : World) : (ReflectliteType.typeOf #[.iface 38 v]).run Tryz.prog w = .ok (.iface 131 (.agg #[.pointer (some ⟨2, 38, none⟩)])) w := by kernel_rfl
theorem AsM.notAssignable (w : World) : (ReflectliteType.relation "AssignableTo" ReflectliteType.assignableTo #[.agg #[.pointer (some ⟨2, 38, none⟩)], .iface 131 (.agg #[.pointer (some ⟨2, 95, none⟩)])]).run Tryz.prog w = .ok (.bool false) w := by kernel_rfl
theorem AsM.noAs (v : Value) (xT : TypeId) (w : World) : (Instr.typeAssert (.iface 38 v) xT 136 true).run Tryz.prog w = .ok (.tuple #[.nilIface, .bool false]) w := run_typeAssert_lacksB Tryz.underlying136 (by kernel_rfl) (by kernel_rfl) v xT w
theorem AsM.noUnwrap (v : Value) (xT : TypeId) (w : World) : (Instr.typeAssert (.iface 38 v) xT 139 true).run Tryz.prog w = .ok (.tuple #[.nilIface, .bool false]) w := run_typeAssert_lacksB Tryz.underlying139 (by kernel_rfl) (by kernel_rfl) v xT w
theorem AsM.noUnwraps (v : Value) (xT : TypeId) (w : World) : (Instr.typeAssert (.iface 38 v) xT 141 true).run Tryz.prog w = .ok (.tuple #[.nilIface, .bool false]) w := run_typeAssert_lacksB Tryz.underlying141 (by kernel_rfl) (by kernel_rfl) v xT w
set_option maxRecDepth 20000 in
set_option maxHeartbeats 4000000 in
theorem as_missW (n : Int) (t : Addr) (w : World) (hg : w.cell? ⟨0, 0, none⟩ = some (.iface 131 (.agg #[.pointer (some ⟨2, 45, none⟩)]))) :
    Calls Tryz.prog 52 #[.iface 38 (.int .i64 n), .iface 97 (.pointer (some t))] w fun ev w' => ev = .returned (.bool false) ∧ w' = (((w.alloc (.cells #[.pointer (some t)] 97)).alloc (.cells #[.pointer (some ⟨2, 97, none⟩), .pointer (some ⟨w.heap.size, 0, none⟩), .int .u64 150] 117)).alloc (.cells #[.pointer (some ⟨2, 97, none⟩), .pointer (some ⟨w.heap.size, 0, none⟩), .int .u64 150] 117)) := by
  have h6 := @run_callFunc_extern Tryz.prog 69 _ (fun args => ReflectliteValue.unpack (args.getD 0 (.tuple #[]))) Tryz.func69 (by kernel_rfl) (by kernel_rfl) (by kernel_rfl) (by kernel_rfl)
  have h7 := @run_callFunc_extern Tryz.prog 70 _ (ReflectliteValue.methodAny (ReflectliteValue.valueError "reflectlite.Value.Type" 0) (fun t _ _ _ => ReflectliteType.toType t)) Tryz.func70 (by kernel_rfl) (by kernel_rfl) (by kernel_rfl) (by kernel_rfl)
  have h8 := @run_callFunc_extern Tryz.prog 71 _ (ReflectliteValue.method (ReflectliteValue.valueError "reflectlite.Value.IsNil" 0) ReflectliteValue.isNil) Tryz.func71 (by kernel_rfl) (by kernel_rfl) (by kernel_rfl) (by kernel_rfl)
  have h27 := @run_callFunc_extern Tryz.prog 113 _ (ReflectliteType.abiMethod fun t => do pure (.int .u8 (← Rtype.kind t))) Tryz.func113 (by kernel_rfl) (by kernel_rfl) (by kernel_rfl) (by kernel_rfl)
  have h37 := @run_callFunc_extern Tryz.prog 125 _ (ReflectliteType.method ReflectliteType.elem) Tryz.func125 (by kernel_rfl) (by kernel_rfl) (by kernel_rfl) (by kernel_rfl)
  have h38 := @run_callFunc_extern Tryz.prog 126 _ (ReflectliteType.relation "Implements" ReflectliteType.implements_) Tryz.func126 (by kernel_rfl) (by kernel_rfl) (by kernel_rfl) (by kernel_rfl)
  have h10 := @run_callFunc_extern Tryz.prog 80 _ ReflectliteType.typeOf Tryz.func80 (by kernel_rfl) (by kernel_rfl) (by kernel_rfl) (by kernel_rfl)
  have h35 := @run_callFunc_extern Tryz.prog 123 _ (ReflectliteType.relation "AssignableTo" ReflectliteType.assignableTo) Tryz.func123 (by kernel_rfl) (by kernel_rfl) (by kernel_rfl) (by kernel_rfl)
  have h11 := @run_callFunc_extern Tryz.prog 81 _ (ReflectliteValue.method (ReflectliteValue.valueError "reflectlite.Value.Elem" 0) ReflectliteValue.elem) Tryz.func81 (by kernel_rfl) (by kernel_rfl) (by kernel_rfl) (by kernel_rfl)
  have h12 := @run_callFunc_extern Tryz.prog 82 _ ReflectliteValue.set Tryz.func82 (by kernel_rfl) (by kernel_rfl) (by kernel_rfl) (by kernel_rfl)
  have tW := AsM.typeOf
  have nA := AsM.notAssignable
  have noA := AsM.noAs
  have noU := AsM.noUnwrap
  have noV := AsM.noUnwraps
  have mA := AsX.methodAssignableTo
  have f6 := AsX.valueOf27
  have f7 := AsX.type27
  have mK := AsX.methodKind
  have mE := AsX.methodElem
  have mI := AsX.methodImplements
  have k27 := AsX.kind27
  have k25 := AsX.kind25
  have e27 := AsX.elem27
  have i25 := AsX.implements25
  have n8 := AsX.isNil27 ⟨w.heap.size, 0, none⟩ t ((w.alloc (.cells #[.pointer (some t)] 97)).alloc (.cells #[.pointer (some ⟨2, 97, none⟩), .pointer (some ⟨w.heap.size, 0, none⟩), .int .u64 150] 117)) (by simp)
  have hlt : 0 < w.heap.size := by
    rcases Nat.eq_zero_or_pos w.heap.size with h0 | h
    · simp [World.cell?, h0] at hg
    · exact h
  have hg2 : ((w.alloc (.cells #[.pointer (some t)] 97)).alloc (.cells #[.pointer (some ⟨2, 97, none⟩), .pointer (some ⟨w.heap.size, 0, none⟩), .int .u64 150] 117)).cell? ⟨0, 0, none⟩ = some (.iface 131 (.agg #[.pointer (some ⟨2, 45, none⟩)])) := by
    rw [World.cell?_alloc_lt _ _ ⟨0, 0, none⟩ (by simp), World.cell?_alloc_lt _ _ ⟨0, 0, none⟩ hlt]; exact hg
  go_enter Tryz.func52, Tryz.ntmps52
  go_wp2
  refine wp_loop_rounds 1 ?_
  rw [rounds_succ]
  go_wp2
  go_ret
  exact ⟨rfl, rfl⟩
end Gv.Tryz
/- Kind of an error, for seat u: nil, an api.Errno, an oops.Which about an api.Errno. -/
set_option linter.unusedVariables false
namespace Gv.Tryz
open Go Gv Go.Proofs Go.RowKit
theorem kind_nil (w : World) : Calls Tryz.prog 30 #[.nilIface] w fun e w' => e = .returned (.int .i64 0) ∧ w' = w := by
  go_enter Tryz.func30, Tryz.ntmps30
  go_wp2
  go_ret
  exact ⟨rfl, rfl⟩
theorem cell_size {w : World} {t : Addr} {v : Value} (h : w.cell? t = some v) : t.block < w.heap.size := by
  rcases Nat.lt_or_ge t.block w.heap.size with h1 | h1
  · exact h1
  · simp [World.cell?, Array.getElem?_eq_none h1] at h
theorem after4 (w : World) (t : Addr) (old v : Value) (o1 o2 o3 o4 : Obj) (ht0 : w.cell? t = some old) :
    ((((((w.alloc o1).alloc o2).alloc o3).alloc o4).setCell t v)).cell? t = some v ∧ Below t.block w ((((((w.alloc o1).alloc o2).alloc o3).alloc o4).setCell t v)) := by
  have htl := cell_size ht0
  have b0 : Below t.block w w := Below.refl _ _
  refine ⟨?_, (((((b0.alloc (by omega) _).alloc (by simp; omega) _).alloc (by simp; omega) _).alloc (by simp; omega) _).setCell (Nat.le_refl _) _)⟩
  refine World.cell?_setCell_same _ t _ (u := old) ?_
  rw [World.cell?_alloc_lt _ _ t (by simp; omega), World.cell?_alloc_lt _ _ t (by simp; omega), World.cell?_alloc_lt _ _ t (by simp; omega), World.cell?_alloc_lt _ _ t htl]; exact ht0
theorem as_hitB (e : Int) (t : Addr) (old : Value) (w : World) (hg : w.cell? ⟨0, 0, none⟩ = some (.iface 131 (.agg #[.pointer (some ⟨2, 45, none⟩)]))) (ht0 : w.cell? t = some old) (hf0 : w.frozen? t = false) :
    Calls Tryz.prog 52 #[.iface 38 (.int .i64 e), .iface 100 (.pointer (some t))] w fun ev w' => ev = .returned (.bool true) ∧ w'.cell? t = some (.int .i64 e) ∧ Below t.block w w' := by
  refine (as_hit e t old w hg ht0 hf0).mono ?_
  rintro ev w' ⟨rfl, rfl⟩
  obtain ⟨h1, h2⟩ := after4 w t old _ _ _ _ _ ht0
  exact ⟨rfl, h1, h2⟩
theorem as_wrapB (b0 off : Nat) (e : Int) (t : Addr) (old : Value) (w : World) (hp : w.cell? ⟨b0, off + 32, none⟩ = some (.iface 38 (.int .i64 e))) (hg : w.cell? ⟨0, 0, none⟩ = some (.iface 131 (.agg #[.pointer (some ⟨2, 45, none⟩)]))) (ht0 : w.cell? t = some old) (hf0 : w.frozen? t = false) :
    Calls Tryz.prog 52 #[.iface 95 (.pointer (some ⟨b0, off, none⟩)), .iface 100 (.pointer (some t))] w fun ev w' => ev = .returned (.bool true) ∧ w'.cell? t = some (.int .i64 e) ∧ Below t.block w w' := by
  refine (as_wrap b0 off e t old w hp hg ht0 hf0).mono ?_
  rintro ev w' ⟨rfl, rfl⟩
  obtain ⟨h1, h2⟩ := after4 w t old _ _ _ _ _ ht0
  exact ⟨rfl, h1, h2⟩
set_option maxRecDepth 20000 in
set_option maxHeartbeats 4000000 in
theorem kind_hit (n : Int) (w : World) (hg : w.cell? ⟨0, 0, none⟩ = some (.iface 131 (.agg #[.pointer (some ⟨2, 45, none⟩)]))) :
    Calls Tryz.prog 30 #[.iface 38 (.int .i64 n)] w fun e w' => e = .returned (.int .i64 n) ∧ Below w.heap.size w w' := by
  have hlt := cell_size hg
  have ht := as_hitB n ⟨w.heap.size, 0, none⟩ (.int .i64 0) (w.alloc (.cells #[.int .i64 0] 38)) (by rw [World.cell?_alloc_lt _ _ ⟨0, 0, none⟩ hlt]; exact hg) (by simp) (by simp)
  go_enter Tryz.func30, Tryz.ntmps30
  go_wp2_with (go_at_call 52; refine ht.mono ?_; rintro e w' ⟨rfl, hc, hb⟩)
  go_ret
  exact ⟨rfl, ((Below.refl _ w).alloc (Nat.le_refl _) _).trans hb⟩
set_option maxRecDepth 20000 in
set_option maxHeartbeats 4000000 in
theorem kind_which (b0 off : Nat) (n : Int) (w : World) (hp : w.cell? ⟨b0, off + 32, none⟩ = some (.iface 38 (.int .i64 n))) (hg : w.cell? ⟨0, 0, none⟩ = some (.iface 131 (.agg #[.pointer (some ⟨2, 45, none⟩)]))) :
    Calls Tryz.prog 30 #[.iface 95 (.pointer (some ⟨b0, off, none⟩))] w fun e w' => e = .returned (.int .i64 n) ∧ Below w.heap.size w w' := by
  have hlt := cell_size hg
  have hlp := cell_size hp
  have ht := as_wrapB b0 off n ⟨w.heap.size, 0, none⟩ (.int .i64 0) (w.alloc (.cells #[.int .i64 0] 38)) (by rw [World.cell?_alloc_lt _ _ ⟨b0, off + 32, none⟩ hlp]; exact hp) (by rw [World.cell?_alloc_lt _ _ ⟨0, 0, none⟩ hlt]; exact hg) (by simp) (by simp)
  go_enter Tryz.func30, Tryz.ntmps30
  go_wp2_with (go_at_call 52; refine ht.mono ?_; rintro e w' ⟨rfl, hc, hb⟩)
  go_ret
  exact ⟨rfl, ((Below.refl _ w).alloc (Nat.le_refl _) _).trans hb⟩
end Gv.Tryz
/- A range over a map whose entries are held one by one: no reading, no datum. -/
set_option linter.unusedVariables false
namespace Go
open Go.Maps Go.RowKit Go.MapKept
def WalkAt (w : World) (b r : Nat) (es : Array MapEntry) (clock : Nat) (seen : Array Nat) : Prop :=
  ∃ since c0, w.heap[b]? = some (.map es clock) ∧ w.heap[r]? = some (.mapIter (some b) since seen c0) ∧ (∀ x ∈ es.toList, x.born < since) ∧ since ≤ c0 ∧ since ≤ clock
theorem WalkAt.of_walks {w w' : World} {b r clock : Nat} {es : Array MapEntry} {seen : Array Nat} (h : WalkAt w b r es clock seen) (hk : KeepsWalks w w') : WalkAt w' b r es clock seen := by
  obtain ⟨since, c0, h1, h2, h3, h4, h5⟩ := h
  exact ⟨since, c0, hk.same b _ h1 rfl, hk.same r _ h2 rfl, h3, h4, h5⟩
theorem WalkAt.iter_walk {w : World} {b r clock : Nat} {es : Array MapEntry} {seen : Array Nat} (h : WalkAt w b r es clock seen) : ∃ o : Obj, w.heap[r]? = some o ∧ o.isWalk = true := by
  obtain ⟨since, c0, h1, h2, _⟩ := h
  exact ⟨_, h2, rfl⟩
theorem WalkAt.left_eq {w : World} {b r clock : Nat} {es : Array MapEntry} {seen : Array Nat} (h : WalkAt w b r es clock seen) : w.rangeLeft b r = (leftOf es seen).size := by
  obtain ⟨since, c0, h1, h2, _⟩ := h
  simp [World.rangeLeft, h1, h2]
theorem nodup_le {α : Type} : ∀ (l m : List α), l.Nodup → (∀ x ∈ l, x ∈ m) → l.length ≤ m.length
  | [], m, _, _ => by simp
  | a :: r, m, h, hs => by
    obtain ⟨p, q, rfl⟩ := List.append_of_mem (hs a (by simp))
    have h1 := List.nodup_cons.1 h
    have := nodup_le r (p ++ q) h1.2 (fun x hx => by
      have h2 := hs x (by simp [hx])
      have hne : x ≠ a := fun e => h1.1 (e ▸ hx)
      simp at h2 ⊢
      rcases h2 with h2 | h2 | h2
      · exact .inl h2
      · exact absurd h2 hne
      · exact .inr h2)
    simp at this ⊢
    omega
def Came (es : Array MapEntry) (seen : Array Nat) (xs : List MapEntry) : Prop := seen = (xs.map MapEntry.born).toArray ∧ xs.Nodup ∧ (∀ x ∈ xs, x ∈ es.toList)
theorem Came.nil (es : Array MapEntry) : Came es #[] [] := ⟨rfl, List.nodup_nil, by simp⟩
theorem wpListIn_range_at {F : Fence} {n : Nat} {P : Program} (w : World) {ops : Array Oper} {rest : List Oper} {o : Oper} {a : Act} {Q : Exit → Act → World → Prop} (hg : o.guard = none) (m : Operand) (t : TypeId) (hop : o.op = Op.range t m) (k e : TypeId) (ht : P.underlying t = some (.map k e)) (b clock : Nat) (es : Array MapEntry)
    (hm : a.eval m = .map (some b)) (hb : w.heap[b]? = some (.map es clock)) (hbo : Gv.BornOK es clock)
    (hK : ∀ w', WalkAt w' b w.heap.size es clock #[] → w.grownBy w' none → w'.heap.size = w.heap.size + 1 → wpListIn F n P ops Q rest (a.put o.dst (.pointer (some ⟨w.heap.size, 0, none⟩))) w') :
    wpListIn F n P ops Q (o :: rest) a w := by
  refine wpListIn_plain hg fun K' hK' => ?_
  have hrun := run_range_map w t k e b es clock ht hb
  have hlt := (Array.getElem?_eq_some_iff.1 hb).1
  unfold Oper.wpIn
  refine ⟨?_, ?_⟩
  · simp [Oper.about, hop]
  · rw [Oper.semAt_plain F _ _ (by rw [hop]; intro c hc'; cases hc')]
    simp [execOp, hop, hm, hrun, Result.andThen]
    exact hK' _ _ (hK _ ⟨clock, clock, ((MapKept.heap_alloc w _).2 b hlt).trans hb, (MapKept.heap_alloc w _).1, hbo.1, Nat.le_refl _, Nat.le_refl _⟩ (World.grownBy_alloc w _ none) (by simp))
theorem wpListIn_next_at {F : Fence} {n : Nat} {P : Program} (w : World) {ops : Array Oper} {rest : List Oper} {o : Oper} {a : Act} {Q : Exit → Act → World → Prop} (hg : o.guard = none) (it : Operand) (hop : o.op = Op.next it false) (b r clock : Nat) (es : Array MapEntry) (hbo : Gv.BornOK es clock) (seen : Array Nat) (xs : List MapEntry) (hx : Came es seen xs)
    (hit : a.eval it = .pointer (some ⟨r, 0, none⟩)) (h : WalkAt w b r es clock seen)
    (hDone : xs.Perm es.toList → wpListIn F n P ops Q rest (a.put o.dst (.tuple #[.bool false])) w)
    (hMore : ∀ (e : MapEntry) (w' : World), e ∈ es.toList → Came es (seen.push e.born) (xs ++ [e]) → xs.length < es.size → WalkAt w' b r es clock (seen.push e.born) → w'.rangeLeft b r < w.rangeLeft b r →
      w.grownBy w' (some r) → w'.heap.size = w.heap.size → (Instr.entry (.pointer (some ⟨r, 0, none⟩))).run P w' = .ok (.tuple #[e.key, e.val]) w' → wpListIn F n P ops Q rest (a.put o.dst (.tuple #[.bool true, e.key, e.val])) w') :
    wpListIn F n P ops Q (o :: rest) a w := by
  refine wpListIn_plain hg fun K' hK' => ?_
  unfold Oper.wpIn
  refine ⟨by simp [Oper.about, hop], ?_⟩
  rw [Oper.semAt_plain F _ _ (by rw [hop]; intro c hc'; cases hc')]
  have hle := h.left_eq
  obtain ⟨since, c0, hb, hr, hold, hsc, hsk⟩ := h
  obtain ⟨hse, hxn, hxm⟩ := hx
  have hne : r ≠ b := fun e => by rw [e, hb] at hr; cases hr
  have hnd : es.toList.Nodup := hbo.2.imp fun h e => h (congrArg _ e)
  have hbn : (es.toList.map (·.born)).Nodup := List.pairwise_map.2 hbo.2
  rcases run_next_at (P := P) w o.type r b since c0 seen es clock hr hb hold hsc with ⟨h0, hrun⟩ | ⟨e, he, w1, hal, hrun⟩
  · simp [execOp, hop, hit, hrun, Result.andThen]
    refine hK' _ _ (hDone ?_)
    refine (List.perm_ext_iff_of_nodup hxn hnd).2 fun x => ⟨fun q => hxm x q, fun q => ?_⟩
    have hs := all_seen es seen h0 x q
    rw [hse] at hs
    have hm : x.born ∈ xs.map MapEntry.born := by simpa using hs
    obtain ⟨y, hy, ey⟩ := List.mem_map.1 hm
    rwa [← born_inj hbn (hxm y hy) q ey]
  · simp [execOp, hop, hit, hrun, Result.andThen]
    have hr1 : w1.heap[r]? = some (.mapIter (some b) since seen c0) := by rcases hal with rfl | rfl <;> exact hr
    have hb1 : w1.heap[b]? = some (.map es clock) := by rcases hal with rfl | rfl <;> exact hb
    have hset := heap_set (o' := .mapIter (some b) since (seen.push e.born) clock) hr1
    have hb' : (ChangeMaps.setBlock w1 r (.mapIter (some b) since (seen.push e.born) clock)).heap[b]? = some (.map es clock) := (hset.2 b (fun e1 => hne e1.symm)).trans hb1
    obtain ⟨hem, hes⟩ := mem_left he
    have hc : Came es (seen.push e.born) (xs ++ [e]) := by
      refine ⟨by rw [hse]; simp, List.nodup_append.2 ⟨hxn, by simp, fun y hy z hz => ?_⟩, fun y hy => ?_⟩
      · rw [List.mem_singleton.1 hz]
        intro q
        have : e.born ∈ xs.map MapEntry.born := List.mem_map_of_mem (q ▸ hy)
        rw [hse] at hes
        have h3 : (xs.map MapEntry.born).toArray.contains e.born = true := by simpa using this
        rw [h3] at hes; cases hes
      · rcases List.mem_append.1 hy with q | q
        · exact hxm y q
        · rw [List.mem_singleton.1 q]; exact hem
    have hlen : (xs ++ [e]).length ≤ es.toList.length := nodup_le _ _ hc.2.1 hc.2.2
    have hw : WalkAt (ChangeMaps.setBlock w1 r (.mapIter (some b) since (seen.push e.born) clock)) b r es clock (seen.push e.born) := ⟨since, clock, hb', hset.1, hold, hsk, hsk⟩
    refine hK' _ _ (hMore e _ hem hc (by simp at hlen; omega) hw ?_ ?_ ?_ (run_entry_at _ r b since seen es clock e hset.1 hb' hem hbn))
    · rw [hle, hw.left_eq]
      exact left_shrinks es _ e he
    · rcases hal with rfl | rfl <;> exact ⟨rfl, rfl, rfl, by simp [ChangeMaps.setBlock], fun i _ hi => hset.2 i (fun e1 => hi (by rw [e1]))⟩
    · rcases hal with rfl | rfl <;> simp [ChangeMaps.setBlock]
section
variable {F : Fence} {n : Nat} {P : Program} {w w' : World} {ops : Array Oper} {rest : List Oper} {o : Oper} {a : Act} {Q : Exit → Act → World → Prop} {t : TypeId} {x y : Operand} {v : Value}
theorem wpListIn_load (hg : o.guard = none) (hop : o.op = .load t x) (hr : (Instr.loadAt t (a.eval x)).run P w = .ok v w) (h : wpListIn F n P ops Q rest (a.put o.dst v) w) : wpListIn F n P ops Q (o :: rest) a w := by
  refine wpListIn_plain hg fun K' hK' => ?_
  unfold Oper.wpIn
  refine ⟨by simp [Oper.about, hop], ?_⟩
  rw [Oper.semAt_plain F _ _ (by rw [hop]; intro c hc'; cases hc')]
  unfold execOp
  simp only [hop, Sem.run_bind, Sem.run_pure, Result.andThen_ok, hr]
  exact hK' _ _ h
theorem wpListIn_alloc (hg : o.guard = none) (hop : o.op = .alloc t) (hr : (Instr.alloc t true (.tuple #[])).run P w = .ok v w') (h : wpListIn F n P ops Q rest (a.put o.dst v) w') : wpListIn F n P ops Q (o :: rest) a w := by
  refine wpListIn_plain hg fun K' hK' => ?_
  unfold Oper.wpIn
  refine ⟨by simp [Oper.about, hop], ?_⟩
  rw [Oper.semAt_plain F _ _ (by rw [hop]; intro c hc'; cases hc')]
  unfold execOp
  simp only [hop, Sem.run_bind, Sem.run_pure, Result.andThen_ok, hr]
  exact hK' _ _ h
theorem wpListIn_store (hg : o.guard = none) (hop : o.op = .store t x y) (hr : (Instr.storeAt t (a.eval x) (a.eval y)).run P w = .ok () w') (h : wpListIn F n P ops Q rest (a.put o.dst undef) w') : wpListIn F n P ops Q (o :: rest) a w := by
  refine wpListIn_plain hg fun K' hK' => ?_
  unfold Oper.wpIn
  refine ⟨by simp [Oper.about, hop], ?_⟩
  rw [Oper.semAt_plain F _ _ (by rw [hop]; intro c hc'; cases hc')]
  unfold execOp
  simp only [hop, Sem.run_bind, Sem.run_pure, Result.andThen_ok, hr]
  exact hK' _ _ h
theorem wpListIn_buildSlice1 (hg : o.guard = none) (hop : o.op = .buildSlice t 1 #[(0, x)]) (hr : (Instr.buildSlice t 1 #[(0, a.eval x)]).run P w = .ok v w') (h : wpListIn F n P ops Q rest (a.put o.dst v) w') : wpListIn F n P ops Q (o :: rest) a w := by
  refine wpListIn_plain hg fun K' hK' => ?_
  unfold Oper.wpIn
  refine ⟨by simp [Oper.about, hop], ?_⟩
  rw [Oper.semAt_plain F _ _ (by rw [hop]; intro c hc'; cases hc')]
  unfold execOp
  have he : (#[(0, x)] : Array (Nat × Operand)).map (fun p => (p.1, a.eval p.2)) = #[(0, a.eval x)] := by simp
  simp only [hop, Sem.run_bind, Sem.run_pure, Result.andThen_ok, he, hr]
  exact hK' _ _ h
end
end Go
namespace Gv
open Go
theorem HSim.belowSeal {E : Env} {O : List GObj} {w w' : World} (h : HSim E O w) (hb : RowKit.Below w.heap.size w w') {g n : Nat} {cur : Array Value} {el : TypeId} {fz : Nat × Nat} (hg : w.heap.size ≤ g) (hw : w'.heap[g]? = some (.cells cur el fz)) (h1 : ∀ (j : Nat) v, j < n → cur[j]? = some v → v.oneCell' = true) :
    HSim (E.sealTo g n cur) O w' ∧ Keep E O w (E.sealTo g n cur) O w' := by
  refine h.gen ⟨fun b o v hv => ?_, fun _ _ hs => hs⟩ h.fin hb.os ⟨hb.output, trivial⟩ hb.size (fun b => w.heap.size ≤ b) (fun b hb' => .inr hb') (fun k hk _ => hb.block k hk)
    (fun k o v hv => ?_) (fun k o v hk hv => ?_) (fun i obj ho => .inl ⟨ho, fun b hb' e => ?_⟩) (fun i j oi oj b hij hi hj hbi hbj e => ?_)
  · show (if b = g then (if o < n then cur[o]? else none) else E.snap b o) = some v
    rw [if_neg (by have := h.lt hv; omega)]; exact hv
  · by_cases e : k = g
    · exact .inr (by omega)
    · left; simpa [Env.sealTo, e] using hv
  · have hv' : (if k = g then (if o < n then cur[o]? else none) else E.snap k o) = some v := hv
    by_cases e : k = g
    · rw [if_pos e] at hv'
      by_cases hn : o < n
      · rw [if_pos hn] at hv'
        refine ⟨?_, h1 o v hn hv'⟩
        rw [e]
        simp only [World.cell?, hw]
        simpa using hv'
      · rw [if_neg hn] at hv'; cases hv'
    · rw [if_neg e] at hv'
      have := h.lt hv'; omega
  · have := (h.real i obj ho).blk_lt hb'; omega
  · have e2 : oi.blk (E.sealTo g n cur) = oi.blk E := by cases oi <;> rfl
    rw [e2] at hbi
    have := (h.real i oi hi).blk_lt hbi; omega
theorem HSim.belowO {E : Env} {O : List GObj} {w w' : World} (h : HSim E O w) (hb : RowKit.Below w.heap.size w w') : HSim E O w' ∧ Keep E O w E O w' :=
  h.gen (.refl E) h.fin hb.os ⟨hb.output, trivial⟩ hb.size (fun b => w.heap.size ≤ b) (fun b hb' => .inr hb') (fun k hk _ => hb.block k hk)
    (fun k o v hv => .inl hv) (fun k o v hk hv => absurd (h.lt hv) (by omega)) (fun i obj ho => .inl ⟨ho, fun b hb' e => by have := (h.real i obj ho).blk_lt hb'; omega⟩) (fun i j oi oj b hij hi hj hbi hbj e => by have := (h.real i oi hi).blk_lt hbi; omega)
end Gv
/- Kind of an error; errors.As at the program's *oops.Which: the contracts. -/
set_option linter.unusedVariables false
namespace Gv.Tryz
open Go Gv Go.Proofs Go.RowKit
theorem glob_cell {E : Env} {O : List GObj} {w : World} (h : HSim E O w) : w.cell? ⟨0, 0, none⟩ = some (.iface 131 (.agg #[.pointer (some ⟨2, 45, none⟩)])) :=
  h.sealed _ _ _ (h.glob (0, 0, .iface 131 (.agg #[.pointer (some ⟨2, 45, none⟩)])) (by simp [globs]))
theorem args_one {E : Env} {vs : Array Value} {g : GVal} (h : ArgsR E vs [g]) : ∃ v, vs = #[v] ∧ VR E v g := by
  obtain ⟨h1, h2⟩ := h
  have h3 := h2 0 _ rfl
  refine ⟨vs.getD 0 undef, ?_, h3⟩
  apply Array.ext (by simpa using h1)
  intro i hi hi2
  simp at hi2; subst hi2
  simp [Array.getD, hi]
theorem args_two {E : Env} {vs : Array Value} {g k : GVal} (h : ArgsR E vs [g, k]) : ∃ v u, vs = #[v, u] ∧ VR E v g ∧ VR E u k := by
  obtain ⟨h1, h2⟩ := h
  have h3 := h2 0 _ rfl
  have h4 := h2 1 _ rfl
  have hs : vs.size = 2 := by simpa using h1
  refine ⟨vs.getD 0 undef, vs.getD 1 undef, ?_, h3, h4⟩
  apply Array.ext (by simpa using h1)
  intro i hi hi2
  match i with
  | 0 => simp [Array.getD, hs]
  | 1 => simp [Array.getD, hs]
  | i + 2 => omega
theorem hKindNil : GPure Tryz.prog 30 [.lit .nilIface] (.int .i64 0) :=
  GPure.ofBelow (by kernel_rfl) fun E w vs hs ha => by
    obtain ⟨v, rfl, hv⟩ := args_one ha
    cases hv
    exact (kind_nil w).mono fun e w' ⟨h1, h2⟩ => ⟨_, h1, by rw [h2]; exact Below.refl _ _, .int _ _⟩
theorem hKindErr (n : Int) : GPure Tryz.prog 30 [.iface 38 (.int .i64 n)] (.int .i64 n) :=
  GPure.ofBelow (by kernel_rfl) fun E w vs hs ha => by
    obtain ⟨v, rfl, hv⟩ := args_one ha
    cases hv with
    | iface t v g h =>
      cases h
      exact (kind_hit n w (glob_cell hs)).mono fun e w' ⟨h1, h2⟩ => ⟨_, h1, h2, .int _ _⟩
theorem hKindWhich (gs : List GVal) (n : Int) (h32 : gs.length = 32) : GPure Tryz.prog 30 [.iface 95 (.ref (gs ++ [.iface 38 (.int .i64 n)]))] (.int .i64 n) :=
  GPure.ofBelow (by kernel_rfl) fun E w vs hs ha => by
    obtain ⟨v, rfl, hv⟩ := args_one ha
    cases hv with
    | iface t v g h =>
      cases h with
      | ref b off _ c hsn hc =>
        have h1 := hs.sealed _ _ _ (hsn 32 (by simp [h32]))
        have h2 := hc 32 _ (by rw [List.getElem?_append_right (by omega), h32]; rfl)
        generalize hq : c 32 = x at h1 h2
        cases h2 with
        | iface t v g h3 =>
          cases h3
          exact (kind_which b off n w h1 (glob_cell hs)).mono fun e w' ⟨h1, h2⟩ => ⟨_, h1, h2, .int _ _⟩
theorem storeW (t p : Addr) (old : Value) (W : World) (ht : W.cell? t = some old) (hf : W.frozen? t = false) :
    (Instr.storeAt 95 (.pointer (some t)) (.pointer (some p))).run Tryz.prog W = .ok () (W.setCell t (.pointer (some p))) := by
  have h84 : tab Tryz.prog 95 = some (1, false) := by kernel_rfl
  simp only [Instr.storeAt, Instr.sureAddr, storeVar, Sem.run_bind, Sem.run_pure, Result.andThen_ok, (tab_spec h84 W).1]
  simp [Value.cells, storeCells, Addr.add]
  rw [run_store Tryz.prog W t _ _ (by rfl)]
  simp [ht, hf]
theorem hAsWhich (gs : List GVal) (O : List GObj) (o st : Nat) (g0 : GVal) (hO : O[o]? = some (.row st 1 [[g0]])) (hsol : (GVal.ref gs).solid = true) :
    GCalls Tryz.prog 52 [.iface 95 (.ref gs), .iface 97 (.ptr o st 0 0)] O (fun g O' => g = .bool true ∧ O' = O.set o (.row st 1 [[.ref gs]])) := by
  refine ⟨by kernel_rfl, fun E w vs hs ha => ?_⟩
  obtain ⟨v, u, rfl, hv, hu⟩ := args_two ha
  cases hv with
  | iface t v g h =>
    cases h with
    | ref b off _ c hsn hc =>
      cases hu with
      | iface t u g h =>
        cases h with
        | ptr b2 off2 o st i j l hl hb ho =>
          obtain ⟨l', hl', hls, hsz, hreal⟩ := hs.real _ _ hO
          rw [hl] at hl'; cases hl'
          simp only [hb] at hreal
          obtain ⟨cur, el, hw, hcur, htot, hrows, hsnap⟩ := hreal
          have e2 : off2 < cur.size := by simp at htot; rw [hcur, ho]; omega
          have ht0 : w.cell? ⟨b2, off2, none⟩ = some cur[off2] := by
            simp [World.cell?, hw, e2]
          have hf0 : w.frozen? ⟨b2, off2, none⟩ = false := by
            simp [World.frozen?, hw]
          refine (as_hitW ⟨b, off, none⟩ ⟨b2, off2, none⟩ _ w (glob_cell hs) ht0 hf0).mono ?_
          rintro ev w' ⟨rfl, rfl⟩
          have htl := cell_size ht0
          have hBelow := ((((Below.refl w.heap.size w).alloc (Nat.le_refl _) (.cells #[.pointer (some ⟨b2, off2, none⟩)] 97)).alloc (by simp) (.cells #[.pointer (some ⟨2, 97, none⟩), .pointer (some ⟨w.heap.size, 0, none⟩), .int .u64 150] 117)).alloc (by simp; omega) (.cells #[.pointer (some ⟨2, 97, none⟩), .pointer (some ⟨w.heap.size, 0, none⟩), .int .u64 150] 117)).alloc (by simp; omega) (.cells #[.pointer (some ⟨b, off, none⟩)] 95)
          obtain ⟨s1, k1⟩ := hs.belowO hBelow
          have ht4 : ((((w.alloc (.cells #[.pointer (some ⟨b2, off2, none⟩)] 97)).alloc (.cells #[.pointer (some ⟨2, 97, none⟩), .pointer (some ⟨w.heap.size, 0, none⟩), .int .u64 150] 117)).alloc (.cells #[.pointer (some ⟨2, 97, none⟩), .pointer (some ⟨w.heap.size, 0, none⟩), .int .u64 150] 117)).alloc (.cells #[.pointer (some ⟨b, off, none⟩)] 95)).cell? ⟨b2, off2, none⟩ = some cur[off2] := by
            have htl' : b2 < w.heap.size := htl
            rw [World.cell?_alloc_lt _ _ _ (by simp; omega), World.cell?_alloc_lt _ _ _ (by simp; omega), World.cell?_alloc_lt _ _ _ (by simp; omega), World.cell?_alloc_lt _ _ _ htl']; exact ht0
          have hf4 : ((((w.alloc (.cells #[.pointer (some ⟨b2, off2, none⟩)] 97)).alloc (.cells #[.pointer (some ⟨2, 97, none⟩), .pointer (some ⟨w.heap.size, 0, none⟩), .int .u64 150] 117)).alloc (.cells #[.pointer (some ⟨2, 97, none⟩), .pointer (some ⟨w.heap.size, 0, none⟩), .int .u64 150] 117)).alloc (.cells #[.pointer (some ⟨b, off, none⟩)] 95)).frozen? ⟨b2, off2, none⟩ = false := by
            have htl' : b2 < w.heap.size := htl
            rw [World.frozen?_alloc_old _ _ _ (by simp; omega), World.frozen?_alloc_old _ _ _ (by simp; omega), World.frozen?_alloc_old _ _ _ (by simp; omega), World.frozen?_alloc_old _ _ _ (Nat.ne_of_lt htl')]; exact hf0
          generalize ((((w.alloc (.cells #[.pointer (some ⟨b2, off2, none⟩)] 97)).alloc (.cells #[.pointer (some ⟨2, 97, none⟩), .pointer (some ⟨w.heap.size, 0, none⟩), .int .u64 150] 117)).alloc (.cells #[.pointer (some ⟨2, 97, none⟩), .pointer (some ⟨w.heap.size, 0, none⟩), .int .u64 150] 117)).alloc (.cells #[.pointer (some ⟨b, off, none⟩)] 95)) = w4 at s1 k1 ht4 hf4 ⊢
          obtain ⟨w5, E5, O5, hrun, s5, k5, rfl⟩ := store_sound (P := Tryz.prog) (t := 95) (g := .ptr o st 0 0) (v := .ref gs) (KU := fun O' => O' = O.set o (.row st 1 [[.ref gs]])) s1 (.ptr b2 off2 o st 0 0 l hl hb ho) (.ref b off gs c hsn hc) (by
            have h84 : tab Tryz.prog 95 = some (1, false) := by kernel_rfl
            simp only [storeV, h84, hO]
            simp [GVal.okCells, GVal.cells, splice, hsol])
          rw [storeW _ _ _ _ ht4 hf4] at hrun
          cases hrun
          exact ⟨_, _, _, _, rfl, s5, k1.trans k5, .bool true, rfl, rfl⟩
end Gv.Tryz
/- Whose hash an error tells. -/
set_option linter.unusedVariables false
set_option linter.unusedSimpArgs false
set_option maxRecDepth 20000
set_option maxHeartbeats 4000000
namespace Gv.Tryz
open Go Gv Go.Proofs
theorem gWhose (h : Hs) (n : Int) : GPure Tryz.prog 29 [whichG h n] (.tuple [.agg (bytesG h.1), .bool true]) := by
  have hs33 : (GVal.ref (bytesG h.1 ++ [errG n])).solid = true := by simp [GVal.solid]
  refine h29.pure mixS (by simp) ?_
  simp only [gstart, s29, List.cons_append, List.nil_append, List.length_cons, List.length_nil, Nat.reduceAdd, Nat.reduceSub, List.replicate_succ, List.replicate_zero]
  simp +contextual -implicitDefEqProofs (maxSteps := 2000000) (disch := omega) only [↓allocV, ↓ifaceV, GVal.ofConst, List.map, Nat.reduceAdd, GVal.solid, vcA, ↓vcB, vcC, fbFw, e29]
  intro s1
  refine ⟨rfl, fun s2 => ?_⟩
  refine (hAsWhich (bytesG h.1 ++ [errG n]) _ 1 s2 _ rfl hs33).mono ?_
  rintro g O' ⟨rfl, rfl⟩
  simp +contextual -implicitDefEqProofs (maxSteps := 2000000) (disch := omega) only [binV, ↓loadV, ↓storeV, ↓fieldAddrV, ↓nilV, GVal.cells, grp, GVal.ofConst, ↓resV, resG, List.headD, List.take, List.drop, Nat.reduceEqDiff, Nat.reduceAdd, Nat.reduceLeDiff, reduceCtorEq, implies_true, splice, vcA, ↓vcB, vcC, fbFw, List.set]
  have h32 : (bytesG h.1).length = 32 := len32 h
  have e1 : List.take 32 (bytesG h.1 ++ [errG n]) = bytesG h.1 := List.take_left' h32
  have e2 : ∀ X, List.take 32 (bytesG h.1 ++ X) = bytesG h.1 := fun X => List.take_left' h32
  simp only [e1, e2, h32, List.length_append]
  exact ⟨by omega, by simp, of_eq_true (solidH h), trivial, by simp, of_eq_true (leG_self _)⟩
end Gv.Tryz
/- errors.As at the program's own *oops.Which: nil, a plain api.Errno. -/
set_option linter.unusedVariables false
namespace Gv.Tryz
open Go Gv Go.Proofs Go.RowKit
set_option maxRecDepth 20000 in
set_option maxHeartbeats 4000000 in
theorem as_nilW (t : Addr) (w : World) : Calls Tryz.prog 52 #[.nilIface, .iface 97 (.pointer (some t))] w fun ev w' => ev = .returned (.bool false) ∧ w' = w := by
  go_enter Tryz.func52, Tryz.ntmps52
  go_wp2
  go_ret
  exact ⟨rfl, rfl⟩
theorem hAsNil (O : List GObj) (o st : Nat) : GCalls Tryz.prog 52 [.lit .nilIface, .iface 97 (.ptr o st 0 0)] O (fun g O' => g = .bool false ∧ O' = O) := by
  refine ⟨by kernel_rfl, fun E w vs hs ha => ?_⟩
  obtain ⟨v, u, rfl, hv, hu⟩ := args_two ha
  cases hv
  cases hu with
  | iface t u g h =>
    cases h with
    | ptr b2 off2 o st i j l hl hb ho =>
      refine (as_nilW ⟨b2, off2, none⟩ w).mono ?_
      rintro ev w' ⟨rfl, rfl⟩
      obtain ⟨s1, k1⟩ := hs.belowO (Below.refl _ _)
      exact ⟨_, _, _, _, rfl, s1, k1, .bool false, rfl, rfl⟩
theorem hAsMiss (n : Int) (O : List GObj) (o st : Nat) : GCalls Tryz.prog 52 [.iface 38 (.int .i64 n), .iface 97 (.ptr o st 0 0)] O (fun g O' => g = .bool false ∧ O' = O) := by
  refine ⟨by kernel_rfl, fun E w vs hs ha => ?_⟩
  obtain ⟨v, u, rfl, hv, hu⟩ := args_two ha
  cases hv with
  | iface t v g h =>
    cases h
    cases hu with
    | iface t u g h =>
      cases h with
      | ptr b2 off2 o st i j l hl hb ho =>
        refine (as_missW n ⟨b2, off2, none⟩ w (glob_cell hs)).mono ?_
        rintro ev w' ⟨rfl, rfl⟩
        obtain ⟨s1, k1⟩ := hs.belowO ((((Below.refl w.heap.size w).alloc (Nat.le_refl _) (.cells #[.pointer (some ⟨b2, off2, none⟩)] 97)).alloc (by simp) (.cells #[.pointer (some ⟨2, 97, none⟩), .pointer (some ⟨w.heap.size, 0, none⟩), .int .u64 150] 117)).alloc (by simp; omega) (.cells #[.pointer (some ⟨2, 97, none⟩), .pointer (some ⟨w.heap.size, 0, none⟩), .int .u64 150] 117))
        exact ⟨_, _, _, _, rfl, s1, k1, .bool false, rfl, rfl⟩
end Gv.Tryz
/- Whose hash an error tells: none. -/
set_option linter.unusedVariables false
set_option linter.unusedSimpArgs false
set_option maxRecDepth 20000
set_option maxHeartbeats 4000000
namespace Gv.Tryz
open Go Gv Go.Proofs
open Nat (reduceEqDiff reduceAdd reduceSub reduceLeDiff reduceMul reduceLT)
theorem gWhoseNil : GPure Tryz.prog 29 [.lit .nilIface] (.tuple [.agg (bytesG h0.1), .bool false]) := by
  refine h29.pure mixS (by simp) ?_
  simp only [gstart, s29, List.cons_append, List.nil_append, List.length_cons, List.length_nil, reduceAdd, reduceSub, List.replicate_succ, List.replicate_zero]
  simp +contextual -implicitDefEqProofs (maxSteps := 2000000) (disch := omega) only [↓allocV, ↓ifaceV, GVal.ofConst, List.map, reduceAdd, GVal.solid, vcA, ↓vcB, vcC, fbFw, e29]
  intro s1
  refine ⟨rfl, fun s2 => ?_⟩
  refine (hAsNil _ 1 s2).mono ?_
  rintro g O' ⟨rfl, rfl⟩
  simp +contextual -implicitDefEqProofs (maxSteps := 2000000) (disch := omega) only [↓loadV, ↓storeV, ↓buildV, fillG, GVal.cells, grp, GVal.ofConst, ↓resV, resG, List.map, List.take, List.drop, reduceEqDiff, reduceAdd, reduceLeDiff, reduceCtorEq, allSolid, GVal.solid, splice, vcA, ↓vcB, vcC, fbFw, List.set]
  exact of_eq_true (leG_self _)
theorem gWhoseErr (n : Int) : GPure Tryz.prog 29 [errG n] (.tuple [.agg (bytesG h0.1), .bool false]) := by
  refine h29.pure mixS (by simp) ?_
  simp only [gstart, s29, List.cons_append, List.nil_append, List.length_cons, List.length_nil, reduceAdd, reduceSub, List.replicate_succ, List.replicate_zero]
  simp +contextual -implicitDefEqProofs (maxSteps := 2000000) (disch := omega) only [↓allocV, ↓ifaceV, GVal.ofConst, List.map, reduceAdd, GVal.solid, vcA, ↓vcB, vcC, fbFw, e29]
  intro s1
  refine ⟨rfl, fun s2 => ?_⟩
  refine (hAsMiss n _ 1 s2).mono ?_
  rintro g O' ⟨rfl, rfl⟩
  simp +contextual -implicitDefEqProofs (maxSteps := 2000000) (disch := omega) only [↓loadV, ↓storeV, ↓buildV, fillG, GVal.cells, grp, GVal.ofConst, ↓resV, resG, List.map, List.take, List.drop, reduceEqDiff, reduceAdd, reduceLeDiff, reduceCtorEq, allSolid, GVal.solid, splice, vcA, ↓vcB, vcC, fbFw, List.set]
  exact of_eq_true (leG_self _)
end Gv.Tryz
set_option maxRecDepth 100000
set_option linter.defProp false
namespace Gv.Tryz
open Go Gv Go.Proofs
end Gv.Tryz
/- From a reading of plain data (numbers, bools, strings, slices, structs) to what it is without memory. -/
set_option linter.unusedVariables false
namespace Gv
open Go Go.RowKit Go.WideShapes Go.ChangeShapes

def Env.all (w : World) : Env := ⟨fun b o => match w.cell? ⟨b, o, none⟩ with
  | some v => if v.oneCell' = true then some v else none
  | none => none, fun _ => none⟩
theorem Env.all_at {w : World} {b o : Nat} {v : Value} (h : w.cell? ⟨b, o, none⟩ = some v) (hv : v.oneCell' = true) : (Env.all w).snap b o = some v := by
  simp [Env.all, h, hv]
def GlobsIn (w : World) : Prop := ∀ p ∈ globs, w.cell? ⟨p.1, p.2.1, none⟩ = some p.2.2 ∧ p.2.2.oneCell' = true
theorem globsIn_none {w : World} (h : globs = []) : GlobsIn w := fun p hp => by rw [h] at hp; cases hp
theorem HSim.all (w : World) (hg : GlobsIn w) : HSim (Env.all w) [] w := by
  have key : ∀ b o v, (Env.all w).snap b o = some v → w.cell? ⟨b, o, none⟩ = some v ∧ v.oneCell' = true := by
    intro b o v h
    simp only [Env.all] at h
    split at h
    · rename_i x hx
      split at h
      · rename_i hv
        simp only [Option.some.injEq] at h
        subst h
        exact ⟨hx, hv⟩
      · cases h
    · cases h
  exact ⟨⟨0, (fun c hc => by cases hc), fun _ _ => rfl⟩, fun b o v h => (key b o v h).1, fun b o v h => (key b o v h).2, fun i x hx => by simp at hx, fun i j oi oj b _ hi => by simp at hi, fun p hp => Env.all_at (hg p hp).1 (hg p hp).2⟩

inductive Sh where
  | int (k : IntKind)
  | bool
  | str
  | slice (e : Sh)
  | agg (l : List Sh)
mutual
def Sh.size : Sh → Nat
  | .agg l => Sh.sizes l
  | _ => 1
def Sh.sizes : List Sh → Nat
  | [] => 0
  | s :: r => s.size + Sh.sizes r
end
mutual
def shB (P : Program) : Sh → TypeId → Bool
  | .int k, t => match P.underlying t with
    | some (.int k') => k = k'
    | _ => false
  | .bool, t => match P.underlying t with
    | some .bool => true
    | _ => false
  | .str, t => match P.underlying t with
    | some .string => true
    | _ => false
  | .slice e, t => match P.underlying t with
    | some (.slice et) => shB P e et && P.cellsOf et == e.size && decide (0 < e.size)
    | _ => false
  | .agg l, t => match P.underlying t with
    | some (.struct fs) => shBs P l fs.toList 0 && P.cellsOf t == Sh.sizes l
    | some (.array n e) => l.length == n && (shAs P l e && P.cellsOf t == Sh.sizes l)
    | _ => false
def shAs (P : Program) : List Sh → TypeId → Bool
  | [], _ => true
  | s :: r, t => P.cellsOf t == s.size && (shB P s t && shAs P r t)
def shBs (P : Program) : List Sh → List Field → Nat → Bool
  | [], [], _ => true
  | s :: r, f :: fs, o => f.offset == o && P.cellsOf f.type == s.size && shB P s f.type && shBs P r fs (o + s.size)
  | _, _, _ => false
end
mutual
def Den : Sh → List GVal → Prop
  | .int k, gs => ∃ n, gs = [.int k n] ∧ (Lit.int k n).wf = true
  | .bool, gs => ∃ b, gs = [.bool b]
  | .str, gs => ∃ s, gs = [.str s] ∧ s.length ≤ maxLen
  | .slice e, gs => ∃ xs, gs = [.slice xs .none] ∧ xs.length ≤ maxLen ∧ ∀ x ∈ xs, Den e x
  | .agg l, gs => ∃ ps, gs = ps.flatten ∧ Dens l ps
def Dens : List Sh → List (List GVal) → Prop
  | [], ps => ps = []
  | s :: r, ps => ∃ p q, ps = p :: q ∧ Den s p ∧ Dens r q
end

def CellsOK (w : World) (cs : List Value) (gs : List GVal) : Prop :=
  cs.length = gs.length ∧ (∀ c ∈ cs, c.oneCell' = true) ∧ ∀ (j : Nat) c g, cs[j]? = some c → gs[j]? = some g → VR (Env.all w) c g
theorem CellsOK.one {w : World} {v : Value} {g : GVal} (hv : v.oneCell' = true) (h : VR (Env.all w) v g) : CellsOK w [v] [g] :=
  ⟨rfl, by simpa using hv, fun j c g' h1 h2 => by
    cases j with
    | zero => simp at h1 h2; subst h1; subst h2; exact h
    | succ j => simp at h1⟩
theorem CellsOK.append {w : World} {a b : List Value} {x y : List GVal} (h : CellsOK w a x) (k : CellsOK w b y) : CellsOK w (a ++ b) (x ++ y) := by
  refine ⟨by simp [h.1, k.1], fun c hc => ?_, fun j c g h1 h2 => ?_⟩
  · rcases List.mem_append.1 hc with hc | hc
    · exact h.2.1 c hc
    · exact k.2.1 c hc
  · by_cases hj : j < a.length
    · rw [List.getElem?_append_left hj] at h1
      rw [List.getElem?_append_left (by rw [← h.1]; exact hj)] at h2
      exact h.2.2 j c g h1 h2
    · rw [List.getElem?_append_right (by omega)] at h1
      rw [List.getElem?_append_right (by rw [← h.1]; omega), ← h.1] at h2
      exact k.2.2 _ c g h1 h2

section
variable {H : Type} {enc : TypeId × Value → H} {P : Program} {w : World} {spare : Nat → Bool} {held : Bool}

theorem cells_at {base : Nat} {a : Addr} {n : Nat} {cs : List Value} (h : w.cells? base a n = some cs) : cs.length = n ∧ ∀ j, j < n → w.cell? (a.add j) = cs[j]? := by
  unfold World.cells? at h
  split at h
  · have hl := mapM_some_length h
    refine ⟨by simpa using hl, fun j hj => ?_⟩
    exact mapM_some_get h j j (by simp [hj])
  · cases h

theorem flat_len {α : Type} {sz : Nat} : ∀ {xs : List (List α)}, (∀ x ∈ xs, x.length = sz) → xs.flatten.length = xs.length * sz
  | [], _ => by simp
  | x :: xs, h => by
    rw [List.flatten_cons, List.length_append, h x (by simp), flat_len fun y hy => h y (by simp [hy])]
    simp [Nat.succ_mul, Nat.add_comm]

mutual
theorem rd : ∀ (S : Sh) (n : Nat) (t : TypeId) (cs : List Value) (x : DataW H × List MemPlace), shB P S t = true → DataW.trod enc P w 0 spare held n t cs = some x → ∃ gs, CellsOK w cs gs ∧ Den S gs ∧ cs.length = S.size
  | .int k, n, t, cs, x, hs, h => by
    unfold shB at hs
    split at hs
    · rename_i k' hu
      have hs : k = k' := by simpa using hs
      subst hs
      obtain ⟨m, rfl, _, hwf⟩ := DataW.trod_int hu h
      exact ⟨[.int k m], .one rfl (.int _ _), ⟨m, rfl, hwf⟩, rfl⟩
    · cases hs
  | .bool, n, t, cs, x, hs, h => by
    unfold shB at hs
    split at hs
    · rename_i hu
      obtain ⟨b, rfl, _⟩ := DataW.trod_bool hu h
      exact ⟨[.bool b], .one rfl (.bool _), ⟨b, rfl⟩, rfl⟩
    · cases hs
  | .str, n, t, cs, x, hs, h => by
    unfold shB at hs
    split at hs
    · rename_i hu
      cases n with
      | zero => simp [DataW.trod] at h
      | succ n =>
        unfold DataW.trod at h
        rw [hu] at h
        match cs, h with
        | [.string b], h =>
          simp only at h
          split at h
          · rename_i hl
            refine ⟨[.str b.data.toList], .one rfl ?_, ⟨_, rfl, ?_⟩, rfl⟩
            · exact VR.str (E := Env.all w) b.data.toList
            · simpa using hl
          · cases h
    · cases hs
  | .slice e, n, t, cs, x, hs, h => by
    unfold shB at hs
    split at hs
    · rename_i et hu
      simp only [Bool.and_eq_true, beq_iff_eq] at hs
      obtain ⟨⟨hs, hsz⟩, hpos⟩ := hs
      have hpos : 0 < e.size := by simpa using hpos
      rcases DataW.trod_slice hu h with ⟨rfl, _⟩ | ⟨a, len, cap, elems, rest, m, rfl, rfl, _, _, hlc, hcm, hel, helem, _, _⟩
      · exact ⟨[.slice [] .none], .one rfl (.slice none 0 0 [] .none 0 (fun _ => .bool true) rfl (Nat.le_refl _) (by simp) (fun hx => absurd rfl hx) (by simp) trivial), ⟨[], rfl, by simp, by simp⟩, rfl⟩
      · have each : ∀ i : Nat, ∃ cs gs, i < len → (w.cells? 0 (a.add (i * P.cellsOf et)) (P.cellsOf et)) = some cs ∧ CellsOK w cs gs ∧ Den e gs ∧ cs.length = e.size := by
          intro i
          by_cases hi : i < len
          · have := helem i hi
            rw [← hel] at hi
            rw [List.getElem?_eq_getElem hi, Option.bind_eq_some_iff] at this
            obtain ⟨cs, h1, h2⟩ := this
            obtain ⟨gs, h3, h4, h5⟩ := rd e m et cs _ hs h2
            exact ⟨cs, gs, fun _ => ⟨h1, h3, h4, h5⟩⟩
          · exact ⟨[], [], fun h => absurd h hi⟩
        obtain ⟨C, hC⟩ := Classical.axiomOfChoice each
        obtain ⟨G, hCG⟩ := Classical.axiomOfChoice hC
        refine ⟨[.slice ((List.range len).map G) .none], .one rfl ?_, ⟨_, rfl, by simp; omega, fun x hx => ?_⟩, rfl⟩
        · have hG : ∀ i, i < len → (G i).length = e.size := fun i hi => by rw [← (hCG i hi).2.1.1]; exact (hCG i hi).2.2.2
          have cell : ∀ i, i < len → ∀ j, j < e.size → w.cell? ((a.add (i * e.size)).add j) = (C i)[j]? := fun i hi j hj => by
            have := cells_at (hCG i hi).1
            rw [hsz] at this
            exact this.2 j hj
          have dm : ∀ k, k < len * e.size → k / e.size < len ∧ k % e.size < e.size ∧ k / e.size * e.size + k % e.size = k := fun k hk =>
            ⟨(Nat.div_lt_iff_lt_mul hpos).2 hk, Nat.mod_lt _ hpos, by rw [Nat.mul_comm]; exact Nat.div_add_mod k e.size⟩
          have hszs : ∀ x ∈ (List.range len).map G, x.length = e.size := fun x hx => by
            obtain ⟨i, hi, rfl⟩ := List.mem_map.1 hx
            exact hG i (by simpa using hi)
          refine .slice (some a) len cap _ .none e.size (fun k => ((C (k / e.size))[k % e.size]?).getD (.bool true)) (by simp) hlc hszs (fun hx => ?_) (fun k g hk => ?_) trivial
          · have hlen : 0 < len := by
              rcases Nat.eq_zero_or_pos len with h0 | h0
              · subst h0; simp at hx
              · exact h0
            have in_ : ∀ i, i < len → ∀ j, j < e.size → ∃ v, (C i)[j]? = some v ∧ v.oneCell' = true := fun i hi j hj => by
              have hl : j < (C i).length := by rw [(hCG i hi).2.2.2]; exact hj
              exact ⟨_, List.getElem?_eq_getElem hl, (hCG i hi).2.1.2.1 _ (List.getElem_mem hl)⟩
            obtain ⟨b, off, spot⟩ := a
            have hspot : spot = none := by
              obtain ⟨v, hv, _⟩ := in_ 0 hlen 0 hpos
              have := cell 0 hlen 0 hpos
              rw [hv] at this
              simpa [Addr.add] using World.cell?_spot this
            subst hspot
            refine ⟨b, off, rfl, fun k hk => ?_⟩
            obtain ⟨d1, d2, d3⟩ := dm k hk
            obtain ⟨v, hv, hv2⟩ := in_ _ d1 _ d2
            have := cell _ d1 _ d2
            rw [hv] at this
            rw [hv]
            refine Env.all_at ?_ hv2
            rw [add_at, add_at, Nat.add_assoc, d3] at this
            exact this
          · have hk' : k < len * e.size := by
              have := (List.getElem?_eq_some_iff.1 hk).1
              rw [flat_len hszs] at this
              simpa using this
            obtain ⟨d1, d2, d3⟩ := dm k hk'
            have hx : ((List.range len).map G)[k / e.size]? = some (G (k / e.size)) := by simp [d1]
            have e1 := flatten_at _ hszs (k / e.size) (k % e.size) _ hx d2
            rw [d3, hk] at e1
            have hl : k % e.size < (C (k / e.size)).length := by rw [(hCG _ d1).2.2.2]; exact d2
            rw [List.getElem?_eq_getElem hl]
            exact (hCG _ d1).2.1.2.2 _ _ _ (List.getElem?_eq_getElem hl) e1.symm
        · obtain ⟨i, hi, rfl⟩ := List.mem_map.1 hx
          exact (hCG i (by simpa using hi)).2.2.1
    · cases hs
  | .agg l, n, t, cs, x, hs, h => by
    unfold shB at hs
    split at hs
    · rename_i fs hu
      simp only [Bool.and_eq_true, beq_iff_eq] at hs
      obtain ⟨hs, hsz⟩ := hs
      obtain ⟨xs, m, rfl, rfl, hcl, hxl, hf⟩ := DataW.trod_struct hu h
      obtain ⟨ps, h1, h2⟩ := rds l m fs.toList cs 0 hs (by simpa [hsz] using hcl) (fun f hf' => by
        obtain ⟨i, hi⟩ := List.getElem?_of_mem hf'
        have := hf i f (by simpa using hi)
        have hlt : i < xs.length := by rw [hxl]; simpa using (List.getElem?_eq_some_iff.1 hi).1
        rw [List.getElem?_eq_getElem hlt] at this
        exact ⟨_, this⟩)
      exact ⟨ps.flatten, by simpa using h1, ⟨ps, rfl, h2⟩, by rw [hcl, hsz]; rfl⟩
    · rename_i k et hu
      simp only [Bool.and_eq_true, beq_iff_eq] at hs
      obtain ⟨hlk, hs, hsz⟩ := hs
      obtain ⟨xs, m, rfl, rfl, hcl, hxl, hf⟩ := DataW.trod_array hu h
      obtain ⟨ps, h1, h2⟩ := rda l m et cs hs (by simpa [hsz] using hcl) (fun i hi => by
        have := hf i (by omega)
        rw [List.getElem?_eq_getElem (by omega)] at this
        exact ⟨_, this⟩)
      exact ⟨ps.flatten, h1, ⟨ps, rfl, h2⟩, by rw [hcl, hsz]; rfl⟩
    · cases hs
theorem rda : ∀ (l : List Sh) (n : Nat) (et : TypeId) (cs : List Value), shAs P l et = true → cs.length = Sh.sizes l →
    (∀ i, i < l.length → ∃ x, DataW.trod enc P w 0 spare held n et ((cs.drop (i * P.cellsOf et)).take (P.cellsOf et)) = some x) → ∃ ps, CellsOK w cs ps.flatten ∧ Dens l ps
  | [], n, et, cs, hs, hl, h => by
    have : cs = [] := List.length_eq_zero_iff.1 hl
    subst this
    exact ⟨[], ⟨rfl, by simp, fun j c g h1 => by simp at h1⟩, rfl⟩
  | s :: r, n, et, cs, hs, hl, h => by
    unfold shAs at hs
    simp only [Bool.and_eq_true, beq_iff_eq] at hs
    obtain ⟨h1, h2, h3⟩ := hs
    obtain ⟨x, hx⟩ := h 0 (by simp)
    rw [Nat.zero_mul, List.drop_zero] at hx
    obtain ⟨gs, q1, q2, q3⟩ := rd s n et _ _ h2 hx
    simp only [Sh.sizes] at hl
    obtain ⟨ps, k1, k2⟩ := rda r n et (cs.drop (P.cellsOf et)) h3 (by rw [List.length_drop, hl, h1]; omega) (fun i hi => by
      obtain ⟨y, hy⟩ := h (i + 1) (by simpa using hi)
      rw [List.drop_drop]
      have e : P.cellsOf et + i * P.cellsOf et = (i + 1) * P.cellsOf et := by rw [Nat.succ_mul, Nat.add_comm]
      rw [e]; exact ⟨y, hy⟩)
    refine ⟨gs :: ps, ?_, ⟨gs, ps, rfl, q2, k2⟩⟩
    rw [List.flatten_cons]
    have := q1.append k1
    rwa [List.take_append_drop] at this
theorem rds : ∀ (l : List Sh) (n : Nat) (fs : List Field) (cs : List Value) (o : Nat), shBs P l fs o = true → cs.length = o + Sh.sizes l →
    (∀ f ∈ fs, ∃ x, DataW.trod enc P w 0 spare held n f.type ((cs.drop f.offset).take (P.cellsOf f.type)) = some x) → ∃ ps, CellsOK w (cs.drop o) ps.flatten ∧ Dens l ps
  | [], n, fs, cs, o, hs, hl, h => by
    refine ⟨[], ?_, rfl⟩
    rw [List.drop_eq_nil_of_le (by rw [hl]; simp [Sh.sizes])]
    exact ⟨rfl, by simp, fun j c g h1 => by simp at h1⟩
  | s :: r, n, fs, cs, o, hs, hl, h => by
    match fs, hs, h with
    | f :: fs, hs, h =>
      unfold shBs at hs
      simp only [Bool.and_eq_true, beq_iff_eq] at hs
      obtain ⟨⟨⟨h1, h2⟩, h3⟩, h4⟩ := hs
      obtain ⟨x, hx⟩ := h f (by simp)
      obtain ⟨gs, q1, q2, q3⟩ := rd s n f.type _ _ h3 hx
      simp only [Sh.sizes] at hl
      obtain ⟨ps, k1, k2⟩ := rds r n fs cs (o + s.size) h4 (by rw [hl]; omega) (fun f' hf' => h f' (by simp [hf']))
      refine ⟨gs :: ps, ?_, ⟨gs, ps, rfl, q2, k2⟩⟩
      rw [List.flatten_cons]
      have e : cs.drop o = (cs.drop f.offset).take (P.cellsOf f.type) ++ cs.drop (o + s.size) := by
        rw [h1, h2, ← List.drop_drop]; exact (List.take_append_drop _ _).symm
      rw [e]
      exact q1.append k1
    | [], hs, h => simp [shBs] at hs
end

def Sh.val : Sh → List GVal → GVal
  | .agg _, gs => .agg gs
  | _, gs => gs.headD .any

theorem arg_read {S : Sh} {t : TypeId} {r : Reach} {base : Nat} {v : Value} {d : DataW H} {ps : List MemPlace} (hs : shB P S t = true) (hval : Value.okWide P w r base t v) (h : DataW.Trod enc P w 0 spare held t v d ps) :
    ∃ gs, Den S gs ∧ VR (Env.all w) v (S.val gs) := by
  obtain ⟨n, h⟩ := h
  obtain ⟨gs, h1, h2, h3⟩ := rd S n t _ _ hs h
  refine ⟨gs, h2, ?_⟩
  have single : ∀ x : Value, v = x → x.cells.toList = [x] → (∃ g, gs = [g]) → S.val gs = gs.headD .any → VR (Env.all w) v (S.val gs) := by
    intro x hx hc ⟨g, hg⟩ hv
    subst hx; subst hg
    rw [hv]
    rw [hc] at h1
    exact h1.2.2 0 _ _ rfl rfl
  cases S with
  | int k =>
    unfold shB at hs
    split at hs
    · rename_i k' hu
      obtain ⟨n, rfl⟩ := okWide_int hu hval
      obtain ⟨m, e, _⟩ := h2
      exact single _ rfl rfl ⟨_, e⟩ rfl
    · cases hs
  | bool =>
    unfold shB at hs
    split at hs
    · rename_i hu
      obtain ⟨n, rfl⟩ := okWide_bool hu hval
      obtain ⟨m, e⟩ := h2
      exact single _ rfl rfl ⟨_, e⟩ rfl
    · cases hs
  | str =>
    unfold shB at hs
    split at hs
    · rename_i hu
      obtain ⟨n, rfl⟩ := okWide_string hu hval
      obtain ⟨m, e, _⟩ := h2
      exact single _ rfl rfl ⟨_, e⟩ rfl
    · cases hs
  | slice e =>
    unfold shB at hs
    split at hs
    · rename_i et hu
      obtain ⟨a, len, cap, rfl⟩ := okWide_slice hu hval
      obtain ⟨m, e, _⟩ := h2
      exact single _ rfl rfl ⟨_, e⟩ rfl
    · cases hs
  | agg l =>
    unfold shB at hs
    split at hs
    · rename_i fs hu
      obtain ⟨cs, rfl, _⟩ := okWide_struct hu hval
      refine .agg cs gs (by have := h1.1; simpa [Value.cells] using this) (fun j g hj => ?_)
      have hl : j < cs.size := by
        have := (List.getElem?_eq_some_iff.1 hj).1
        rw [← h1.1] at this; simpa [Value.cells] using this
      have := h1.2.2 j cs[j] g (by simp [Value.cells, hl]) hj
      simpa [Array.getD, hl] using this
    · rename_i n e hu
      obtain ⟨cs, rfl⟩ : ∃ cs : Array Value, v = .agg cs := by
        simp only [Value.okWide, hu] at hval
        obtain ⟨cs, h1, _⟩ := hval
        exact ⟨cs, h1⟩
      refine .agg cs gs (by have := h1.1; simpa [Value.cells] using this) (fun j g hj => ?_)
      have hl : j < cs.size := by
        have := (List.getElem?_eq_some_iff.1 hj).1
        rw [← h1.1] at this; simpa [Value.cells] using this
      have := h1.2.2 j cs[j] g (by simp [Value.cells, hl]) hj
      simpa [Array.getD, hl] using this
    · cases hs

theorem GPure.lawAt {P : Program} {f : FuncId} {args : Array Value} {gs : List GVal} {w : World} (h : GPure P f gs (.bool true)) (ha : ArgsR (Env.all w) args gs) (hg : GlobsIn w := by exact Gv.globsIn_none rfl) :
    Calls P f args w fun e w' => e = .returned (.bool true) ∧ Old w w' := by
  refine (h.2 (Env.all w) w args (HSim.all w hg) ha).mono ?_
  rintro e w' ⟨v, E', O', g, rfl, h1, h2, h3, rfl, rfl⟩
  cases h3
  exact ⟨rfl, h2.old⟩
theorem ArgsR.nil {E : Env} : ArgsR E #[] [] := ⟨rfl, fun i g h => by simp at h⟩
theorem ArgsR.one {E : Env} {v : Value} {g : GVal} (h : VR E v g) : ArgsR E #[v] [g] := ⟨rfl, fun i g' hg => by
  cases i with
  | zero => simp at hg; subst hg; exact h
  | succ i => simp at hg⟩

theorem Old.trod {W W' : World} {t : TypeId} {v : Value} {d : DataW H} {ps : List MemPlace} (hl : laidOutB P = true) (hr : P.readableRec t = true) (hrow : t < P.types.size) (hb : Old W W') {sp : Nat → Bool}
    (h : DataW.Trod enc P W 0 (fun _ => true) true t v d ps) (hlt : ∀ x ∈ ps, x.block < W.heap.size) (hs : ∀ x ∈ ps, sp x.block = true) : DataW.Trod enc P W' 0 sp true t v d ps :=
  WideElems.Trod_stays hl hr hrow h (fun x hx => by
    have hp := hlt x hx
    cases x with
    | cell b o => exact World.cell?_of_block (w := W) (hb.block b hp)
    | map b => exact hb.block b hp) hs
end
end Gv
