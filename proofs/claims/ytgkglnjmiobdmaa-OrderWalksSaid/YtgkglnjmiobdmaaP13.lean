/- Contracts: order's push and step, where the function that tells who is done reads two objects more. -/
import Derived.Test.YtgkglnjmiobdmaaP9
import Derived.Test.YtgkglnjmiobdmaaP10
import Derived.Test.YtgkglnjmiobdmaaP12
set_option linter.unusedVariables false
set_option linter.unusedSimpArgs false
set_option maxRecDepth 20000
set_option maxHeartbeats 4000000
namespace Gv.Try
open Go Gv Go.Proofs
abbrev wObjY (y1 y2 : GObj) (st s : Nat) (m : GM) (sq sw sv so n : Nat) (dg : GVal) (K Z : List Cm) (S out : List Hs) : List GObj :=
  [.row st 1 [[.map 1 s]], .map s (kvG encL m), y1, y2, .map sq (kvG encB (setM S)), .row sw 5 [[.ptr 0 st 0 0, dg, .map 4 sq, .own 6 sv 0 n, .slice (hsG out) (.tok 7 so)]], .row sv 33 (csG (K ++ Z)), .tok so 32]
abbrev DoneY (y1 y2 : GObj) (st s : Nat) (m : GM) (F : FuncId) (caps : List GVal) (h : Hs) (b : Bool) : Prop := ∀ X : List GObj, GCalls Try.prog F (.agg (bytesG h.1) :: caps) (.row st 1 [[.map 1 s]] :: .map s (kvG encL m) :: y1 :: y2 :: X) (fun g O' => g = .bool b ∧ O' = .row st 1 [[.map 1 s]] :: .map s (kvG encL m) :: y1 :: y2 :: X)
theorem gPush1Y (y1 y2 : GObj) (m : GM) (hm : GMOK m) (h : Hs) (st s sq sw sv so n : Nat) (dg : GVal) (K Z : List Cm) (S out : List Hs) (hl : look m h = none) (hn : n = K.length) :
    GCalls Try.prog 29 [.ptr 5 sw 0 0, .agg (bytesG h.1)] (wObjY y1 y2 st s m sq sw sv so n dg K Z S out) (fun g O' => g = .tuple [] ∧ O' = wObjY y1 y2 st s m sq sw sv so n dg K Z S out) := by
  subst hn
  have c := fun X => gParK m h st s (by have := hm.pars h; omega) X
  simp only [hl, Option.isSome_none] at c
  refine h29.calls mixS (by simp) ?_
  simp only [gstart, s29, List.cons_append, List.nil_append, List.length_cons, List.length_nil, Nat.reduceAdd, Nat.reduceSub, List.replicate_succ, List.replicate_zero]
  simp +contextual -implicitDefEqProofs (maxSteps := 2000000) (disch := omega) only [drawC, drawK, keepT, binV, ↓unV, ↓loadV, ↓storeV, ↓fieldAddrV, ↓boxV, ↓buildV, ↓buildSliceV, ↓nilV, ↓appendV, ↓srcV, fillG, fillE, place, GVal.cells, GVal.ofConst, ↓resV, resG, ↓reduceIte, Nat.reduceEqDiff, Nat.reduceAdd, Nat.reduceSub, Nat.reduceLeDiff, reduceCtorEq, ↓asrcV, ↓lookupV, ↓mapUpdateV, keyOk, keyCells, pairG, aggV, Tag.cap, GVal.solid, Nat.reduceBEq, Nat.reduceMul, Nat.reduceLT, vcA, ↓vcB, vcC, fbFd, e29, vcD, v32]
  refine (c _).mono ?_
  rintro g O' ⟨rfl, rfl⟩
  simp +contextual -implicitDefEqProofs (maxSteps := 2000000) (disch := omega) only [drawC, drawK, keepT, binV, ↓unV, ↓loadV, ↓storeV, ↓fieldAddrV, ↓boxV, ↓buildV, ↓buildSliceV, ↓nilV, ↓appendV, ↓srcV, fillG, fillE, place, GVal.cells, GVal.ofConst, ↓resV, resG, ↓reduceIte, Nat.reduceEqDiff, Nat.reduceAdd, Nat.reduceSub, Nat.reduceLeDiff, reduceCtorEq, ↓asrcV, ↓lookupV, ↓mapUpdateV, keyOk, keyCells, pairG, aggV, Tag.cap, GVal.solid, Nat.reduceBEq, Nat.reduceMul, Nat.reduceLT, vcA, ↓vcB, vcC, fbFd, e29, setO_3, setO_4, setO_5, setO_6, setO_7, setO_8, kfind_h, vcD, v32]
theorem gPush2Y (y1 y2 : GObj) (m : GM) (hm : GMOK m) (h : Hs) (st s sq sw sv so n : Nat) (dg : GVal) (K Z : List Cm) (S out : List Hs) (l : List Hs) (hl : look m h = some l) (hS : h ∈ S) (hn : n = K.length) :
    GCalls Try.prog 29 [.ptr 5 sw 0 0, .agg (bytesG h.1)] (wObjY y1 y2 st s m sq sw sv so n dg K Z S out) (fun g O' => g = .tuple [] ∧ O' = wObjY y1 y2 st s m sq sw sv so n dg K Z S out) := by
  subst hn
  have c := fun X => gParK m h st s (by have := hm.pars h; omega) X
  simp only [hl, Option.isSome_some, parsM_some hl] at c
  obtain ⟨i, hi, hv, _⟩ := look_idx encB (setM S) h true (by rw [look_set, if_pos hS])
  refine h29.calls mixS (by simp) ?_
  simp only [gstart, s29, List.cons_append, List.nil_append, List.length_cons, List.length_nil, Nat.reduceAdd, Nat.reduceSub, List.replicate_succ, List.replicate_zero]
  simp +contextual -implicitDefEqProofs (maxSteps := 2000000) (disch := omega) only [drawC, drawK, keepT, binV, ↓unV, ↓loadV, ↓storeV, ↓fieldAddrV, ↓boxV, ↓buildV, ↓buildSliceV, ↓nilV, ↓appendV, ↓srcV, fillG, fillE, place, GVal.cells, GVal.ofConst, ↓resV, resG, ↓reduceIte, Nat.reduceEqDiff, Nat.reduceAdd, Nat.reduceSub, Nat.reduceLeDiff, reduceCtorEq, ↓asrcV, ↓lookupV, ↓mapUpdateV, keyOk, keyCells, pairG, aggV, Tag.cap, GVal.solid, Nat.reduceBEq, Nat.reduceMul, Nat.reduceLT, vcA, ↓vcB, vcC, fbFd, e29, vcD, v32]
  refine (c _).mono ?_
  rintro g O' ⟨rfl, rfl⟩
  simp +contextual -implicitDefEqProofs (maxSteps := 2000000) (disch := omega) only [drawC, drawK, keepT, binV, ↓unV, ↓loadV, ↓storeV, ↓fieldAddrV, ↓boxV, ↓buildV, ↓buildSliceV, ↓nilV, ↓appendV, ↓srcV, fillG, fillE, place, GVal.cells, GVal.ofConst, ↓resV, resG, ↓reduceIte, Nat.reduceEqDiff, Nat.reduceAdd, Nat.reduceSub, Nat.reduceLeDiff, reduceCtorEq, ↓asrcV, ↓lookupV, ↓mapUpdateV, keyOk, keyCells, pairG, aggV, Tag.cap, GVal.solid, Nat.reduceBEq, Nat.reduceMul, Nat.reduceLT, vcA, ↓vcB, vcC, fbFd, e29, setO_3, setO_4, setO_5, setO_6, setO_7, setO_8, kfind_h, hi, hv, vcD, v32]
theorem gPush3Y (y1 y2 : GObj) (m : GM) (hm : GMOK m) (h : Hs) (st s sq sw sv so n : Nat) (F : FuncId) (caps : List GVal) (K Z : List Cm) (S out : List Hs) (l : List Hs) (hl : look m h = some l) (hS : h ∉ S) (hF : DoneY y1 y2 st s m F caps h true) (hn : n = K.length) :
    GCalls Try.prog 29 [.ptr 5 sw 0 0, .agg (bytesG h.1)] (wObjY y1 y2 st s m sq sw sv so n (.func (.func F) [] caps) K Z S out) (fun g O' => g = .tuple [] ∧ O' = wObjY y1 y2 st s m sq sw sv so n (.func (.func F) [] caps) K Z S out) := by
  subst hn
  have c := fun X => gParK m h st s (by have := hm.pars h; omega) X
  simp only [hl, Option.isSome_some, parsM_some hl] at c
  obtain ⟨hi, hw⟩ := look_none encB (setM S) h (by rw [look_set, if_neg hS])
  have hw := hw true
  rw [mset_set S h hS] at hw
  refine h29.calls mixS (by simp) ?_
  simp only [gstart, s29, List.cons_append, List.nil_append, List.length_cons, List.length_nil, Nat.reduceAdd, Nat.reduceSub, List.replicate_succ, List.replicate_zero]
  simp +contextual -implicitDefEqProofs (maxSteps := 2000000) (disch := omega) only [drawC, drawK, keepT, binV, ↓unV, ↓loadV, ↓storeV, ↓fieldAddrV, ↓boxV, ↓buildV, ↓buildSliceV, ↓nilV, ↓appendV, ↓srcV, fillG, fillE, place, GVal.cells, GVal.ofConst, ↓resV, resG, ↓reduceIte, Nat.reduceEqDiff, Nat.reduceAdd, Nat.reduceSub, Nat.reduceLeDiff, reduceCtorEq, ↓asrcV, ↓lookupV, ↓mapUpdateV, keyOk, keyCells, pairG, aggV, Tag.cap, GVal.solid, Nat.reduceBEq, Nat.reduceMul, Nat.reduceLT, vcA, ↓vcB, vcC, fbFd, e29, vcD, v32]
  refine (c _).mono ?_
  rintro g O' ⟨rfl, rfl⟩
  simp +contextual -implicitDefEqProofs (maxSteps := 2000000) (disch := omega) only [drawC, drawK, keepT, binV, ↓unV, ↓loadV, ↓storeV, ↓fieldAddrV, ↓boxV, ↓buildV, ↓buildSliceV, ↓nilV, ↓appendV, ↓srcV, fillG, fillE, place, GVal.cells, GVal.ofConst, ↓resV, resG, ↓reduceIte, Nat.reduceEqDiff, Nat.reduceAdd, Nat.reduceSub, Nat.reduceLeDiff, reduceCtorEq, ↓asrcV, ↓lookupV, ↓mapUpdateV, keyOk, keyCells, pairG, aggV, Tag.cap, GVal.solid, Nat.reduceBEq, Nat.reduceMul, Nat.reduceLT, vcA, ↓vcB, vcC, fbFd, e29, setO_3, setO_4, setO_5, setO_6, setO_7, setO_8, kfind_h, hi, hw, vcD, v32]
  refine (hF _).mono ?_
  rintro g O' ⟨rfl, rfl⟩
  simp +contextual -implicitDefEqProofs (maxSteps := 2000000) (disch := omega) only [drawC, drawK, keepT, binV, ↓unV, ↓loadV, ↓storeV, ↓fieldAddrV, ↓boxV, ↓buildV, ↓buildSliceV, ↓nilV, ↓appendV, ↓srcV, fillG, fillE, place, GVal.cells, GVal.ofConst, ↓resV, resG, ↓reduceIte, Nat.reduceEqDiff, Nat.reduceAdd, Nat.reduceSub, Nat.reduceLeDiff, reduceCtorEq, ↓asrcV, ↓lookupV, ↓mapUpdateV, keyOk, keyCells, pairG, aggV, Tag.cap, GVal.solid, Nat.reduceBEq, Nat.reduceMul, Nat.reduceLT, vcA, ↓vcB, vcC, fbFd, e29, setO_3, setO_4, setO_5, setO_6, setO_7, setO_8, kfind_h, csG_len, all_csG, hi, hw, vcD, v33, v32]
theorem gPush4Y (y1 y2 : GObj) (m : GM) (hm : GMOK m) (h : Hs) (st s sq sw sv so n : Nat) (F : FuncId) (caps : List GVal) (K Z : List Cm) (S out : List Hs) (l : List Hs) (hl : look m h = some l) (hS : h ∉ S) (hF : DoneY y1 y2 st s m F caps h false) (hK : K.length ≤ 1000000) (hn : n = K.length) :
    GCalls Try.prog 29 [.ptr 5 sw 0 0, .agg (bytesG h.1)] (wObjY y1 y2 st s m sq sw sv so n (.func (.func F) [] caps) K Z S out) (fun g O' => ∃ sv', g = .tuple [] ∧ O' = wObjY y1 y2 st s m sq sw sv' so (n + 1) (.func (.func F) [] caps) (K ++ [(h, l)]) [] (S ++ [h]) out) := by
  subst hn
  have c := fun X => gParK m h st s (by have := hm.pars h; omega) X
  simp only [hl, Option.isSome_some, parsM_some hl] at c
  obtain ⟨hi, hw⟩ := look_none encB (setM S) h (by rw [look_set, if_neg hS])
  have hw := hw true
  rw [mset_set S h hS] at hw
  refine h29.calls mixS (by simp) ?_
  simp only [gstart, s29, List.cons_append, List.nil_append, List.length_cons, List.length_nil, Nat.reduceAdd, Nat.reduceSub, List.replicate_succ, List.replicate_zero]
  simp +contextual -implicitDefEqProofs (maxSteps := 2000000) (disch := omega) only [drawC, drawK, keepT, binV, ↓unV, ↓loadV, ↓storeV, ↓fieldAddrV, ↓boxV, ↓buildV, ↓buildSliceV, ↓nilV, ↓appendV, ↓srcV, fillG, fillE, place, GVal.cells, GVal.ofConst, ↓resV, resG, ↓reduceIte, Nat.reduceEqDiff, Nat.reduceAdd, Nat.reduceSub, Nat.reduceLeDiff, reduceCtorEq, ↓asrcV, ↓lookupV, ↓mapUpdateV, keyOk, keyCells, pairG, aggV, Tag.cap, GVal.solid, Nat.reduceBEq, Nat.reduceMul, Nat.reduceLT, vcA, ↓vcB, vcC, fbFd, e29, vcD, v32]
  refine (c _).mono ?_
  rintro g O' ⟨rfl, rfl⟩
  simp +contextual -implicitDefEqProofs (maxSteps := 2000000) (disch := omega) only [drawC, drawK, keepT, binV, ↓unV, ↓loadV, ↓storeV, ↓fieldAddrV, ↓boxV, ↓buildV, ↓buildSliceV, ↓nilV, ↓appendV, ↓srcV, fillG, fillE, place, GVal.cells, GVal.ofConst, ↓resV, resG, ↓reduceIte, Nat.reduceEqDiff, Nat.reduceAdd, Nat.reduceSub, Nat.reduceLeDiff, reduceCtorEq, ↓asrcV, ↓lookupV, ↓mapUpdateV, keyOk, keyCells, pairG, aggV, Tag.cap, GVal.solid, Nat.reduceBEq, Nat.reduceMul, Nat.reduceLT, vcA, ↓vcB, vcC, fbFd, e29, setO_3, setO_4, setO_5, setO_6, setO_7, setO_8, kfind_h, hi, hw, vcD, v32]
  refine (hF _).mono ?_
  rintro g O' ⟨rfl, rfl⟩
  simp +contextual -implicitDefEqProofs (maxSteps := 2000000) (disch := omega) only [drawC, drawK, keepT, binV, ↓unV, ↓loadV, ↓storeV, ↓fieldAddrV, ↓boxV, ↓buildV, ↓buildSliceV, ↓nilV, ↓appendV, ↓srcV, fillG, fillE, place, GVal.cells, GVal.ofConst, ↓resV, resG, ↓reduceIte, Nat.reduceEqDiff, Nat.reduceAdd, Nat.reduceSub, Nat.reduceLeDiff, reduceCtorEq, ↓asrcV, ↓lookupV, ↓mapUpdateV, keyOk, keyCells, pairG, aggV, Tag.cap, GVal.solid, Nat.reduceBEq, Nat.reduceMul, Nat.reduceLT, vcA, ↓vcB, vcC, fbFd, e29, setO_3, setO_4, setO_5, setO_6, setO_7, setO_8, kfind_h, csG_len, all_csG, hi, hw, vcD, v33, v32]
  refine ⟨by simp, by omega, by omega, fun v => ⟨v, ?_⟩⟩
  rw [take_csG]
  simp [csG_app, csG_one, comG]
theorem gPushY (y1 y2 : GObj) (m : GM) (hm : GMOK m) (h : Hs) (st s sq sw sv so n : Nat) (F : FuncId) (caps : List GVal) (dn : Hs → Bool) (hd : ∀ h, DoneY y1 y2 st s m F caps h (dn h)) (K Z : List Cm) (S out : List Hs) (hK : K.length ≤ 1000000) (hn : n = K.length) :
    GCalls Try.prog 29 [.ptr 5 sw 0 0, .agg (bytesG h.1)] (wObjY y1 y2 st s m sq sw sv so n (.func (.func F) [] caps) K Z S out) (fun g O' => ∃ sv' Z', g = .tuple [] ∧ O' = if pushed m dn S h = true then wObjY y1 y2 st s m sq sw sv' so (n + 1) (.func (.func F) [] caps) (K ++ [(h, parsM m h)]) Z' (S ++ [h]) out else wObjY y1 y2 st s m sq sw sv' so n (.func (.func F) [] caps) K Z' S out) := by
  have stay : pushed m dn S h = false → GCalls Try.prog 29 [.ptr 5 sw 0 0, .agg (bytesG h.1)] (wObjY y1 y2 st s m sq sw sv so n (.func (.func F) [] caps) K Z S out) (fun g O' => g = .tuple [] ∧ O' = wObjY y1 y2 st s m sq sw sv so n (.func (.func F) [] caps) K Z S out) →
      GCalls Try.prog 29 [.ptr 5 sw 0 0, .agg (bytesG h.1)] (wObjY y1 y2 st s m sq sw sv so n (.func (.func F) [] caps) K Z S out) (fun g O' => ∃ sv' Z', g = .tuple [] ∧ O' = if pushed m dn S h = true then wObjY y1 y2 st s m sq sw sv' so (n + 1) (.func (.func F) [] caps) (K ++ [(h, parsM m h)]) Z' (S ++ [h]) out else wObjY y1 y2 st s m sq sw sv' so n (.func (.func F) [] caps) K Z' S out) := fun hp hc => by
    rw [hp]
    refine hc.mono ?_
    rintro g O' ⟨rfl, rfl⟩
    exact ⟨sv, Z, rfl, by rw [if_neg (by simp)]⟩
  cases hl : look m h with
  | none => exact stay (by unfold pushed; rw [hl]; rfl) (gPush1Y y1 y2 m hm h st s sq sw sv so n (.func (.func F) [] caps) K Z S out hl hn)
  | some l =>
    rw [parsM_some hl]
    rw [parsM_some hl] at stay
    by_cases hS : h ∈ S
    · exact stay (by unfold pushed; rw [hl]; simp [hS]) (gPush2Y y1 y2 m hm h st s sq sw sv so n (.func (.func F) [] caps) K Z S out l hl hS hn)
    · have hF := hd h
      cases hb : dn h with
      | true =>
        rw [hb] at hF
        exact stay (by unfold pushed; rw [hl, hb]; simp) (gPush3Y y1 y2 m hm h st s sq sw sv so n F caps K Z S out l hl hS hF hn)
      | false =>
        rw [hb] at hF
        have hp : pushed m dn S h = true := by unfold pushed; rw [hl, hb]; simp [hS]
        rw [hp]
        refine (gPush4Y y1 y2 m hm h st s sq sw sv so n F caps K Z S out l hl hS hF hK hn).mono ?_
        rintro g O' ⟨sv', rfl, rfl⟩
        exact ⟨sv', [], rfl, by rw [if_pos rfl]⟩
theorem gStep1Y (y1 y2 : GObj) (m : GM) (hm : GMOK m) (st s sq sw sv so n : Nat) (F : FuncId) (caps : List GVal) (dn : Hs → Bool) (hd : ∀ h, DoneY y1 y2 st s m F caps h (dn h)) (K Z : List Cm) (x p : Hs) (r S out : List Hs) (hK : K.length ≤ 999999) (hn : n = K.length) :
    GCalls Try.prog 30 [.ptr 5 sw 0 0] (wObjY y1 y2 st s m sq sw sv so (n + 1) (.func (.func F) [] caps) (K ++ [(x, p :: r)]) Z S out) (fun g O' => ∃ sv' Z', g = .tuple [] ∧ O' = if pushed m dn S p = true then wObjY y1 y2 st s m sq sw sv' so (n + 2) (.func (.func F) [] caps) (K ++ [(x, r)] ++ [(p, parsM m p)]) Z' (S ++ [p]) out else wObjY y1 y2 st s m sq sw sv' so (n + 1) (.func (.func F) [] caps) (K ++ [(x, r)]) Z' S out) := by
  subst hn
  have eS : (csG (K ++ [(x, p :: r)] ++ Z)).getD K.length [] = bytesG x.1 ++ [.slice (hsG (p :: r)) .none] := by
    rw [csG_at _ _ (by simp)]
    simp [List.getD, comG]
  have d1 : ((K.length : Int) + 1 - 1).toNat = K.length := by omega
  have eH : (hsG (p :: r)).getD 0 [] = bytesG p.1 := rfl
  have d2 : ((0 : Int) < (r.length : Int) + 1) = True := eq_true (by omega)
  have eD : List.drop (Int.toNat 1) (List.take ((r.length : Int) + 1).toNat (hsG (p :: r))) = hsG r := by
    have e : ((r.length : Int) + 1).toNat = (hsG (p :: r)).length := by rw [hsG_len]; simp
    rw [e, List.take_length]; rfl
  have eW : (csG (K ++ [(x, p :: r)] ++ Z)).set K.length (bytesG x.1 ++ [.slice (hsG r) .none]) = csG (K ++ [(x, r)] ++ Z) := by
    rw [csG_app, csG_app, csG_app, csG_app, List.append_assoc, List.set_append_right _ _ (by rw [csG_len]; omega), csG_len, Nat.sub_self, List.append_assoc]
    rfl
  have cP := gPushY y1 y2 m hm p st s sq sw sv so (K.length + 1) F caps dn hd (K ++ [(x, r)]) Z S out (by simp; omega) (by simp)
  refine GCalls.dropTo ?_
  refine h30.calls mixS (by simp) ?_
  simp only [gstart, s30, List.cons_append, List.nil_append, List.length_cons, List.length_nil, Nat.reduceAdd, Nat.reduceSub, List.replicate_succ, List.replicate_zero]
  simp +contextual -implicitDefEqProofs (maxSteps := 2000000) (disch := omega) only [drawC, drawK, keepT, ↓lenV, binV, optV, ↓loadV, ↓storeV, ↓fieldAddrV, ↓indexAddrV, ↓allocV, ↓buildSliceV, ↓sliceV, ↓nilV, ↓appendV, ↓srcV, bound, cutTag, hiTag, fillE, GVal.cells, GVal.ofConst, ↓resV, resG, ↓reduceIte, Nat.reduceEqDiff, Nat.reduceAdd, Nat.reduceSub, Nat.reduceLeDiff, reduceCtorEq, ↓asrcV, Tag.cap, GVal.solid, Nat.reduceBEq, Nat.reduceMul, Nat.reduceLT, vcA, ↓vcB, vcC, fbFd, e30, kfind_h, csG_len, all_csG, eS, eH, d1, d2, eD, eW, all_hsG, toNat0, setO_3, setO_4, setO_5, setO_6, setO_7, setO_8, true_imp_iff, Nat.sub_zero, List.drop_zero, hsG_len, List.length_append, List.length_cons, List.length_nil, List.length_singleton, vcD, v33, v32]
  refine ⟨by omega, by omega, by omega, by omega, by omega, by omega, fun u => ⟨by omega, by omega, by omega, by omega, by omega, ?_⟩⟩
  refine (GCalls.tail cP (by rintro g O' ⟨_, _, rfl, rfl⟩; split <;> exact ⟨rfl, by simp⟩) rfl (by simp) [.row u 32 [bytesG p.1]]).mono ?_
  rintro g O' ⟨_, ⟨sv', Z', rfl, rfl⟩, rfl⟩
  simp +contextual -implicitDefEqProofs (maxSteps := 2000000) (disch := omega) only [drawC, drawK, keepT, ↓lenV, binV, optV, ↓loadV, ↓storeV, ↓fieldAddrV, ↓indexAddrV, ↓allocV, ↓buildSliceV, ↓sliceV, ↓nilV, ↓appendV, ↓srcV, bound, cutTag, hiTag, fillE, GVal.cells, GVal.ofConst, ↓resV, resG, ↓reduceIte, Nat.reduceEqDiff, Nat.reduceAdd, Nat.reduceSub, Nat.reduceLeDiff, reduceCtorEq, ↓asrcV, Tag.cap, GVal.solid, Nat.reduceBEq, Nat.reduceMul, Nat.reduceLT, vcA, ↓vcB, vcC, fbFd, e30, vcD]
  exact ⟨_, _, _, rfl, leA_refl _, sv', Z', rfl, rfl⟩
theorem gStep0Y (y1 y2 : GObj) (m : GM) (st s sq sw sv so n : Nat) (dg : GVal) (K Z : List Cm) (x : Hs) (S out : List Hs) (hK : K.length ≤ 999999) (ho : out.length ≤ 1000000) (hn : n = K.length) :
    GCalls Try.prog 30 [.ptr 5 sw 0 0] (wObjY y1 y2 st s m sq sw sv so (n + 1) dg (K ++ [(x, [])]) Z S out) (fun g O' => ∃ so', g = .tuple [] ∧ O' = wObjY y1 y2 st s m sq sw sv so' n dg K ((x, []) :: Z) S (out ++ [x])) := by
  subst hn
  have eS : (csG (K ++ [(x, [])] ++ Z)).getD K.length [] = bytesG x.1 ++ [.slice (hsG []) .none] := by
    rw [csG_at _ _ (by simp)]
    simp [List.getD, comG]
  have d1 : ((K.length : Int) + 1 - 1).toNat = K.length := by omega
  refine h30.calls mixS (by simp) ?_
  simp only [gstart, s30, List.cons_append, List.nil_append, List.length_cons, List.length_nil, Nat.reduceAdd, Nat.reduceSub, List.replicate_succ, List.replicate_zero]
  simp +contextual -implicitDefEqProofs (maxSteps := 2000000) (disch := omega) only [drawC, drawK, keepT, ↓lenV, binV, optV, ↓loadV, ↓storeV, ↓fieldAddrV, ↓indexAddrV, ↓allocV, ↓buildSliceV, ↓sliceV, ↓nilV, ↓appendV, ↓srcV, bound, cutTag, hiTag, fillE, GVal.cells, GVal.ofConst, ↓resV, resG, ↓reduceIte, Nat.reduceEqDiff, Nat.reduceAdd, Nat.reduceSub, Nat.reduceLeDiff, reduceCtorEq, ↓asrcV, Tag.cap, GVal.solid, Nat.reduceBEq, Nat.reduceMul, Nat.reduceLT, vcA, ↓vcB, vcC, fbFd, e30, kfind_h, csG_len, all_csG, eS, d1, toNat0, setO_3, setO_4, setO_5, setO_6, setO_7, setO_8, Int.lt_irrefl, false_imp_iff, true_and, Nat.sub_zero, List.drop_zero, hsG_len, all_hsG, List.length_append, List.length_cons, List.length_nil, List.length_singleton, vcD, v33, v32]
  refine ⟨by omega, by omega, by omega, by omega, by omega, by omega, by omega, fun so' => ⟨by omega, by omega, by omega, so', ?_⟩⟩
  simp [hsG_app, hsG]
end Gv.Try
/- Contracts: order's Walk, where the function that tells who is done reads two objects more. -/
set_option linter.unusedVariables false
set_option linter.unusedSimpArgs false
set_option maxRecDepth 20000
set_option maxHeartbeats 4000000
namespace Gv.Try
open Go Gv Go.Proofs
theorem gWalkY (y1 y2 : GObj) (m : GM) (hm : GMOK m) (hs : List Hs) (th : Tag) (st s : Nat) (F : FuncId) (caps : List GVal) (dn : Hs → Bool) (hF : ∀ h : Hs, DoneY y1 y2 st s m F caps h (dn h)) (T : WSt) (hT : VisL m dn hs ([], []) T) (hl : hs.length ≤ 1000000) :
    GCalls Try.prog 13 [.ptr 0 st 0 0, .slice (hsG hs) th, (.func (.func F) [] caps)] (gObj st s m ++ [y1, y2]) (fun g O' => g = .slice (hsG T.2) .none ∧ O' = gObj st s m ++ [y1, y2]) := by
  have hml := hm.len
  have hd := hF
  refine GCalls.dropTo ?_
  refine h13.calls mixS (by simp) ?_
  simp only [gstart, s13, List.cons_append, List.nil_append, List.length_cons, List.length_nil, Nat.reduceAdd, Nat.reduceSub, List.replicate_succ, List.replicate_zero]
  simp +contextual -implicitDefEqProofs (maxSteps := 2000000) (disch := omega) only [↓lenV, binV, optV, ↓loadV, ↓storeV, ↓fieldAddrV, ↓indexAddrV, ↓allocV, ↓boxV, ↓buildV, ↓sliceV, ↓nilV, bound, cutTag, hiTag, fillG, place, GVal.cells, GVal.ofConst, ↓resV, resG, ↓reduceIte, Nat.reduceEqDiff, Nat.reduceAdd, Nat.reduceSub, Nat.reduceLeDiff, reduceCtorEq, ↓makeMapV, aggV, Tag.cap, GVal.solid, Nat.reduceBEq, Nat.reduceMul, Nat.reduceLT, vcA, ↓vcB, vcC, fbFd, e13, hsG_len, vcD]
  refine fun sq => ⟨⟨rfl, rfl, rfl⟩, fun sw => ?_⟩
  refine vcSLoop_by (ι := { p : ((Nat × List Cm) × (List Hs × List Hs)) × (Nat × Nat) // p.1.1.1 ≤ hs.length ∧ VisL m dn (hs.drop p.1.1.1) p.1.2 T ∧ SInv m p.1.2.1 p.1.2.2 0 }) (fun p => ⟨[.ptr 0 st 0 0, .slice (hsG hs) th, (.func (.func F) [] caps)] ++ List.replicate 4 .any ++ [.ptr 5 sw 0 0] ++ List.replicate 9 .any ++ [.slice (hsG hs) th, .int .i64 hs.length, .int .i64 (p.1.1.1.1 : Nat)] ++ List.replicate 19 .any, wObjY y1 y2 st s m sq sw p.1.2.1 p.1.2.2 0 (.func (.func F) [] caps) [] p.1.1.1.2 p.1.1.2.1 p.1.1.2.2⟩) (fun p => hs.length - p.1.1.1.1) ?_ ?_
  · refine Into.cellRow 5 3 33 rfl rfl rfl rfl ?_
    simp +contextual -implicitDefEqProofs (maxSteps := 2000000) (disch := omega) only [↓lenV, binV, optV, ↓loadV, ↓storeV, ↓fieldAddrV, ↓indexAddrV, ↓allocV, ↓boxV, ↓buildV, ↓sliceV, ↓nilV, bound, cutTag, hiTag, fillG, place, GVal.cells, GVal.ofConst, ↓resV, resG, ↓reduceIte, Nat.reduceEqDiff, Nat.reduceAdd, Nat.reduceSub, Nat.reduceLeDiff, reduceCtorEq, ↓makeMapV, aggV, Tag.cap, GVal.solid, Nat.reduceBEq, Nat.reduceMul, Nat.reduceLT, vcA, ↓vcB, vcC, fbFd, e13, vcD]
    intro sv
    refine Into.cellTok 5 4 32 [] rfl rfl rfl rfl ?_
    simp +contextual -implicitDefEqProofs (maxSteps := 2000000) (disch := omega) only [↓lenV, binV, optV, ↓loadV, ↓storeV, ↓fieldAddrV, ↓indexAddrV, ↓allocV, ↓boxV, ↓buildV, ↓sliceV, ↓nilV, bound, cutTag, hiTag, fillG, place, GVal.cells, GVal.ofConst, ↓resV, resG, ↓reduceIte, Nat.reduceEqDiff, Nat.reduceAdd, Nat.reduceSub, Nat.reduceLeDiff, reduceCtorEq, ↓makeMapV, aggV, Tag.cap, GVal.solid, Nat.reduceBEq, Nat.reduceMul, Nat.reduceLT, vcA, ↓vcB, vcC, fbFd, e13, vcD]
    intro so
    exact Into.first ⟨(((0, []), ([], [])), (sv, so)), by show 0 ≤ _; omega, by simpa using hT, ⟨List.nodup_nil, by simp, by simp⟩⟩ ⟨[], rfl⟩ (by simp [WL, leG_self, leG_any, hsG_len])
  · rintro ⟨⟨⟨⟨k, Z⟩, ⟨S, out⟩⟩, ⟨sv, so⟩⟩, hk, hV, hI⟩
    change k ≤ hs.length at hk
    change VisL m dn (hs.drop k) (S, out) T at hV
    change SInv m S out 0 at hI
    have hSm := hI.le
    have hOl := hI.len
    by_cases h : k < hs.length
    · have d0 : ((k : Int) < (hs.length : Int)) = True := eq_true (by omega)
      have eS := hsG_at hs k h
      rw [dropH h] at hV
      generalize hs.getD k h0 = x at *
      have cP := gPushY y1 y2 m hm x st s sq sw sv so 0 F caps dn hd [] Z S out (by simp) rfl
      simp +contextual -implicitDefEqProofs (maxSteps := 2000000) (disch := omega) only [↓lenV, binV, optV, ↓loadV, ↓storeV, ↓fieldAddrV, ↓indexAddrV, ↓allocV, ↓boxV, ↓buildV, ↓sliceV, ↓nilV, bound, cutTag, hiTag, fillG, place, GVal.cells, GVal.ofConst, ↓resV, resG, ↓reduceIte, Nat.reduceEqDiff, Nat.reduceAdd, Nat.reduceSub, Nat.reduceLeDiff, reduceCtorEq, ↓makeMapV, aggV, Tag.cap, GVal.solid, Nat.reduceBEq, Nat.reduceMul, Nat.reduceLT, vcA, ↓vcB, vcC, fbFd, e13, setO_3, setO_4, setO_5, setO_6, setO_7, setO_8, hsG_len, d0, eS, vcD, v32]
      refine ⟨by omega, fun u => ?_⟩
      refine (GCalls.tail cP (by rintro g O' ⟨_, _, rfl, rfl⟩; split <;> exact ⟨rfl, by simp⟩) rfl (by simp) [.row u 32 [bytesG x.1]]).mono ?_
      rintro g O' ⟨_, ⟨sv2, Z2, rfl, rfl⟩, rfl⟩
      have hT1 : ∃ T1, VisL m dn (hs.drop (k + 1)) T1 T ∧ (if pushed m dn S x = true then FinS m dn [(x, parsM m x)] (S ++ [x], out) T1 else T1 = (S, out)) := by
        cases hp : pushed m dn S x with
        | false => exact ⟨_, hV.inv_skip hp, by rw [if_neg (by simp)]⟩
        | true =>
          obtain ⟨so1, hV1, hV2⟩ := hV.inv_go hp
          exact ⟨_, hV2, by rw [if_pos rfl]; exact ⟨so1, hV1, rfl⟩⟩
      obtain ⟨T1, hV2, hF⟩ := hT1
      simp +contextual -implicitDefEqProofs (maxSteps := 2000000) (disch := omega) only [↓lenV, binV, optV, ↓loadV, ↓storeV, ↓fieldAddrV, ↓indexAddrV, ↓allocV, ↓boxV, ↓buildV, ↓sliceV, ↓nilV, bound, cutTag, hiTag, fillG, place, GVal.cells, GVal.ofConst, ↓resV, resG, ↓reduceIte, Nat.reduceEqDiff, Nat.reduceAdd, Nat.reduceSub, Nat.reduceLeDiff, reduceCtorEq, ↓makeMapV, aggV, Tag.cap, GVal.solid, Nat.reduceBEq, Nat.reduceMul, Nat.reduceLT, vcA, ↓vcB, vcC, fbFd, e13, setO_3, setO_4, setO_5, setO_6, setO_7, setO_8, vcD, v32]
      refine vcSLoop_by (ι := { p : ((List Cm × List Cm) × (List Hs × List Hs)) × (Nat × Nat) // FinS m dn p.1.1.1.reverse p.1.2 T1 ∧ SInv m p.1.2.1 p.1.2.2 p.1.1.1.length }) (fun p => ⟨[.ptr 0 st 0 0, .slice (hsG hs) th, (.func (.func F) [] caps)] ++ List.replicate 4 .any ++ [.ptr 5 sw 0 0] ++ List.replicate 9 .any ++ [.slice (hsG hs) th, .int .i64 hs.length, .int .i64 (k : Nat)] ++ List.replicate 19 .any, wObjY y1 y2 st s m sq sw p.1.2.1 p.1.2.2 p.1.1.1.1.length (.func (.func F) [] caps) p.1.1.1.1 p.1.1.1.2 p.1.1.2.1 p.1.1.2.2⟩) (fun p => wMu m p.1.1.2.1 p.1.1.1.1) ?_ ?_
      · cases hp : pushed m dn S x with
        | false =>
          rw [hp, if_neg (by simp)] at hF
          exact Into.first ⟨((([], Z2), (S, out)), (sv2, so)), hF, hI⟩ ⟨[.row u 32 [bytesG x.1]], by rw [if_neg (by simp)]; rfl⟩ (by simp [WL, leG_self, leG_any])
        | true =>
          rw [hp, if_pos rfl] at hF
          exact Into.first ⟨((([(x, parsM m x)], Z2), (S ++ [x], out)), (sv2, so)), hF, hI.push hp⟩ ⟨[.row u 32 [bytesG x.1]], by rw [if_pos rfl]; rfl⟩ (by simp [WL, leG_self, leG_any])
      · rintro ⟨⟨⟨⟨K, Z3⟩, ⟨S3, out3⟩⟩, ⟨sv3, so3⟩⟩, hF3, hI3⟩
        change FinS m dn K.reverse (S3, out3) T1 at hF3
        change SInv m S3 out3 K.length at hI3
        have hS3 := hI3.le
        have hO3 := hI3.len
        rcases List.eq_nil_or_concat K with rfl | ⟨K0, y, e⟩
        · simp +contextual -implicitDefEqProofs (maxSteps := 2000000) (disch := omega) only [↓lenV, binV, optV, ↓loadV, ↓storeV, ↓fieldAddrV, ↓indexAddrV, ↓allocV, ↓boxV, ↓buildV, ↓sliceV, ↓nilV, bound, cutTag, hiTag, fillG, place, GVal.cells, GVal.ofConst, ↓resV, resG, ↓reduceIte, Nat.reduceEqDiff, Nat.reduceAdd, Nat.reduceSub, Nat.reduceLeDiff, reduceCtorEq, ↓makeMapV, aggV, Tag.cap, GVal.solid, Nat.reduceBEq, Nat.reduceMul, Nat.reduceLT, vcA, ↓vcB, vcC, fbFd, e13, setO_3, setO_4, setO_5, setO_6, setO_7, setO_8, Int.lt_irrefl, List.length_nil, Int.natCast_zero, vcD, v32]
          rw [List.reverse_nil] at hF3
          rw [FinS] at hF3
          rw [hF3] at hV2
          exact Into.at ⟨(((k + 1, Z3), (S3, out3)), (sv3, so3)), by show k + 1 ≤ _; omega, hV2, hI3⟩ (by show _ < _; simp; omega) ⟨[], rfl⟩ (by simp [WL, leG_self, leG_any, leG_int])
        · rw [List.concat_eq_append] at e
          subst e
          obtain ⟨y, ps⟩ := y
          rw [List.reverse_append, List.reverse_singleton, List.singleton_append] at hF3
          obtain ⟨so1, hVp, hF4⟩ := hF3
          have dK : ((0 : Int) < (K0.length : Int) + 1) = True := eq_true (by omega)
          have hKl : K0.length + 1 ≤ 10000 := by rw [List.length_append, List.length_singleton] at hO3; omega
          cases ps with
          | nil =>
            have e1 := hVp.inv_nil
            subst e1
            have cS := gStep0Y y1 y2 m st s sq sw sv3 so3 K0.length (.func (.func F) [] caps) K0 Z3 y S3 out3 (by omega) (by omega) rfl
            simp +contextual -implicitDefEqProofs (maxSteps := 2000000) (disch := omega) only [↓lenV, binV, optV, ↓loadV, ↓storeV, ↓fieldAddrV, ↓indexAddrV, ↓allocV, ↓boxV, ↓buildV, ↓sliceV, ↓nilV, bound, cutTag, hiTag, fillG, place, GVal.cells, GVal.ofConst, ↓resV, resG, ↓reduceIte, Nat.reduceEqDiff, Nat.reduceAdd, Nat.reduceSub, Nat.reduceLeDiff, reduceCtorEq, ↓makeMapV, aggV, Tag.cap, GVal.solid, Nat.reduceBEq, Nat.reduceMul, Nat.reduceLT, vcA, ↓vcB, vcC, fbFd, e13, setO_3, setO_4, setO_5, setO_6, setO_7, setO_8, dK, List.length_append, List.length_cons, List.length_nil, List.length_singleton, vcD, v32]
            refine cS.mono ?_
            rintro g O' ⟨so4, rfl, rfl⟩
            simp +contextual -implicitDefEqProofs (maxSteps := 2000000) (disch := omega) only [↓lenV, binV, optV, ↓loadV, ↓storeV, ↓fieldAddrV, ↓indexAddrV, ↓allocV, ↓boxV, ↓buildV, ↓sliceV, ↓nilV, bound, cutTag, hiTag, fillG, place, GVal.cells, GVal.ofConst, ↓resV, resG, ↓reduceIte, Nat.reduceEqDiff, Nat.reduceAdd, Nat.reduceSub, Nat.reduceLeDiff, reduceCtorEq, ↓makeMapV, aggV, Tag.cap, GVal.solid, Nat.reduceBEq, Nat.reduceMul, Nat.reduceLT, vcA, ↓vcB, vcC, fbFd, e13, setO_3, setO_4, setO_5, setO_6, setO_7, setO_8, vcD, v32]
            refine Into.at ⟨(((K0, (y, []) :: Z3), (S3, out3 ++ [y])), (sv3, so4)), hF4, ⟨hI3.nodup, hI3.keys, ?_⟩⟩ ?_ ⟨[], rfl⟩ (by simp [WL, leG_self, leG_any, leG_int])
            · show (out3 ++ [y]).length + K0.length ≤ S3.length
              rw [List.length_append, List.length_singleton] at hO3 ⊢; omega
            · show wMu m S3 K0 < wMu m S3 (K0 ++ [(y, [])])
              simp [wMu]
          | cons p r =>
            have cS := gStep1Y y1 y2 m hm st s sq sw sv3 so3 K0.length F caps dn hd K0 Z3 y p r S3 out3 (by omega) rfl
            have hpl := hm.pars p
            simp +contextual -implicitDefEqProofs (maxSteps := 2000000) (disch := omega) only [↓lenV, binV, optV, ↓loadV, ↓storeV, ↓fieldAddrV, ↓indexAddrV, ↓allocV, ↓boxV, ↓buildV, ↓sliceV, ↓nilV, bound, cutTag, hiTag, fillG, place, GVal.cells, GVal.ofConst, ↓resV, resG, ↓reduceIte, Nat.reduceEqDiff, Nat.reduceAdd, Nat.reduceSub, Nat.reduceLeDiff, reduceCtorEq, ↓makeMapV, aggV, Tag.cap, GVal.solid, Nat.reduceBEq, Nat.reduceMul, Nat.reduceLT, vcA, ↓vcB, vcC, fbFd, e13, setO_3, setO_4, setO_5, setO_6, setO_7, setO_8, dK, List.length_append, List.length_cons, List.length_nil, List.length_singleton, vcD, v32]
            refine cS.mono ?_
            rintro g O' ⟨sv4, Z4, rfl, rfl⟩
            cases hp : pushed m dn S3 p with
            | false =>
              have hVr := hVp.inv_skip hp
              simp +contextual -implicitDefEqProofs (maxSteps := 2000000) (disch := omega) only [↓lenV, binV, optV, ↓loadV, ↓storeV, ↓fieldAddrV, ↓indexAddrV, ↓allocV, ↓boxV, ↓buildV, ↓sliceV, ↓nilV, bound, cutTag, hiTag, fillG, place, GVal.cells, GVal.ofConst, ↓resV, resG, ↓reduceIte, Nat.reduceEqDiff, Nat.reduceAdd, Nat.reduceSub, Nat.reduceLeDiff, reduceCtorEq, ↓makeMapV, aggV, Tag.cap, GVal.solid, Nat.reduceBEq, Nat.reduceMul, Nat.reduceLT, vcA, ↓vcB, vcC, fbFd, e13, setO_3, setO_4, setO_5, setO_6, setO_7, setO_8, Bool.false_eq_true, if_false, vcD, v32]
              refine Into.at ⟨(((K0 ++ [(y, r)], Z4), (S3, out3)), (sv4, so3)), ?_, ⟨hI3.nodup, hI3.keys, ?_⟩⟩ ?_ ⟨[], by simp⟩ (by simp [WL, leG_self, leG_any, leG_int])
              · show FinS m dn (K0 ++ [(y, r)]).reverse (S3, out3) T1
                rw [List.reverse_append, List.reverse_singleton, List.singleton_append]
                exact ⟨so1, hVr, hF4⟩
              · show out3.length + (K0 ++ [(y, r)]).length ≤ S3.length
                rw [List.length_append, List.length_singleton] at hO3 ⊢; exact hO3
              · show wMu m S3 (K0 ++ [(y, r)]) < wMu m S3 (K0 ++ [(y, p :: r)])
                simp [wMu]
            | true =>
              obtain ⟨so2, hVq, hVr⟩ := hVp.inv_go hp
              have hIp := hI3.push hp
              have hIl := hIp.le
              simp +contextual -implicitDefEqProofs (maxSteps := 2000000) (disch := omega) only [↓lenV, binV, optV, ↓loadV, ↓storeV, ↓fieldAddrV, ↓indexAddrV, ↓allocV, ↓boxV, ↓buildV, ↓sliceV, ↓nilV, bound, cutTag, hiTag, fillG, place, GVal.cells, GVal.ofConst, ↓resV, resG, ↓reduceIte, Nat.reduceEqDiff, Nat.reduceAdd, Nat.reduceSub, Nat.reduceLeDiff, reduceCtorEq, ↓makeMapV, aggV, Tag.cap, GVal.solid, Nat.reduceBEq, Nat.reduceMul, Nat.reduceLT, vcA, ↓vcB, vcC, fbFd, e13, setO_3, setO_4, setO_5, setO_6, setO_7, setO_8, if_true, vcD, v32]
              refine Into.at ⟨(((K0 ++ [(y, r)] ++ [(p, parsM m p)], Z4), (S3 ++ [p], out3)), (sv4, so3)), ?_, ⟨hIp.nodup, hIp.keys, ?_⟩⟩ ?_ ⟨[], by simp⟩ (by simp [WL, leG_self, leG_any, leG_int])
              · show FinS m dn (K0 ++ [(y, r)] ++ [(p, parsM m p)]).reverse (S3 ++ [p], out3) T1
                rw [List.reverse_append, List.reverse_singleton, List.singleton_append, List.reverse_append, List.reverse_singleton, List.singleton_append]
                exact ⟨so2, hVq, so1, hVr, hF4⟩
              · have := hIp.len
                show out3.length + (K0 ++ [(y, r)] ++ [(p, parsM m p)]).length ≤ (S3 ++ [p]).length
                rw [List.length_append, List.length_singleton] at this ⊢
                rw [List.length_append, List.length_singleton] at this ⊢
                rw [List.length_append, List.length_singleton]
                omega
              · show wMu m (S3 ++ [p]) (K0 ++ [(y, r)] ++ [(p, parsM m p)]) < wMu m S3 (K0 ++ [(y, p :: r)])
                rw [List.length_append, List.length_singleton] at hIl
                simp [wMu]
                omega
    · have d0 : ((k : Int) < (hs.length : Int)) = False := eq_false (by omega)
      rw [List.drop_of_length_le (by omega)] at hV
      have eT := hV.inv_nil
      subst eT
      simp +contextual -implicitDefEqProofs (maxSteps := 2000000) (disch := omega) only [↓lenV, binV, optV, ↓loadV, ↓storeV, ↓fieldAddrV, ↓indexAddrV, ↓allocV, ↓boxV, ↓buildV, ↓sliceV, ↓nilV, bound, cutTag, hiTag, fillG, place, GVal.cells, GVal.ofConst, ↓resV, resG, ↓reduceIte, Nat.reduceEqDiff, Nat.reduceAdd, Nat.reduceSub, Nat.reduceLeDiff, reduceCtorEq, ↓makeMapV, aggV, Tag.cap, GVal.solid, Nat.reduceBEq, Nat.reduceMul, Nat.reduceLT, vcA, ↓vcB, vcC, fbFd, e13, setO_3, setO_4, setO_5, setO_6, setO_7, setO_8, d0, vcD, v32]
      exact ⟨.slice (hsG out) .none, gObj st s m ++ [y1, y2], _, rfl, by rw [leA_slice], rfl, rfl⟩
end Gv.Try
/- OrderParts gives true. -/
set_option linter.unusedVariables false
set_option linter.unusedSimpArgs false
set_option maxRecDepth 20000
set_option maxHeartbeats 8000000
namespace Gv.Try
open Go Gv Go.Proofs
theorem GCalls.perm2 {P : Program} {f : FuncId} {args args' : List GVal} {a b c d : GObj} {r : GVal} (h : GCalls P f args [a, b, d, c] (fun g O' => g = r ∧ O' = [a, b, d, c])) (ha : a.isClock = false) (hg : GLes args' args) : GCalls P f args' [a, b, c, d] (fun g O' => g = r ∧ O' = [a, b, c, d]) := by
  have hcl : ∀ Y, clockOf (a :: Y) = none := fun Y => by cases a <;> first | rfl | cases ha
  refine GCalls.frame h [0, 1, 3, 2] ⟨⟨a, rfl, .refl _⟩, ⟨b, rfl, .refl _⟩, ⟨d, rfl, .refl _⟩, ⟨c, rfl, .refl _⟩, trivial⟩ (by decide) hg (hcl _) (hcl _) ?_
  rintro g O' ⟨rfl, rfl⟩
  exact ⟨g, [a, b, c, d], [(false, 0), (false, 1), (false, 3), (false, 2)], ⟨rfl, rfl⟩, GLe.refl g, ⟨⟨_, rfl, .refl _⟩, ⟨_, rfl, .refl _⟩, ⟨_, rfl, .refl _⟩, ⟨_, rfl, .refl _⟩, trivial⟩, by decide, hcl _⟩
end Gv.Try
/- Contracts: the reference's visit and Walk. -/
set_option linter.unusedVariables false
set_option linter.unusedSimpArgs false
set_option maxRecDepth 20000
set_option maxHeartbeats 4000000
namespace Gv.Try
open Go Gv Go.Proofs
inductive VisD (m : GM) (dn : Hs → Bool) : Nat → List Hs → List Hs → List Hs → Prop
  | nil (d : Nat) (o : List Hs) : VisD m dn d [] o o
  | skip (d : Nat) (p : Hs) (r o o' : List Hs) : (p ∈ o ∨ dn p = true) → VisD m dn d r o o' → VisD m dn d (p :: r) o o'
  | go (d : Nat) (p : Hs) (r o o1 o' : List Hs) : p ∉ o → dn p = false → VisD m dn d (parsM m p) o o1 → VisD m dn (d + 1) r (o1 ++ [p]) o' → VisD m dn (d + 1) (p :: r) o o'
theorem VisD.mono {m : GM} {dn : Hs → Bool} {d : Nat} {r o o' : List Hs} (h : VisD m dn d r o o') : ∀ {e : Nat}, d ≤ e → VisD m dn e r o o' := by
  induction h with
  | nil d o => exact fun _ => .nil _ _
  | skip d p r o o' h _ ih => exact fun he => .skip _ p r o o' h (ih he)
  | go d p r o o1 o' h1 h2 _ _ ih1 ih2 =>
    intro e he
    match e, he with
    | e + 1, he => exact .go e p r o o1 o' h1 h2 (ih1 (by omega)) (ih2 he)
theorem VisD.len {m : GM} {dn : Hs → Bool} {d : Nat} {r o o' : List Hs} (h : VisD m dn d r o o') : o.length ≤ o'.length := by
  induction h with
  | nil => exact Nat.le_refl _
  | skip _ _ _ _ _ _ _ ih => exact ih
  | go d p r o o1 o' _ _ _ _ ih1 ih2 => rw [List.length_append, List.length_singleton] at ih2; omega
theorem VisD.inv_nil {m : GM} {dn : Hs → Bool} {d : Nat} {o o' : List Hs} (h : VisD m dn d [] o o') : o' = o := by cases h; rfl
theorem VisD.cons {m : GM} {dn : Hs → Bool} {d : Nat} {p : Hs} {r o o' : List Hs} (h : VisD m dn d (p :: r) o o') : ∃ o1, VisD m dn d [p] o o1 ∧ VisD m dn d r o1 o' := by
  cases h with
  | skip _ _ _ _ _ h1 h2 => exact ⟨o, .skip _ _ _ _ _ h1 (.nil _ _), h2⟩
  | go d _ _ _ o1 _ h1 h2 h3 h4 => exact ⟨o1 ++ [p], .go _ _ _ _ o1 _ h1 h2 h3 (.nil _ _), h4⟩
theorem vis_d {m : GM} (hm : Good m) {dn : Hs → Bool} {r : List Hs} {so T : WSt} (h : VisL m dn r so T) : (∀ x ∈ so.2, x ∈ so.1) → (∀ k ∈ so.1, k ∉ so.2 → ∀ p ∈ r, Reach (parsM m) (parsM m k) p) → (∀ p ∈ r, (look m p).isSome = true) → ∃ d, VisD m dn d r so.2 T.2 := by
  induction h with
  | nil so => exact fun _ _ _ => ⟨0, .nil _ _⟩
  | skip p r so T hp _ ih =>
    intro hS hK hr
    obtain ⟨d, hd⟩ := ih hS (fun k hk hn q hq => hK k hk hn q (by simp [hq])) (fun q hq => hr q (by simp [hq]))
    refine ⟨d, .skip d p r _ _ ?_ hd⟩
    have hl := hr p (by simp)
    cases hb : dn p with
    | true => exact .inr rfl
    | false =>
      left
      have hin : p ∈ so.1 := by
        unfold pushed at hp
        rw [hl, hb] at hp
        simpa using hp
      exact Classical.byContradiction fun ho => hm.acyc p (hK p hin ho p (by simp))
  | go p r so so1 T hp h1 h2 ih1 ih2 =>
    intro hS hK hr
    obtain ⟨p1, p2, p3⟩ := pushed_iff hp
    have hK1 : ∀ k ∈ so.1 ++ [p], k ∉ so.2 → ∀ y ∈ parsM m p, Reach (parsM m) (parsM m k) y := fun k hk hn y hy => by
      rcases List.mem_append.1 hk with q | q
      · exact .step p y (hK k q hn p (by simp)) hy
      · rw [List.mem_singleton.1 q]; exact .base y hy
    have hS1 : ∀ x ∈ so.2, x ∈ so.1 ++ [p] := fun x hx => List.mem_append_left _ (hS x hx)
    obtain ⟨d1, hd1⟩ := ih1 hS1 hK1 (fun y hy => hm.closed p y hy)
    obtain ⟨n1, a1, a2, _⟩ := vis_spec hm.acyc h1 hS1 hK1
    simp only at a1 a2
    obtain ⟨d2, hd2⟩ := ih2 (fun x hx => by
      rw [a2]
      simp only [a1, List.mem_append, List.mem_singleton] at hx ⊢
      rcases hx with (q | q) | q
      · exact .inl (.inl (hS x q))
      · exact .inr q
      · exact .inl (.inr q)) (fun k hk hn q hq => by
      simp only [a1, a2, List.mem_append, List.mem_singleton, not_or] at hk hn
      rcases hk with (e | e) | e
      · exact hK k e hn.1.1 q (by simp [hq])
      · exact absurd e hn.2
      · exact absurd e hn.1.2) (fun q hq => hr q (by simp [hq]))
    exact ⟨max d1 d2 + 1, .go _ p r _ so1.2 _ (fun q => p2 (hS p q)) p3 (hd1.mono (by omega)) (hd2.mono (by omega))⟩
theorem rVisit0 (L : GM) (done : List Hs) (td : Tag) (hdl : done.length ≤ 100000) (rt : Nat) (h : Hs) (o : List Hs) (so : Nat) (hs : h ∈ o ∨ h ∈ done) (hl : o.length ≤ 100000) :
    GCalls Try.prog 36 [.ptr 0 rt 0 0, .slice (hsG o) (.tok 1 so), .agg (bytesG h.1), .slice (hsG done) td] (rObj rt L ++ [.tok so 32]) (fun g O' => ∃ so', g = .slice (hsG o) (.tok 1 so') ∧ O' = rObj rt L ++ [.tok so' 32]) := by
  have cO := hIn o (.tok 1 so) h (by omega)
  by_cases ho : h ∈ o
  · rw [decide_eq_true ho] at cO
    refine h36.calls mixS (by simp) ?_
    simp only [gstart, s36, List.cons_append, List.nil_append, List.length_cons, List.length_nil, Nat.reduceAdd, Nat.reduceSub, List.replicate_succ, List.replicate_zero]
    simp +contextual -implicitDefEqProofs (maxSteps := 2000000) (disch := omega) only [↓lenV, binV, optV, ↓loadV, ↓indexAddrV, ↓boxV, ↓buildSliceV, ↓sliceV, ↓appendV, ↓srcV, bound, cutTag, hiTag, fillE, GVal.cells, GVal.ofConst, ↓resV, resG, ↓reduceIte, Nat.reduceEqDiff, Nat.reduceAdd, Nat.reduceSub, Nat.reduceLeDiff, reduceCtorEq, ↓asrcV, Tag.cap, GVal.solid, Nat.reduceBEq, Nat.reduceMul, Nat.reduceLT, vcA, ↓vcB, vcC, fbFd, e36, vcD, v32]
    refine cO.then ?_ (by rfl)
    simp +contextual -implicitDefEqProofs (maxSteps := 2000000) (disch := omega) only [↓lenV, binV, optV, ↓loadV, ↓indexAddrV, ↓boxV, ↓buildSliceV, ↓sliceV, ↓appendV, ↓srcV, bound, cutTag, hiTag, fillE, GVal.cells, GVal.ofConst, ↓resV, resG, ↓reduceIte, Nat.reduceEqDiff, Nat.reduceAdd, Nat.reduceSub, Nat.reduceLeDiff, reduceCtorEq, ↓asrcV, Tag.cap, GVal.solid, Nat.reduceBEq, Nat.reduceMul, Nat.reduceLT, vcA, ↓vcB, vcC, fbFd, e36, vcD]
    exact ⟨so, rfl, rfl⟩
  · rw [decide_eq_false ho] at cO
    have cD := hIn done td h (by omega)
    rw [decide_eq_true (hs.resolve_left ho)] at cD
    refine h36.calls mixS (by simp) ?_
    simp only [gstart, s36, List.cons_append, List.nil_append, List.length_cons, List.length_nil, Nat.reduceAdd, Nat.reduceSub, List.replicate_succ, List.replicate_zero]
    simp +contextual -implicitDefEqProofs (maxSteps := 2000000) (disch := omega) only [↓lenV, binV, optV, ↓loadV, ↓indexAddrV, ↓boxV, ↓buildSliceV, ↓sliceV, ↓appendV, ↓srcV, bound, cutTag, hiTag, fillE, GVal.cells, GVal.ofConst, ↓resV, resG, ↓reduceIte, Nat.reduceEqDiff, Nat.reduceAdd, Nat.reduceSub, Nat.reduceLeDiff, reduceCtorEq, ↓asrcV, Tag.cap, GVal.solid, Nat.reduceBEq, Nat.reduceMul, Nat.reduceLT, vcA, ↓vcB, vcC, fbFd, e36, vcD, v32]
    refine cO.then ?_ (by rfl)
    simp +contextual -implicitDefEqProofs (maxSteps := 2000000) (disch := omega) only [↓lenV, binV, optV, ↓loadV, ↓indexAddrV, ↓boxV, ↓buildSliceV, ↓sliceV, ↓appendV, ↓srcV, bound, cutTag, hiTag, fillE, GVal.cells, GVal.ofConst, ↓resV, resG, ↓reduceIte, Nat.reduceEqDiff, Nat.reduceAdd, Nat.reduceSub, Nat.reduceLeDiff, reduceCtorEq, ↓asrcV, Tag.cap, GVal.solid, Nat.reduceBEq, Nat.reduceMul, Nat.reduceLT, vcA, ↓vcB, vcC, fbFd, e36, vcD, v32]
    refine cD.then ?_ (by rfl)
    simp +contextual -implicitDefEqProofs (maxSteps := 2000000) (disch := omega) only [↓lenV, binV, optV, ↓loadV, ↓indexAddrV, ↓boxV, ↓buildSliceV, ↓sliceV, ↓appendV, ↓srcV, bound, cutTag, hiTag, fillE, GVal.cells, GVal.ofConst, ↓resV, resG, ↓reduceIte, Nat.reduceEqDiff, Nat.reduceAdd, Nat.reduceSub, Nat.reduceLeDiff, reduceCtorEq, ↓asrcV, Tag.cap, GVal.solid, Nat.reduceBEq, Nat.reduceMul, Nat.reduceLT, vcA, ↓vcB, vcC, fbFd, e36, vcD]
    exact ⟨so, rfl, rfl⟩
theorem rVisit (L : GM) (hL : SSC L) (hm : GMOK L) (done : List Hs) (td : Tag) (hdl : done.length ≤ 100000) (rt : Nat) : ∀ (d : Nat) (h : Hs) (o o' : List Hs) (so : Nat), VisD L (fun x => decide (x ∈ done)) d [h] o o' → o'.length ≤ 100000 →
    GCalls Try.prog 36 [.ptr 0 rt 0 0, .slice (hsG o) (.tok 1 so), .agg (bytesG h.1), .slice (hsG done) td] (rObj rt L ++ [.tok so 32]) (fun g O' => ∃ so', g = .slice (hsG o') (.tok 1 so') ∧ O' = rObj rt L ++ [.tok so' 32]) := by
  have hml := hm.len
  intro d
  induction d with
  | zero =>
    intro h o o' so hv hl
    cases hv with
    | skip _ _ _ _ _ h1 h2 =>
      have e := h2.inv_nil
      subst e
      exact rVisit0 L done td hdl rt h _ so (by simpa using h1) hl
  | succ d ih =>
    intro h o o' so hv hl
    cases hv with
    | skip _ _ _ _ _ h1 h2 =>
      have e := h2.inv_nil
      subst e
      exact rVisit0 L done td hdl rt h _ so (by simpa using h1) hl
    | go _ _ _ _ o1 _ h1 h2 h3 h4 =>
      have e := h4.inv_nil
      subst e
      rw [List.length_append, List.length_singleton] at hl
      have hol := h3.len
      have hpl := hm.pars h
      have cO := hIn o (.tok 1 so) h (by omega)
      rw [decide_eq_false h1] at cO
      have cD := hIn done td h (by omega)
      rw [decide_eq_false (by simpa using h2)] at cD
      have cP := GCalls.keep1' (rParents L hL (by omega) h rt) (O := rObj rt L ++ [.tok so 32]) 0 rfl rfl rfl rfl
      obtain ⟨ps, hps⟩ : ∃ ps, parsM L h = ps := ⟨_, rfl⟩
      rw [hps] at cP h3 hpl
      refine h36.calls mixS (by simp) ?_
      simp only [gstart, s36, List.cons_append, List.nil_append, List.length_cons, List.length_nil, Nat.reduceAdd, Nat.reduceSub, List.replicate_succ, List.replicate_zero]
      simp +contextual -implicitDefEqProofs (maxSteps := 2000000) (disch := omega) only [↓lenV, binV, optV, ↓loadV, ↓indexAddrV, ↓boxV, ↓buildSliceV, ↓sliceV, ↓appendV, ↓srcV, bound, cutTag, hiTag, fillE, GVal.cells, GVal.ofConst, ↓resV, resG, ↓reduceIte, Nat.reduceEqDiff, Nat.reduceAdd, Nat.reduceSub, Nat.reduceLeDiff, reduceCtorEq, ↓asrcV, Tag.cap, GVal.solid, Nat.reduceBEq, Nat.reduceMul, Nat.reduceLT, vcA, ↓vcB, vcC, fbFd, e36, vcD, v32]
      refine cO.then ?_ (by rfl)
      simp +contextual -implicitDefEqProofs (maxSteps := 2000000) (disch := omega) only [↓lenV, binV, optV, ↓loadV, ↓indexAddrV, ↓boxV, ↓buildSliceV, ↓sliceV, ↓appendV, ↓srcV, bound, cutTag, hiTag, fillE, GVal.cells, GVal.ofConst, ↓resV, resG, ↓reduceIte, Nat.reduceEqDiff, Nat.reduceAdd, Nat.reduceSub, Nat.reduceLeDiff, reduceCtorEq, ↓asrcV, Tag.cap, GVal.solid, Nat.reduceBEq, Nat.reduceMul, Nat.reduceLT, vcA, ↓vcB, vcC, fbFd, e36, vcD, v32]
      refine cD.then ?_ (by rfl)
      simp +contextual -implicitDefEqProofs (maxSteps := 2000000) (disch := omega) only [↓lenV, binV, optV, ↓loadV, ↓indexAddrV, ↓boxV, ↓buildSliceV, ↓sliceV, ↓appendV, ↓srcV, bound, cutTag, hiTag, fillE, GVal.cells, GVal.ofConst, ↓resV, resG, ↓reduceIte, Nat.reduceEqDiff, Nat.reduceAdd, Nat.reduceSub, Nat.reduceLeDiff, reduceCtorEq, ↓asrcV, Tag.cap, GVal.solid, Nat.reduceBEq, Nat.reduceMul, Nat.reduceLT, vcA, ↓vcB, vcC, fbFd, e36, vcD, v32]
      refine cP.mono ?_
      rintro g O' ⟨rfl, rfl⟩
      simp +contextual -implicitDefEqProofs (maxSteps := 2000000) (disch := omega) only [↓lenV, binV, optV, ↓loadV, ↓indexAddrV, ↓boxV, ↓buildSliceV, ↓sliceV, ↓appendV, ↓srcV, bound, cutTag, hiTag, fillE, GVal.cells, GVal.ofConst, ↓resV, resG, ↓reduceIte, Nat.reduceEqDiff, Nat.reduceAdd, Nat.reduceSub, Nat.reduceLeDiff, reduceCtorEq, ↓asrcV, Tag.cap, GVal.solid, Nat.reduceBEq, Nat.reduceMul, Nat.reduceLT, vcA, ↓vcB, vcC, fbFd, e36, vcD, v32]
      refine vcSLoop_by (ι := { p : (Nat × List Hs) × Nat // p.1.1 ≤ ps.length ∧ VisD L (fun x => decide (x ∈ done)) d (ps.drop p.1.1) p.1.2 o1 }) (fun p => ⟨[.ptr 0 rt 0 0, .slice (hsG p.1.1.2) (.tok 1 p.1.2), .any, .slice (hsG done) td, .any, .any, .ref (bytesG h.1), .any, .any, .slice (hsG ps) .none, .int .i64 (p.1.1.1 : Nat)] ++ List.replicate 30 .any, rObj rt L ++ [.tok p.1.2 32]⟩) (fun p => ps.length - p.1.1.1) ?_ ?_
      · exact Into.first ⟨((0, o), so), Nat.zero_le _, by simpa using h3⟩ ⟨[], by simp⟩ (by simp [WL, leG_self, leG_any])
      · rintro ⟨⟨⟨j, oj⟩, sj⟩, hj, hv⟩
        change j ≤ ps.length at hj
        have hv : VisD L (fun x => decide (x ∈ done)) d (ps.drop j) oj o1 := hv
        by_cases h' : j < ps.length
        · have d0 : ((j : Int) < (ps.length : Int)) = True := eq_true (by omega)
          have eX := hsG_at ps j h'
          rw [dropH h'] at hv
          generalize ps.getD j h0 = y at *
          obtain ⟨o2, v1, v2⟩ := hv.cons
          have l2 := v2.len
          have cV := ih y oj o2 sj v1 (by omega)
          simp +contextual -implicitDefEqProofs (maxSteps := 2000000) (disch := omega) only [↓lenV, binV, optV, ↓loadV, ↓indexAddrV, ↓boxV, ↓buildSliceV, ↓sliceV, ↓appendV, ↓srcV, bound, cutTag, hiTag, fillE, GVal.cells, GVal.ofConst, ↓resV, resG, ↓reduceIte, Nat.reduceEqDiff, Nat.reduceAdd, Nat.reduceSub, Nat.reduceLeDiff, reduceCtorEq, ↓asrcV, Tag.cap, GVal.solid, Nat.reduceBEq, Nat.reduceMul, Nat.reduceLT, vcA, ↓vcB, vcC, fbFd, e36, d0, eX, hsG_len, vcD, v32]
          refine ⟨by omega, cV.mono ?_⟩
          rintro g O' ⟨s2, rfl, rfl⟩
          simp +contextual -implicitDefEqProofs (maxSteps := 2000000) (disch := omega) only [↓lenV, binV, optV, ↓loadV, ↓indexAddrV, ↓boxV, ↓buildSliceV, ↓sliceV, ↓appendV, ↓srcV, bound, cutTag, hiTag, fillE, GVal.cells, GVal.ofConst, ↓resV, resG, ↓reduceIte, Nat.reduceEqDiff, Nat.reduceAdd, Nat.reduceSub, Nat.reduceLeDiff, reduceCtorEq, ↓asrcV, Tag.cap, GVal.solid, Nat.reduceBEq, Nat.reduceMul, Nat.reduceLT, vcA, ↓vcB, vcC, fbFd, e36, vcD]
          exact Into.at ⟨((j + 1, o2), s2), by show j + 1 ≤ ps.length; omega, v2⟩ (by show ps.length - (j + 1) < ps.length - j; omega) ⟨[], by simp⟩ (by simp [WL, leG_self, leG_any, leG_int])
        · have d0 : ((j : Int) < (ps.length : Int)) = False := eq_false (by omega)
          rw [List.drop_of_length_le (by omega)] at hv
          have e := hv.inv_nil
          subst e
          simp +contextual -implicitDefEqProofs (maxSteps := 2000000) (disch := omega) only [↓lenV, binV, optV, ↓loadV, ↓indexAddrV, ↓boxV, ↓buildSliceV, ↓sliceV, ↓appendV, ↓srcV, bound, cutTag, hiTag, fillE, GVal.cells, GVal.ofConst, ↓resV, resG, ↓reduceIte, Nat.reduceEqDiff, Nat.reduceAdd, Nat.reduceSub, Nat.reduceLeDiff, reduceCtorEq, ↓asrcV, Tag.cap, GVal.solid, Nat.reduceBEq, Nat.reduceMul, Nat.reduceLT, vcA, ↓vcB, vcC, fbFd, e36, d0, hsG_len, all_hsG, if32, one32, vcD, v32]
          refine ⟨by omega, by omega, fun s2 => ⟨s2, ?_, rfl⟩⟩
          rw [hsG_app]; rfl
theorem rWalk (L : GM) (hL : SSC L) (hm : Good L) (hs : List Hs) (th : Tag) (hhl : hs.length ≤ 100000) (done : List Hs) (td : Tag) (hdl : done.length ≤ 100000) (rt : Nat) (T : WSt) (hT : VisL L (fun x => decide (x ∈ done)) hs ([], []) T) :
    GCalls Try.prog 21 [.ptr 0 rt 0 0, .slice (hsG hs) th, .slice (hsG done) td] (rObj rt L) (fun g O' => g = .slice (hsG T.2) .none ∧ O' = rObj rt L) := by
  have hml := hm.ok.len
  refine GCalls.dropTo ?_
  refine h21.calls mixS (by simp) ?_
  simp only [gstart, s21, List.cons_append, List.nil_append, List.length_cons, List.length_nil, Nat.reduceAdd, Nat.reduceSub, List.replicate_succ, List.replicate_zero]
  simp +contextual -implicitDefEqProofs (maxSteps := 2000000) (disch := omega) only [↓lenV, binV, optV, ↓loadV, ↓indexAddrV, ↓sliceV, bound, cutTag, hiTag, GVal.cells, GVal.ofConst, ↓resV, resG, ↓reduceIte, Nat.reduceEqDiff, Nat.reduceAdd, Nat.reduceSub, Nat.reduceLeDiff, reduceCtorEq, Tag.cap, GVal.solid, Nat.reduceBEq, Nat.reduceMul, Nat.reduceLT, vcA, ↓vcB, vcC, fbFd, e21, vcD]
  refine vcSLoop_by (ι := { p : (Nat × WSt) × Nat // (p.1.1 ≤ hs.length ∧ VisL L (fun x => decide (x ∈ done)) (hs.drop p.1.1) p.1.2 T) ∧ (∀ x, x ∈ p.1.2.1 ↔ x ∈ p.1.2.2) ∧ p.1.2.2.Nodup ∧ ∀ x ∈ p.1.2.2, (look L x).isSome = true }) (fun p => ⟨[.ptr 0 rt 0 0, .slice (hsG hs) th, .slice (hsG done) td, .any, .any, .any, .any, .slice (hsG p.1.1.2.2) (.tok 1 p.1.2), .int .i64 (p.1.1.1 : Nat)] ++ List.replicate 21 .any, rObj rt L ++ [.tok p.1.2 32]⟩) (fun p => hs.length - p.1.1.1) ?_ ?_
  · refine Into.tok 7 32 [] rfl rfl ?_
    simp +contextual -implicitDefEqProofs (maxSteps := 2000000) (disch := omega) only [↓lenV, binV, optV, ↓loadV, ↓indexAddrV, ↓sliceV, bound, cutTag, hiTag, GVal.cells, GVal.ofConst, ↓resV, resG, ↓reduceIte, Nat.reduceEqDiff, Nat.reduceAdd, Nat.reduceSub, Nat.reduceLeDiff, reduceCtorEq, Tag.cap, GVal.solid, Nat.reduceBEq, Nat.reduceMul, Nat.reduceLT, vcA, ↓vcB, vcC, fbFd, e21, vcD]
    intro so
    exact Into.first ⟨((0, ([], [])), so), ⟨Nat.zero_le _, by simpa using hT⟩, by simp, List.nodup_nil, by simp⟩ ⟨[], by simp⟩ (by simp [WL, leG_self, leG_any, hsG])
  · rintro ⟨⟨⟨k, ⟨S, o⟩⟩, so⟩, ⟨hk, hV⟩, hSo, hnd, hth⟩
    change k ≤ hs.length at hk
    have hV : VisL L (fun x => decide (x ∈ done)) (hs.drop k) (S, o) T := hV
    have hSo : ∀ x, x ∈ S ↔ x ∈ o := hSo
    have hnd : o.Nodup := hnd
    have hth : ∀ x ∈ o, (look L x).isSome = true := hth
    have hol := nodup_lenH o (L.map (·.1)) hnd fun x hx => look_key (hth x hx)
    rw [List.length_map] at hol
    by_cases h : k < hs.length
    · have d0 : ((k : Int) < (hs.length : Int)) = True := eq_true (by omega)
      have eX := hsG_at hs k h
      rw [dropH h] at hV
      generalize hs.getD k h0 = x at *
      have cH := GCalls.keep1' (rHas L hL (by omega) x rt) (O := rObj rt L ++ [.tok so 32]) 0 rfl rfl rfl rfl
      cases hx : (look L x).isSome with
      | false =>
        rw [hx] at cH
        have hV2 := hV.inv_skip (by unfold pushed; rw [hx]; rfl)
        simp +contextual -implicitDefEqProofs (maxSteps := 2000000) (disch := omega) only [↓lenV, binV, optV, ↓loadV, ↓indexAddrV, ↓sliceV, bound, cutTag, hiTag, GVal.cells, GVal.ofConst, ↓resV, resG, ↓reduceIte, Nat.reduceEqDiff, Nat.reduceAdd, Nat.reduceSub, Nat.reduceLeDiff, reduceCtorEq, Tag.cap, GVal.solid, Nat.reduceBEq, Nat.reduceMul, Nat.reduceLT, vcA, ↓vcB, vcC, fbFd, e21, d0, eX, hsG_len, vcD, v32]
        refine ⟨by omega, cH.mono ?_⟩
        rintro g O' ⟨rfl, rfl⟩
        simp +contextual -implicitDefEqProofs (maxSteps := 2000000) (disch := omega) only [↓lenV, binV, optV, ↓loadV, ↓indexAddrV, ↓sliceV, bound, cutTag, hiTag, GVal.cells, GVal.ofConst, ↓resV, resG, ↓reduceIte, Nat.reduceEqDiff, Nat.reduceAdd, Nat.reduceSub, Nat.reduceLeDiff, reduceCtorEq, Tag.cap, GVal.solid, Nat.reduceBEq, Nat.reduceMul, Nat.reduceLT, vcA, ↓vcB, vcC, fbFd, e21, vcD]
        exact Into.at ⟨((k + 1, (S, o)), so), ⟨by show k + 1 ≤ hs.length; omega, hV2⟩, hSo, hnd, hth⟩ (by show hs.length - (k + 1) < hs.length - k; omega) ⟨[], by simp⟩ (by simp [WL, leG_self, leG_any, leG_int])
      | true =>
        rw [hx] at cH
        obtain ⟨⟨S1, o1⟩, v1, v2⟩ := vis_app (a := [x]) hV
        have hS : ∀ y ∈ o, y ∈ S := fun y hy => (hSo y).2 hy
        have hK : ∀ y ∈ S, y ∉ o → ∀ p ∈ [x], Reach (parsM L) (parsM L y) p := fun y hy hn => absurd ((hSo y).1 hy) hn
        obtain ⟨d, hd⟩ := vis_d hm v1 hS hK (by simp [hx])
        obtain ⟨n1, a1, a2, a3, a4, _, _⟩ := vis_spec hm.acyc v1 hS hK
        simp only at hd a1 a2 a4
        have hnd1 : o1.Nodup := by
          rw [a1, List.nodup_append]
          exact ⟨hnd, a3, fun a ha b hb e => (a4 b hb).1 (hS b (e ▸ ha))⟩
        have hth1 : ∀ y ∈ o1, (look L y).isSome = true := fun y hy => by
          rw [a1] at hy
          rcases List.mem_append.1 hy with q | q
          · exact hth y q
          · exact (a4 y q).2.1
        have hol1 := nodup_lenH o1 (L.map (·.1)) hnd1 fun y hy => look_key (hth1 y hy)
        rw [List.length_map] at hol1
        have cV := rVisit L hL hm.gm done td hdl rt d x o o1 so hd (by omega)
        simp +contextual -implicitDefEqProofs (maxSteps := 2000000) (disch := omega) only [↓lenV, binV, optV, ↓loadV, ↓indexAddrV, ↓sliceV, bound, cutTag, hiTag, GVal.cells, GVal.ofConst, ↓resV, resG, ↓reduceIte, Nat.reduceEqDiff, Nat.reduceAdd, Nat.reduceSub, Nat.reduceLeDiff, reduceCtorEq, Tag.cap, GVal.solid, Nat.reduceBEq, Nat.reduceMul, Nat.reduceLT, vcA, ↓vcB, vcC, fbFd, e21, d0, eX, hsG_len, vcD, v32]
        refine ⟨by omega, cH.mono ?_⟩
        rintro g O' ⟨rfl, rfl⟩
        simp +contextual -implicitDefEqProofs (maxSteps := 2000000) (disch := omega) only [↓lenV, binV, optV, ↓loadV, ↓indexAddrV, ↓sliceV, bound, cutTag, hiTag, GVal.cells, GVal.ofConst, ↓resV, resG, ↓reduceIte, Nat.reduceEqDiff, Nat.reduceAdd, Nat.reduceSub, Nat.reduceLeDiff, reduceCtorEq, Tag.cap, GVal.solid, Nat.reduceBEq, Nat.reduceMul, Nat.reduceLT, vcA, ↓vcB, vcC, fbFd, e21, d0, eX, hsG_len, vcD, v32]
        refine ⟨by omega, cV.mono ?_⟩
        rintro g O' ⟨s2, rfl, rfl⟩
        simp +contextual -implicitDefEqProofs (maxSteps := 2000000) (disch := omega) only [↓lenV, binV, optV, ↓loadV, ↓indexAddrV, ↓sliceV, bound, cutTag, hiTag, GVal.cells, GVal.ofConst, ↓resV, resG, ↓reduceIte, Nat.reduceEqDiff, Nat.reduceAdd, Nat.reduceSub, Nat.reduceLeDiff, reduceCtorEq, Tag.cap, GVal.solid, Nat.reduceBEq, Nat.reduceMul, Nat.reduceLT, vcA, ↓vcB, vcC, fbFd, e21, vcD]
        refine Into.at ⟨((k + 1, (S1, o1)), s2), ⟨by show k + 1 ≤ hs.length; omega, v2⟩, fun y => ?_, hnd1, hth1⟩ (by show hs.length - (k + 1) < hs.length - k; omega) ⟨[], by simp⟩ (by simp [WL, leG_self, leG_any, leG_int])
        show y ∈ S1 ↔ y ∈ o1
        rw [a2, a1, List.mem_append, hSo]
    · have d0 : ((k : Int) < (hs.length : Int)) = False := eq_false (by omega)
      rw [List.drop_of_length_le (by omega)] at hV
      have e := hV.inv_nil
      subst e
      simp +contextual -implicitDefEqProofs (maxSteps := 2000000) (disch := omega) only [↓lenV, binV, optV, ↓loadV, ↓indexAddrV, ↓sliceV, bound, cutTag, hiTag, GVal.cells, GVal.ofConst, ↓resV, resG, ↓reduceIte, Nat.reduceEqDiff, Nat.reduceAdd, Nat.reduceSub, Nat.reduceLeDiff, reduceCtorEq, Tag.cap, GVal.solid, Nat.reduceBEq, Nat.reduceMul, Nat.reduceLT, vcA, ↓vcB, vcC, fbFd, e21, d0, hsG_len, vcD]
      exact ⟨.slice (hsG o) .none, rObj rt L, [.tok so 32], rfl, by rw [leA_slice], rfl, rfl⟩
end Gv.Try
/- Contracts: the reference's some and Ancestors. -/
set_option linter.unusedVariables false
set_option linter.unusedSimpArgs false
set_option maxRecDepth 20000
set_option maxHeartbeats 4000000
namespace Gv.Try
open Go Gv Go.Proofs
def blr (B : List Bool) : List (List GVal) := B.map fun b => [.bool b]
theorem blr_len (B : List Bool) : (blr B).length = B.length := by simp [blr]
theorem blr_at (B : List Bool) (i : Nat) (h : i < B.length) : (blr B).getD i [] = [.bool (B.getD i false)] := by simp [blr, List.getD, h]
theorem blr_set (B : List Bool) (i : Nat) (b : Bool) : (blr B).set i [.bool b] = blr (B.set i b) := by simp [blr, List.map_set]
theorem all_blr (B : List Bool) : (∀ x ∈ blr B, x.length = 1) = True := eq_true fun x hx => by obtain ⟨s, _, rfl⟩ := List.mem_map.1 hx; rfl
def someL : GM → List Bool → List Hs
  | c :: r, b :: B => if b = true then c.1 :: someL r B else someL r B
  | _, _ => []
theorem someL_take : ∀ (L : GM) (B : List Bool) (k : Nat), k < L.length → k < B.length → someL (L.take (k + 1)) (B.take (k + 1)) = someL (L.take k) (B.take k) ++ if B.getD k false = true then [(L.getD k default).1] else []
  | c :: r, b :: B, 0, _, _ => by simp [someL]
  | c :: r, b :: B, k + 1, h1, h2 => by
    have := someL_take r B k (by simpa using h1) (by simpa using h2)
    rw [List.take_succ_cons, List.take_succ_cons, List.take_succ_cons, List.take_succ_cons, someL, someL, this, List.getD_cons_succ, List.getD_cons_succ]
    by_cases e : b = true
    · rw [if_pos e, if_pos e]; rfl
    · rw [if_neg e, if_neg e]
  | [], B, k, h, _ => by simp at h
  | c :: r, [], k, _, h => by simp at h
theorem someL_len : ∀ (L : GM) (B : List Bool), (someL L B).length ≤ L.length
  | [], B => by simp [someL]
  | c :: r, [] => by simp [someL]
  | c :: r, b :: B => by
    have := someL_len r B
    rw [someL]; split <;> simp <;> omega
theorem someL_mem : ∀ (L : GM) (B : List Bool) (x : Hs), B.length = L.length → (x ∈ someL L B ↔ ∃ i, i < L.length ∧ B.getD i false = true ∧ (L.getD i default).1 = x)
  | [], B, x, _ => by simp [someL]
  | c :: r, [], x, h => by simp at h
  | c :: r, b :: B, x, h => by
    have ih := someL_mem r B x (by simpa using h)
    rw [someL]
    constructor
    · intro hx
      have : (b = true ∧ x = c.1) ∨ x ∈ someL r B := by
        split at hx
        · rename_i e
          rcases List.mem_cons.1 hx with q | q
          · exact .inl ⟨e, q⟩
          · exact .inr q
        · exact .inr hx
      rcases this with ⟨e, rfl⟩ | q
      · exact ⟨0, by simp, by simpa using e, by simp⟩
      · obtain ⟨i, h1, h2, h3⟩ := ih.1 q
        exact ⟨i + 1, by simpa using h1, by simpa using h2, by simpa using h3⟩
    · rintro ⟨i, h1, h2, h3⟩
      cases i with
      | zero =>
        have e : b = true := by simpa using h2
        rw [if_pos e]
        have : c.1 = x := by simpa using h3
        rw [this]; simp
      | succ i =>
        have := ih.2 ⟨i, by simpa using h1, by simpa using h2, by simpa using h3⟩
        split
        · exact List.mem_cons_of_mem _ this
        · exact this
theorem someL_ss : ∀ (L : GM) (B : List Bool), SSC L → SS (someL L B)
  | [], B, _ => by simp [someL]
  | c :: r, [], _ => by simp [someL]
  | c :: r, b :: B, h => by
    obtain ⟨h1, h2⟩ := List.pairwise_cons.1 h
    have ih := someL_ss r B h2
    rw [someL]
    split
    · refine List.pairwise_cons.2 ⟨fun y hy => ?_, ih⟩
      have : ∀ (L : GM) (B : List Bool), ∀ y ∈ someL L B, ∃ q ∈ L, q.1 = y := by
        intro L
        induction L with
        | nil => intro B y hy; simp [someL] at hy
        | cons c r ih =>
          intro B y hy
          cases B with
          | nil => simp [someL] at hy
          | cons b B =>
            rw [someL] at hy
            split at hy
            · rcases List.mem_cons.1 hy with e | e
              · exact ⟨c, by simp, e.symm⟩
              · obtain ⟨q, q1, q2⟩ := ih B y e
                exact ⟨q, by simp [q1], q2⟩
            · obtain ⟨q, q1, q2⟩ := ih B y hy
              exact ⟨q, by simp [q1], q2⟩
      obtain ⟨q, q1, rfl⟩ := this r B y hy
      exact h1 q q1
    · exact ih
theorem rSome (L : GM) (hl : L.length ≤ 100000) (B : List Bool) (hB : B.length = L.length) (rt sb : Nat) :
    GCalls Try.prog 38 [.ptr 0 rt 0 0, .own 1 sb 0 L.length] (rObj rt L ++ [.row sb 1 (blr B)]) (fun g O' => g = .slice (hsG (someL L B)) .none ∧ O' = rObj rt L ++ [.row sb 1 (blr B)]) := by
  refine GCalls.dropTo ?_
  refine h38.calls mixS (by simp) ?_
  simp only [gstart, s38, List.cons_append, List.nil_append, List.length_cons, List.length_nil, Nat.reduceAdd, Nat.reduceSub, List.replicate_succ, List.replicate_zero]
  simp +contextual -implicitDefEqProofs (maxSteps := 2000000) (disch := omega) only [↓lenV, binV, optV, ↓loadV, ↓fieldAddrV, ↓indexAddrV, ↓buildSliceV, ↓sliceV, ↓nilV, ↓appendV, ↓srcV, bound, cutTag, hiTag, fillE, GVal.cells, GVal.ofConst, ↓resV, resG, ↓reduceIte, Nat.reduceEqDiff, Nat.reduceAdd, Nat.reduceSub, Nat.reduceLeDiff, reduceCtorEq, ↓asrcV, Tag.cap, GVal.solid, Nat.reduceBEq, Nat.reduceMul, Nat.reduceLT, vcA, ↓vcB, vcC, fbFd, e38, vcD]
  refine vcSLoop_by (ι := { p : Nat × Nat // p.1 ≤ L.length }) (fun p => ⟨[.ptr 0 rt 0 0, .own 1 sb 0 L.length, .any, .any, .any, .slice (hsG (someL (L.take p.1.1) (B.take p.1.1))) (.tok 2 p.1.2), .int .i64 (p.1.1 : Nat)] ++ List.replicate 22 .any, rObj rt L ++ [.row sb 1 (blr B), .tok p.1.2 32]⟩) (fun p => L.length - p.1.1) ?_ ?_
  · refine Into.tok 5 32 [] rfl rfl ?_
    simp +contextual -implicitDefEqProofs (maxSteps := 2000000) (disch := omega) only [↓lenV, binV, optV, ↓loadV, ↓fieldAddrV, ↓indexAddrV, ↓buildSliceV, ↓sliceV, ↓nilV, ↓appendV, ↓srcV, bound, cutTag, hiTag, fillE, GVal.cells, GVal.ofConst, ↓resV, resG, ↓reduceIte, Nat.reduceEqDiff, Nat.reduceAdd, Nat.reduceSub, Nat.reduceLeDiff, reduceCtorEq, ↓asrcV, Tag.cap, GVal.solid, Nat.reduceBEq, Nat.reduceMul, Nat.reduceLT, vcA, ↓vcB, vcC, fbFd, e38, vcD]
    intro so
    exact Into.first ⟨(0, so), Nat.zero_le _⟩ ⟨[], by simp⟩ (by simp [WL, leG_self, leG_any, someL, hsG])
  · rintro ⟨⟨k, so⟩, hk⟩
    change k ≤ L.length at hk
    have hsl := someL_len (L.take k) (B.take k)
    rw [List.length_take] at hsl
    have hsl : (someL (L.take k) (B.take k)).length ≤ 100000 := by omega
    by_cases h : k < L.length
    · have d0 : ((k : Int) < (L.length : Int)) = True := eq_true (by omega)
      have eB := blr_at B k (by omega)
      have eS := csG_at L k h
      have hst := someL_take L B k h (by omega)
      obtain ⟨xh, xp, hx⟩ : ∃ xh xp, L.getD k default = (xh, xp) := ⟨_, _, rfl⟩
      rw [hx] at eS hst
      cases eb : B.getD k false with
      | true =>
        rw [eb, if_pos rfl] at hst
        rw [eb] at eB
        simp +contextual -implicitDefEqProofs (maxSteps := 2000000) (disch := omega) only [↓lenV, binV, optV, ↓loadV, ↓fieldAddrV, ↓indexAddrV, ↓buildSliceV, ↓sliceV, ↓nilV, ↓appendV, ↓srcV, bound, cutTag, hiTag, fillE, GVal.cells, GVal.ofConst, ↓resV, resG, ↓reduceIte, Nat.reduceEqDiff, Nat.reduceAdd, Nat.reduceSub, Nat.reduceLeDiff, reduceCtorEq, ↓asrcV, Tag.cap, GVal.solid, Nat.reduceBEq, Nat.reduceMul, Nat.reduceLT, vcA, ↓vcB, vcC, fbFd, e38, d0, eB, eS, blr_len, hB, toNat0, Nat.sub_zero, Nat.zero_add, true_imp_iff, csG_len, comG, hsG_len, all_hsG, if32, one32, vcD, v33, v32]
        refine ⟨by omega, h, h, by omega, by omega, by omega, fun st => ?_⟩
        exact Into.at ⟨(k + 1, st), by show k + 1 ≤ L.length; omega⟩ (by show L.length - (k + 1) < L.length - k; omega) ⟨[], by simp⟩ (by simp [WL, leG_self, leG_any, leG_int, hst, hsG])
      | false =>
        rw [eb, if_neg (by simp), List.append_nil] at hst
        rw [eb] at eB
        simp +contextual -implicitDefEqProofs (maxSteps := 2000000) (disch := omega) only [↓lenV, binV, optV, ↓loadV, ↓fieldAddrV, ↓indexAddrV, ↓buildSliceV, ↓sliceV, ↓nilV, ↓appendV, ↓srcV, bound, cutTag, hiTag, fillE, GVal.cells, GVal.ofConst, ↓resV, resG, ↓reduceIte, Nat.reduceEqDiff, Nat.reduceAdd, Nat.reduceSub, Nat.reduceLeDiff, reduceCtorEq, ↓asrcV, Tag.cap, GVal.solid, Nat.reduceBEq, Nat.reduceMul, Nat.reduceLT, vcA, ↓vcB, vcC, fbFd, e38, d0, eB, eS, blr_len, hB, toNat0, Nat.sub_zero, Nat.zero_add, true_imp_iff, csG_len, vcD]
        refine ⟨by omega, h, h, ?_⟩
        exact Into.at ⟨(k + 1, so), by show k + 1 ≤ L.length; omega⟩ (by show L.length - (k + 1) < L.length - k; omega) ⟨[], by simp⟩ (by simp [WL, leG_self, leG_any, leG_int, hst])
    · have d0 : ((k : Int) < (L.length : Int)) = False := eq_false (by omega)
      have e1 : L.take k = L := List.take_of_length_le (by omega)
      have e2 : B.take k = B := List.take_of_length_le (by omega)
      simp +contextual -implicitDefEqProofs (maxSteps := 2000000) (disch := omega) only [↓lenV, binV, optV, ↓loadV, ↓fieldAddrV, ↓indexAddrV, ↓buildSliceV, ↓sliceV, ↓nilV, ↓appendV, ↓srcV, bound, cutTag, hiTag, fillE, GVal.cells, GVal.ofConst, ↓resV, resG, ↓reduceIte, Nat.reduceEqDiff, Nat.reduceAdd, Nat.reduceSub, Nat.reduceLeDiff, reduceCtorEq, ↓asrcV, Tag.cap, GVal.solid, Nat.reduceBEq, Nat.reduceMul, Nat.reduceLT, vcA, ↓vcB, vcC, fbFd, e38, d0, blr_len, hB, e1, e2, vcD]
      exact ⟨.slice (hsG (someL L B)) .none, rObj rt L ++ [.row sb 1 (blr B)], [.tok so 32], rfl, by rw [leA_slice], rfl, rfl⟩
def nats (T : List Nat) : List (List GVal) := T.map fun (n : Nat) => [.int .i64 (n : Int)]
theorem nats_len (T : List Nat) : (nats T).length = T.length := by simp [nats]
theorem all_nats (T : List Nat) : (∀ x ∈ nats T, x.length = 1) = True := eq_true fun x hx => by obtain ⟨s, _, rfl⟩ := List.mem_map.1 hx; rfl
theorem nats_app (a b : List Nat) : nats (a ++ b) = nats a ++ nats b := by simp [nats]
abbrev hdL (L : GM) (k : Nat) : Hs := (L.getD k default).1
theorem rAncestors (L : GM) (hL : SSC L) (hg : Good L) (l : List Hs) (t : Tag) (hll : l.length ≤ 100000) (rt : Nat) :
    GCalls Try.prog 23 [.ptr 0 rt 0 0, .slice (hsG l) t] (rObj rt L) (fun g O' => g = .slice (hsG (ancL L l)) .none ∧ O' = rObj rt L) := by
  have hm := hg.gm
  have hml := hg.ok.len
  have hhl := hm.hashes
  have hf := fun x => find_look L x
  have mu1 : ∀ u s n : Nat, rMu u 4 s n < rMu u 4 s (n + 1) := fun u s n => by unfold rMu; omega
  have mu2 : ∀ u s n m : Nat, s < u → m ≤ 4 → rMu u 4 (s + 1) (n + m) < rMu u 4 s (n + 1) := fun u s n m h1 h2 => by
    unfold rMu; omega
  obtain ⟨U, hU⟩ : ∃ U, inM L l ++ hashesM L = U := ⟨_, rfl⟩
  have hil : (inM L l).length ≤ l.length := List.length_filter_le _ _
  have hUl : U.length ≤ 150000 := by rw [← hU, List.length_append]; omega
  have hU1 : ∀ x ∈ inM L l, x ∈ U := fun x hx => by rw [← hU]; exact List.mem_append_left _ hx
  have hU2 : ∀ x y, y ∈ parsM L x → y ∈ U := fun x y hy => by rw [← hU]; exact List.mem_append_right _ (pars_in hy)
  refine GCalls.dropTo ?_
  refine h23.calls mixS (by simp) ?_
  simp only [gstart, s23, List.cons_append, List.nil_append, List.length_cons, List.length_nil, Nat.reduceAdd, Nat.reduceSub, List.replicate_succ, List.replicate_zero]
  simp +contextual -implicitDefEqProofs (maxSteps := 2000000) (disch := omega) only [↓lenV, binV, optV, ↓loadV, ↓storeV, ↓fieldAddrV, ↓indexAddrV, ↓buildSliceV, ↓sliceV, ↓nilV, ↓appendV, ↓srcV, bound, cutTag, hiTag, fillE, GVal.cells, GVal.ofConst, ↓resV, resG, ↓reduceIte, Nat.reduceEqDiff, Nat.reduceAdd, Nat.reduceSub, Nat.reduceLeDiff, reduceCtorEq, ↓asrcV, Tag.cap, GVal.solid, Nat.reduceBEq, Nat.reduceMul, Nat.reduceLT, vcA, ↓vcB, vcC, fbFd, e23, csG_len, ↓op_makeSlice, ↓makeSliceV, vcD]
  refine ⟨by omega, by omega, by omega, fun sb => ?_⟩
  have eI : List.replicate L.length [GVal.bool false] = blr (List.replicate L.length false) := by simp [blr]
  rw [eI]
  obtain ⟨n, hn⟩ : ∃ n, L.length = n := ⟨_, rfl⟩
  have hfi : ∀ x, (look L x).isSome = true → ∃ j, findO L x = some j ∧ j < n ∧ hdL L j = x := fun x hx => by
    cases e : findO L x with
    | none => rw [(hf x).2 e] at hx; cases hx
    | some j => exact ⟨j, rfl, by rw [← hn]; exact ((hf x).1 j e).1, ((hf x).1 j e).2.2⟩
  have cF := fun x (X : List GObj) => GCalls.keep1' (rFind L hL (by omega) x rt) (O := rObj rt L ++ X) 0 rfl rfl rfl rfl
  refine vcSLoop_by (ι := { p : (Nat × List Nat) × Nat // (p.1.1 ≤ l.length ∧ p.1.2.length ≤ p.1.1) ∧ (∀ k ∈ p.1.2, k < n) ∧ p.1.2.map (hdL L) = inM L (l.take p.1.1) }) (fun p => ⟨[.ptr 0 rt 0 0, .slice (hsG l) t, .any, .any, .any, .own 1 sb 0 n, .own 2 p.1.2 0 p.1.1.2.length, .int .i64 (p.1.1.1 : Nat)] ++ List.replicate 80 .any, rObj rt L ++ [.row sb 1 (blr (List.replicate n false)), .row p.1.2 1 (nats p.1.1.2)]⟩) (fun p => l.length - p.1.1.1) ?_ ?_
  · refine Into.row 6 1 rfl rfl ?_
    simp +contextual -implicitDefEqProofs (maxSteps := 2000000) (disch := omega) only [↓lenV, binV, optV, ↓loadV, ↓storeV, ↓fieldAddrV, ↓indexAddrV, ↓buildSliceV, ↓sliceV, ↓nilV, ↓appendV, ↓srcV, bound, cutTag, hiTag, fillE, GVal.cells, GVal.ofConst, ↓resV, resG, ↓reduceIte, Nat.reduceEqDiff, Nat.reduceAdd, Nat.reduceSub, Nat.reduceLeDiff, reduceCtorEq, ↓asrcV, Tag.cap, GVal.solid, Nat.reduceBEq, Nat.reduceMul, Nat.reduceLT, vcA, ↓vcB, vcC, fbFd, e23, vcD]
    intro v
    exact Into.first ⟨((0, []), v), ⟨Nat.zero_le _, Nat.le_refl _⟩, by simp, by simp [inM]⟩ ⟨[], by simp [nats, hn]⟩ (by simp [WL, leG_self, leG_any, hn])
  · rintro ⟨⟨⟨i, T⟩, v⟩, ⟨hi, hTl⟩, hT, hTm⟩
    change i ≤ l.length at hi
    change T.length ≤ i at hTl
    have hT : ∀ k ∈ T, k < n := hT
    have hTm : T.map (hdL L) = inM L (l.take i) := hTm
    by_cases h : i < l.length
    · have d0 : ((i : Int) < (l.length : Int)) = True := eq_true (by omega)
      have eX := hsG_at l i h
      have ht := takeH h
      generalize l.getD i h0 = x at *
      have cFx := cF x [.row sb 1 (blr (List.replicate n false)), .row v 1 (nats T)]
      cases e : findO L x with
      | none =>
        have ez : findZ L x = -1 := by unfold findZ; rw [e]
        have em : inM L (l.take (i + 1)) = inM L (l.take i) := by
          rw [ht]; unfold inM; rw [List.filter_append, List.filter_cons, (hf x).2 e]; simp
        rw [ez] at cFx
        have dz : ((0 : Int) ≤ -1) = False := eq_false (by omega)
        simp +contextual -implicitDefEqProofs (maxSteps := 2000000) (disch := omega) only [↓lenV, binV, optV, ↓loadV, ↓storeV, ↓fieldAddrV, ↓indexAddrV, ↓buildSliceV, ↓sliceV, ↓nilV, ↓appendV, ↓srcV, bound, cutTag, hiTag, fillE, GVal.cells, GVal.ofConst, ↓resV, resG, ↓reduceIte, Nat.reduceEqDiff, Nat.reduceAdd, Nat.reduceSub, Nat.reduceLeDiff, reduceCtorEq, ↓asrcV, Tag.cap, GVal.solid, Nat.reduceBEq, Nat.reduceMul, Nat.reduceLT, vcA, ↓vcB, vcC, fbFd, e23, d0, eX, hsG_len, vcD, v32]
        refine ⟨by omega, cFx.mono ?_⟩
        rintro g O' ⟨rfl, rfl⟩
        simp +contextual -implicitDefEqProofs (maxSteps := 2000000) (disch := omega) only [↓lenV, binV, optV, ↓loadV, ↓storeV, ↓fieldAddrV, ↓indexAddrV, ↓buildSliceV, ↓sliceV, ↓nilV, ↓appendV, ↓srcV, bound, cutTag, hiTag, fillE, GVal.cells, GVal.ofConst, ↓resV, resG, ↓reduceIte, Nat.reduceEqDiff, Nat.reduceAdd, Nat.reduceSub, Nat.reduceLeDiff, reduceCtorEq, ↓asrcV, Tag.cap, GVal.solid, Nat.reduceBEq, Nat.reduceMul, Nat.reduceLT, vcA, ↓vcB, vcC, fbFd, e23, dz, vcD]
        exact Into.at ⟨((i + 1, T), v), ⟨by show i + 1 ≤ l.length; omega, by show T.length ≤ i + 1; omega⟩, hT, by show _ = inM L (l.take (i + 1)); rw [em]; exact hTm⟩ (by show l.length - (i + 1) < l.length - i; omega) ⟨[], by simp⟩ (by simp [WL, leG_self, leG_any, leG_int])
      | some j =>
        obtain ⟨j1, j2, j3⟩ := (hf x).1 j e
        rw [hn] at j1
        have ez : findZ L x = (j : Int) := by unfold findZ; rw [e]
        have em : inM L (l.take (i + 1)) = inM L (l.take i) ++ [x] := by
          rw [ht]; unfold inM; rw [List.filter_append, List.filter_cons, j2]; simp
        rw [ez] at cFx
        have dz : ((0 : Int) ≤ (j : Int)) = True := eq_true (by omega)
        simp +contextual -implicitDefEqProofs (maxSteps := 2000000) (disch := omega) only [↓lenV, binV, optV, ↓loadV, ↓storeV, ↓fieldAddrV, ↓indexAddrV, ↓buildSliceV, ↓sliceV, ↓nilV, ↓appendV, ↓srcV, bound, cutTag, hiTag, fillE, GVal.cells, GVal.ofConst, ↓resV, resG, ↓reduceIte, Nat.reduceEqDiff, Nat.reduceAdd, Nat.reduceSub, Nat.reduceLeDiff, reduceCtorEq, ↓asrcV, Tag.cap, GVal.solid, Nat.reduceBEq, Nat.reduceMul, Nat.reduceLT, vcA, ↓vcB, vcC, fbFd, e23, d0, eX, hsG_len, vcD, v32]
        refine ⟨by omega, cFx.mono ?_⟩
        rintro g O' ⟨rfl, rfl⟩
        simp +contextual -implicitDefEqProofs (maxSteps := 2000000) (disch := omega) only [↓lenV, binV, optV, ↓loadV, ↓storeV, ↓fieldAddrV, ↓indexAddrV, ↓buildSliceV, ↓sliceV, ↓nilV, ↓appendV, ↓srcV, bound, cutTag, hiTag, fillE, GVal.cells, GVal.ofConst, ↓resV, resG, ↓reduceIte, Nat.reduceEqDiff, Nat.reduceAdd, Nat.reduceSub, Nat.reduceLeDiff, reduceCtorEq, ↓asrcV, Tag.cap, GVal.solid, Nat.reduceBEq, Nat.reduceMul, Nat.reduceLT, vcA, ↓vcB, vcC, fbFd, e23, dz, nats_len, all_nats, vcD]
        refine ⟨Nat.le_refl _, by omega, by omega, fun v2 => ?_⟩
        refine Into.at ⟨((i + 1, T ++ [j]), v2), ⟨by show i + 1 ≤ l.length; omega, by show (T ++ [j]).length ≤ i + 1; rw [List.length_append, List.length_singleton]; omega⟩, fun k hk => ?_, ?_⟩ (by show l.length - (i + 1) < l.length - i; omega) ⟨[], ?_⟩ (by simp [WL, leG_self, leG_any, leG_int])
        · rcases List.mem_append.1 hk with q | q
          · exact hT k q
          · rw [List.mem_singleton.1 q]; exact j1
        · show (T ++ [j]).map (hdL L) = inM L (l.take (i + 1))
          rw [em, List.map_append, hTm, List.map_singleton, show hdL L j = x from j3]
        · rw [List.take_of_length_le (by rw [nats_len]; omega)]
          simp [nats]
    · have d0 : ((i : Int) < (l.length : Int)) = False := eq_false (by omega)
      rw [List.take_of_length_le (by omega)] at hTm
      have hinj : ∀ a b, a < n → b < n → hdL L a = hdL L b → a = b := fun a b ha hb e => by
        rcases Nat.lt_trichotomy a b with q | q | q
        · have := ssc_lt hL q (by omega)
          rw [show (L.getD a default).1 = (L.getD b default).1 from e] at this
          exact absurd this (LT.irrefl _)
        · exact q
        · have := ssc_lt hL q (by omega)
          rw [show (L.getD b default).1 = (L.getD a default).1 from e.symm] at this
          exact absurd this (LT.irrefl _)
      have hpk : ∀ k, k < n → parsM L (hdL L k) = (L.getD k default).2 := fun k hk => by
        refine parsM_some (look_of_mem (p := L.getD k default) (ssc_keys hL) ?_)
        rw [List.getD_eq_getElem?_getD, List.getElem?_eq_getElem (by omega)]
        exact List.getElem_mem (by omega)
      simp +contextual -implicitDefEqProofs (maxSteps := 2000000) (disch := omega) only [↓lenV, binV, optV, ↓loadV, ↓storeV, ↓fieldAddrV, ↓indexAddrV, ↓buildSliceV, ↓sliceV, ↓nilV, ↓appendV, ↓srcV, bound, cutTag, hiTag, fillE, GVal.cells, GVal.ofConst, ↓resV, resG, ↓reduceIte, Nat.reduceEqDiff, Nat.reduceAdd, Nat.reduceSub, Nat.reduceLeDiff, reduceCtorEq, ↓asrcV, Tag.cap, GVal.solid, Nat.reduceBEq, Nat.reduceMul, Nat.reduceLT, vcA, ↓vcB, vcC, fbFd, e23, d0, hsG_len, vcD]
      refine vcSLoop_by (ι := { p : (List Nat × List Hs) × (List Nat × (List Bool × Nat)) // (RInv (parsM L) U (inM L l) p.1.2 (p.1.1.map (hdL L)) ∧ p.1.1.length ≤ l.length + 4 * p.1.2.length) ∧ (∀ k ∈ p.1.1, k < n) ∧ p.2.2.1.length = n ∧ ∀ k, k < n → (p.2.2.1.getD k false = true ↔ hdL L k ∈ p.1.2) }) (fun p => ⟨[.ptr 0 rt 0 0, .any, .any, .any, .any, .own 1 sb 0 n, .own 2 p.1.2.2.2 0 p.1.1.1.length] ++ List.replicate 81 .any, rObj rt L ++ [.row sb 1 (blr p.1.2.2.1), .row p.1.2.2.2 1 (nats (p.1.1.1 ++ p.1.2.1))]⟩) (fun p => rMu U.length 4 p.1.1.2.length p.1.1.1.length) ?_ ?_
      · refine Into.first ⟨((T, []), ([], (List.replicate n false, v))), ⟨?_, by show T.length ≤ l.length + 4 * 0; omega⟩, hT, by simp, fun k hk => by rw [List.getD_eq_getElem?_getD, List.getElem?_replicate, if_pos hk]; simp⟩ ⟨[], by simp⟩ (by simp [WL, leG_self, leG_any])
        rw [hTm]
        exact ⟨List.nodup_nil, fun x hx => hU1 x (by simpa using hx), fun x hx => .inr hx, fun x hx => by simp at hx, fun x hx => .base x (by simpa using hx)⟩
      · clear hT hTm hTl hi h d0
        rintro ⟨⟨⟨T, S⟩, ⟨Z, ⟨B, v⟩⟩⟩, ⟨inv, hTl⟩, hT, hB, hBS⟩
        change RInv (parsM L) U (inM L l) S (T.map (hdL L)) at inv
        change T.length ≤ l.length + 4 * S.length at hTl
        have hT : ∀ k ∈ T, k < n := hT
        have hB : B.length = n := hB
        have hBS : ∀ k, k < n → (B.getD k false = true ↔ hdL L k ∈ S) := hBS
        have hSl := inv.len
        rcases List.eq_nil_or_concat T with rfl | ⟨tt, k, e⟩
        · have eA : someL L B = ancL L l := ss_eq (someL_ss L B hL) (ancL_ss L l) fun x => by
            rw [someL_mem L B x (by rw [hB, hn]), ancL_mem, ← inv.fin x]
            constructor
            · rintro ⟨i, h1, h2, h3⟩
              rw [← h3]; exact (hBS i (by omega)).1 h2
            · intro hx
              have hr := (inv.fin x).1 hx
              have hth : (look L x).isSome = true := by
                cases hr with
                | base x hx => exact (List.mem_filter.1 hx).2
                | step x' _ _ hy => exact hg.closed x' _ hy
              obtain ⟨j, _, q2, q3⟩ := hfi x hth
              exact ⟨j, by omega, (hBS j q2).2 (by rw [q3]; exact hx), q3⟩
          have cS := rSome L (by omega) B (by rw [hB, hn]) rt sb
          rw [eA, hn] at cS
          have cS2 := GCalls.keep2 cS rfl [.row v 1 (nats ([] ++ Z))]
          simp +contextual -implicitDefEqProofs (maxSteps := 2000000) (disch := omega) only [↓lenV, binV, optV, ↓loadV, ↓storeV, ↓fieldAddrV, ↓indexAddrV, ↓buildSliceV, ↓sliceV, ↓nilV, ↓appendV, ↓srcV, bound, cutTag, hiTag, fillE, GVal.cells, GVal.ofConst, ↓resV, resG, ↓reduceIte, Nat.reduceEqDiff, Nat.reduceAdd, Nat.reduceSub, Nat.reduceLeDiff, reduceCtorEq, ↓asrcV, Tag.cap, GVal.solid, Nat.reduceBEq, Nat.reduceMul, Nat.reduceLT, vcA, ↓vcB, vcC, fbFd, e23, Int.lt_irrefl, List.length_nil, Int.natCast_zero, vcD]
          refine cS2.mono ?_
          rintro g O' ⟨rfl, rfl⟩
          simp +contextual -implicitDefEqProofs (maxSteps := 2000000) (disch := omega) only [↓lenV, binV, optV, ↓loadV, ↓storeV, ↓fieldAddrV, ↓indexAddrV, ↓buildSliceV, ↓sliceV, ↓nilV, ↓appendV, ↓srcV, bound, cutTag, hiTag, fillE, GVal.cells, GVal.ofConst, ↓resV, resG, ↓reduceIte, Nat.reduceEqDiff, Nat.reduceAdd, Nat.reduceSub, Nat.reduceLeDiff, reduceCtorEq, ↓asrcV, Tag.cap, GVal.solid, Nat.reduceBEq, Nat.reduceMul, Nat.reduceLT, vcA, ↓vcB, vcC, fbFd, e23, vcD]
          exact ⟨_, rObj rt L, [.row sb 1 (blr B), .row v 1 (nats ([] ++ Z))], rfl, leA_refl _, rfl, rfl⟩
        · rw [List.concat_eq_append] at e
          subst e
          rw [List.map_append, List.map_singleton] at inv
          have hkn : k < n := hT k (by simp)
          have hl2 : tt.length + 1 ≤ l.length + 4 * S.length := by rw [List.length_append, List.length_singleton] at hTl; exact hTl
          have d0 : ((0 : Int) < (tt.length : Int) + 1) = True := eq_true (by omega)
          have d1 : ((tt.length : Int) + 1 - 1).toNat = tt.length := by omega
          have eS : (nats (tt ++ [k] ++ Z)).getD tt.length [] = [.int .i64 (k : Int)] := by
            simp [nats, List.getD]
          have eB := blr_at B k (by omega)
          cases eb : B.getD k false with
          | true =>
            rw [eb] at eB
            have hkS := (hBS k hkn).1 eb
            simp +contextual -implicitDefEqProofs (maxSteps := 2000000) (disch := omega) only [↓lenV, binV, optV, ↓loadV, ↓storeV, ↓fieldAddrV, ↓indexAddrV, ↓buildSliceV, ↓sliceV, ↓nilV, ↓appendV, ↓srcV, bound, cutTag, hiTag, fillE, GVal.cells, GVal.ofConst, ↓resV, resG, ↓reduceIte, Nat.reduceEqDiff, Nat.reduceAdd, Nat.reduceSub, Nat.reduceLeDiff, reduceCtorEq, ↓asrcV, Tag.cap, GVal.solid, Nat.reduceBEq, Nat.reduceMul, Nat.reduceLT, vcA, ↓vcB, vcC, fbFd, e23, toNat0, Nat.sub_zero, nats_len, all_nats, blr_len, all_blr, hB, Nat.zero_add, d0, d1, eS, eB, List.length_append, List.length_singleton, List.length_cons, List.length_nil, true_imp_iff, vcD]
            refine ⟨by omega, by omega, by omega, by omega, by omega, by omega, by omega, by omega, by omega, hkn, hkn, ?_⟩
            exact Into.at ⟨((tt, S), ([k] ++ Z, (B, v))), ⟨inv.skip hkS, by show tt.length ≤ l.length + 4 * S.length; omega⟩, fun q hq => hT q (by simp [hq]), hB, hBS⟩ (mu1 _ _ _) ⟨[], by simp⟩ (by simp [WL, leG_self, leG_any])
          | false =>
            rw [eb] at eB
            have hkS : hdL L k ∉ S := fun q => by
              have := (hBS k hkn).2 q
              rw [eb] at this; cases this
            simp +contextual -implicitDefEqProofs (maxSteps := 2000000) (disch := omega) only [↓lenV, binV, optV, ↓loadV, ↓storeV, ↓fieldAddrV, ↓indexAddrV, ↓buildSliceV, ↓sliceV, ↓nilV, ↓appendV, ↓srcV, bound, cutTag, hiTag, fillE, GVal.cells, GVal.ofConst, ↓resV, resG, ↓reduceIte, Nat.reduceEqDiff, Nat.reduceAdd, Nat.reduceSub, Nat.reduceLeDiff, reduceCtorEq, ↓asrcV, Tag.cap, GVal.solid, Nat.reduceBEq, Nat.reduceMul, Nat.reduceLT, vcA, ↓vcB, vcC, fbFd, e23, toNat0, Nat.sub_zero, nats_len, all_nats, blr_len, all_blr, blr_set, hB, Nat.zero_add, d0, d1, eS, eB, List.length_append, List.length_singleton, List.length_cons, List.length_nil, true_imp_iff, vcD]
            refine ⟨by omega, by omega, by omega, by omega, by omega, by omega, by omega, by omega, by omega, hkn, hkn, by omega, by omega, hkn, hkn, ?_⟩
            have hx4 := hm.pars (hdL L k)
            have hgo := inv.go hkS (fun y hy => hU2 _ y hy)
            have hgl := hgo.len
            rw [List.length_append, List.length_singleton] at hgl
            have hcl := fun y hy => hg.closed (hdL L k) y hy
            have hlk := hpk k hkn
            obtain ⟨xh, ps, hx⟩ : ∃ xh xp, L.getD k default = (xh, xp) := ⟨_, _, rfl⟩
            have hxh : hdL L k = xh := by show (L.getD k default).1 = xh; rw [hx]
            have eC := csG_at L k (by omega)
            rw [hx] at hlk eC
            simp only [hxh] at hlk hcl hgo hkS hx4
            rw [hlk] at hcl hgo hx4
            obtain ⟨B', hB'⟩ : ∃ B', B.set k true = B' := ⟨_, rfl⟩
            have hBl' : B'.length = n := by rw [← hB', List.length_set]; exact hB
            have hBS' : ∀ q, q < n → (B'.getD q false = true ↔ hdL L q ∈ S ++ [xh]) := fun q hq => by
              rw [← hB', List.getD_eq_getElem?_getD, List.getElem?_set]
              by_cases e : k = q
              · subst e
                rw [if_pos rfl, if_pos (by omega)]
                simp [hxh]
              · rw [if_neg e, ← List.getD_eq_getElem?_getD, hBS q hq]
                simp only [List.mem_append, List.mem_singleton]
                refine ⟨.inl, fun h => h.resolve_right fun h => e ?_⟩
                exact hinj k q hkn hq (by rw [hxh, h])
            rw [hB']
            refine vcSLoop_by (ι := { p : (Nat × List Nat) × (List Nat × Nat) // (p.1.1 ≤ ps.length ∧ p.1.2.length = tt.length + p.1.1) ∧ (∀ q ∈ p.1.2, q < n) ∧ p.1.2.map (hdL L) = tt.map (hdL L) ++ ps.take p.1.1 }) (fun p => ⟨[.ptr 0 rt 0 0, .any, .any, .any, .any, .own 1 sb 0 n, .own 2 p.1.2.2 0 p.1.1.2.length, .any, .any, .int .i64 (k : Nat), .int .i64 (p.1.1.1 : Nat)] ++ List.replicate 77 .any, rObj rt L ++ [.row sb 1 (blr B'), .row p.1.2.2 1 (nats (p.1.1.2 ++ p.1.2.1))]⟩) (fun p => ps.length - p.1.1.1) ?_ ?_
            · exact Into.first ⟨((0, tt), ([k] ++ Z, v)), ⟨Nat.zero_le _, rfl⟩, fun q hq => hT q (by simp [hq]), by simp⟩ ⟨[], by simp⟩ (by simp [WL, leG_self, leG_any])
            · rintro ⟨⟨⟨j, T2⟩, ⟨Z2, v2⟩⟩, ⟨hj, hT2l⟩, hT2, hT2m⟩
              change j ≤ ps.length at hj
              change T2.length = tt.length + j at hT2l
              have hT2 : ∀ q ∈ T2, q < n := hT2
              have hT2m : T2.map (hdL L) = tt.map (hdL L) ++ ps.take j := hT2m
              by_cases h' : j < ps.length
              · have d2 : ((j : Int) < (ps.length : Int)) = True := eq_true (by omega)
                have eP := hsG_at ps j h'
                have htp := takeH h'
                have hym : ps.getD j h0 ∈ ps := by
                  rw [List.getD_eq_getElem?_getD, List.getElem?_eq_getElem h']; exact List.getElem_mem h'
                generalize ps.getD j h0 = y at *
                obtain ⟨q, q1, q2, q3⟩ := hfi y (hcl y hym)
                have cFy := cF y [.row sb 1 (blr B'), .row v2 1 (nats (T2 ++ Z2))]
                have ez : findZ L y = (q : Int) := by unfold findZ; rw [q1]
                rw [ez] at cFy
                simp +contextual -implicitDefEqProofs (maxSteps := 2000000) (disch := omega) only [↓lenV, binV, optV, ↓loadV, ↓storeV, ↓fieldAddrV, ↓indexAddrV, ↓buildSliceV, ↓sliceV, ↓nilV, ↓appendV, ↓srcV, bound, cutTag, hiTag, fillE, GVal.cells, GVal.ofConst, ↓resV, resG, ↓reduceIte, Nat.reduceEqDiff, Nat.reduceAdd, Nat.reduceSub, Nat.reduceLeDiff, reduceCtorEq, ↓asrcV, Tag.cap, GVal.solid, Nat.reduceBEq, Nat.reduceMul, Nat.reduceLT, vcA, ↓vcB, vcC, fbFd, e23, d2, eC, eP, csG_len, comG, hsG_len, all_hsG, vcD, v33, v32]
                refine ⟨by omega, by omega, by omega, by omega, by omega, cFy.mono ?_⟩
                rintro g O' ⟨rfl, rfl⟩
                simp +contextual -implicitDefEqProofs (maxSteps := 2000000) (disch := omega) only [↓lenV, binV, optV, ↓loadV, ↓storeV, ↓fieldAddrV, ↓indexAddrV, ↓buildSliceV, ↓sliceV, ↓nilV, ↓appendV, ↓srcV, bound, cutTag, hiTag, fillE, GVal.cells, GVal.ofConst, ↓resV, resG, ↓reduceIte, Nat.reduceEqDiff, Nat.reduceAdd, Nat.reduceSub, Nat.reduceLeDiff, reduceCtorEq, ↓asrcV, Tag.cap, GVal.solid, Nat.reduceBEq, Nat.reduceMul, Nat.reduceLT, vcA, ↓vcB, vcC, fbFd, e23, nats_len, all_nats, toNat0, Nat.sub_zero, Nat.zero_add, List.length_append, vcD]
                refine ⟨by omega, by omega, by omega, fun v3 => ?_⟩
                refine Into.at ⟨((j + 1, T2 ++ [q]), ([], v3)), ⟨by show j + 1 ≤ ps.length; omega, by show (T2 ++ [q]).length = tt.length + (j + 1); rw [List.length_append, List.length_singleton]; omega⟩, fun z hz => ?_, ?_⟩ (by show ps.length - (j + 1) < ps.length - j; omega) ⟨[], ?_⟩ (by simp [WL, leG_self, leG_any, leG_int])
                · rcases List.mem_append.1 hz with w | w
                  · exact hT2 z w
                  · rw [List.mem_singleton.1 w]; exact q2
                · show (T2 ++ [q]).map (hdL L) = tt.map (hdL L) ++ ps.take (j + 1)
                  rw [htp, List.map_append, hT2m, List.map_singleton, q3, List.append_assoc]
                · rw [nats_app, List.take_left' (nats_len T2)]
                  simp [nats]
              · have d2 : ((j : Int) < (ps.length : Int)) = False := eq_false (by omega)
                simp +contextual -implicitDefEqProofs (maxSteps := 2000000) (disch := omega) only [↓lenV, binV, optV, ↓loadV, ↓storeV, ↓fieldAddrV, ↓indexAddrV, ↓buildSliceV, ↓sliceV, ↓nilV, ↓appendV, ↓srcV, bound, cutTag, hiTag, fillE, GVal.cells, GVal.ofConst, ↓resV, resG, ↓reduceIte, Nat.reduceEqDiff, Nat.reduceAdd, Nat.reduceSub, Nat.reduceLeDiff, reduceCtorEq, ↓asrcV, Tag.cap, GVal.solid, Nat.reduceBEq, Nat.reduceMul, Nat.reduceLT, vcA, ↓vcB, vcC, fbFd, e23, d2, eC, csG_len, comG, hsG_len, all_hsG, vcD, v33, v32]
                rw [List.take_of_length_le (by omega)] at hT2m
                refine ⟨by omega, by omega, ?_⟩
                refine Into.at ⟨((T2, S ++ [xh]), (Z2, (B', v2))), ⟨?_, ?_⟩, hT2, hBl', hBS'⟩ ?_ ⟨[], by simp⟩ (by simp [WL, leG_self, leG_any])
                · show RInv (parsM L) U (inM L l) (S ++ [xh]) (T2.map (hdL L))
                  rw [hT2m]; exact hgo
                · show T2.length ≤ l.length + 4 * (S ++ [xh]).length
                  rw [List.length_append, List.length_singleton]; omega
                · show rMu _ 4 (S ++ [xh]).length T2.length < rMu _ 4 S.length (tt.length + 1)
                  rw [List.length_append, List.length_singleton, hT2l]
                  have hjp : j = ps.length := by omega
                  rw [hjp]
                  exact mu2 _ _ _ _ (by omega) hx4
end Gv.Try
