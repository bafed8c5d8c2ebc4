/- Contracts: order's push and step, where the function that tells who is done reads two objects more. -/
import Derived.Test.YtgkglnjmiobdmaaP10
import Derived.Test.YtgkglnjmiobdmaaP13
import Derived.Test.YtgkglnjmiobdmaaP4
import Derived.Test.YtgkglnjmiobdmaaP5
import Derived.Test.YtgkglnjmiobdmaaP6
set_option linter.unusedVariables false
set_option linter.unusedSimpArgs false
set_option maxRecDepth 20000
set_option maxHeartbeats 4000000
namespace Gv.Try
open Go Gv Go.Proofs
abbrev wObjY (y1 y2 : GObj) (st s : Nat) (m : GM) (sq sw sv so n : Nat) (dg : GVal) (K Z : List Cm) (S out : List Hs) : List GObj :=
  [.row st 1 [[.map 1 s]], .map s (kvG encL m), y1, y2, .map sq (kvG encB (setM S)), .row sw 5 [[.ptr 0 st 0 0, dg, .map 4 sq, .own 6 sv 0 n, .slice (hsG out) (.tok 7 so)]], .row sv 33 (csG (K ++ Z)), .tok so 32]
abbrev DoneY (y1 y2 : GObj) (st s : Nat) (m : GM) (F : FuncId) (caps : List GVal) (h : Hs) (b : Bool) : Prop := ∀ X : List GObj, GCalls Try.prog F (.agg (bytesG h.1) :: caps) (.row st 1 [[.map 1 s]] :: .map s (kvG encL m) :: y1 :: y2 :: X) (fun g O' => g = .bool b ∧ O' = .row st 1 [[.map 1 s]] :: .map s (kvG encL m) :: y1 :: y2 :: X)
theorem gPush1Y (y1 y2 : GObj) (m : GM) (hm : GMOK m) (h : Hs) (st s sq sw sv so n : Nat) (dg : GVal) (K Z : List Cm) (S out : List Hs) (hl : look m h = none) (hn : n = K.length) :
    GCalls Try.prog 29 [.ptr 5 sw 0 0, .agg (bytesG h.1)] (wObjY y1 y2 st s m sq sw sv so n dg K Z S out) (fun g O' => g = .tuple [] ∧ O' = wObjY y1 y2 st s m sq sw sv so n dg K Z S out) := by
  subst hn
  have c := fun X => gParK m h st s (by have := hm.pars h; omega) X
  simp only [hl, Option.isSome_none] at c
  refine h29.calls mixS (by simp) ?_
  simp only [gstart, s29, List.cons_append, List.nil_append, List.length_cons, List.length_nil, Nat.reduceAdd, Nat.reduceSub, List.replicate_succ, List.replicate_zero]
  simp +contextual -implicitDefEqProofs (maxSteps := 2000000) (disch := omega) only [drawC, drawK, keepT, binV, ↓unV, ↓loadV, ↓storeV, ↓fieldAddrV, ↓boxV, ↓buildV, ↓buildSliceV, ↓nilV, ↓appendV, ↓srcV, fillG, fillE, place, GVal.cells, grp, GVal.ofConst, ↓resV, resG, List.map, List.headD, List.take, List.drop, ↓reduceIte, Nat.reduceEqDiff, Nat.reduceAdd, Nat.reduceSub, Nat.reduceLeDiff, reduceCtorEq, implies_true, ne_eq, ↓asrcV, ↓lookupV, ↓mapUpdateV, keyOk, keyCells, pairG, aggV, Tag.cap, List.replicate, allSolid, GVal.solid, Nat.reduceBEq, Nat.reduceMul, Nat.reduceLT, List.length_map, List.length_range, splice, vcA, ↓vcB, vcC, fbFd, e29, solidH, len32, take32]
  refine (c _).mono ?_
  rintro g O' ⟨rfl, rfl⟩
  simp +contextual -implicitDefEqProofs (maxSteps := 2000000) (disch := omega) only [drawC, drawK, keepT, binV, ↓unV, ↓loadV, ↓storeV, ↓fieldAddrV, ↓boxV, ↓buildV, ↓buildSliceV, ↓nilV, ↓appendV, ↓srcV, fillG, fillE, place, GVal.cells, grp, GVal.ofConst, ↓resV, resG, List.map, List.headD, List.take, List.drop, ↓reduceIte, Nat.reduceEqDiff, Nat.reduceAdd, Nat.reduceSub, Nat.reduceLeDiff, reduceCtorEq, implies_true, ne_eq, ↓asrcV, ↓lookupV, ↓mapUpdateV, keyOk, keyCells, pairG, aggV, Tag.cap, List.replicate, allSolid, GVal.solid, Nat.reduceBEq, Nat.reduceMul, Nat.reduceLT, List.length_map, List.length_range, splice, vcA, ↓vcB, vcC, fbFd, e29, setO_3, setO_4, setO_5, setO_6, setO_7, setO_8, solidH, len32, take32, kfind_h]
theorem gPush2Y (y1 y2 : GObj) (m : GM) (hm : GMOK m) (h : Hs) (st s sq sw sv so n : Nat) (dg : GVal) (K Z : List Cm) (S out : List Hs) (l : List Hs) (hl : look m h = some l) (hS : h ∈ S) (hn : n = K.length) :
    GCalls Try.prog 29 [.ptr 5 sw 0 0, .agg (bytesG h.1)] (wObjY y1 y2 st s m sq sw sv so n dg K Z S out) (fun g O' => g = .tuple [] ∧ O' = wObjY y1 y2 st s m sq sw sv so n dg K Z S out) := by
  subst hn
  have c := fun X => gParK m h st s (by have := hm.pars h; omega) X
  simp only [hl, Option.isSome_some, parsM_some hl] at c
  obtain ⟨i, hi, hv, _⟩ := look_idx encB (setM S) h true (by rw [look_set, if_pos hS])
  refine h29.calls mixS (by simp) ?_
  simp only [gstart, s29, List.cons_append, List.nil_append, List.length_cons, List.length_nil, Nat.reduceAdd, Nat.reduceSub, List.replicate_succ, List.replicate_zero]
  simp +contextual -implicitDefEqProofs (maxSteps := 2000000) (disch := omega) only [drawC, drawK, keepT, binV, ↓unV, ↓loadV, ↓storeV, ↓fieldAddrV, ↓boxV, ↓buildV, ↓buildSliceV, ↓nilV, ↓appendV, ↓srcV, fillG, fillE, place, GVal.cells, grp, GVal.ofConst, ↓resV, resG, List.map, List.headD, List.take, List.drop, ↓reduceIte, Nat.reduceEqDiff, Nat.reduceAdd, Nat.reduceSub, Nat.reduceLeDiff, reduceCtorEq, implies_true, ne_eq, ↓asrcV, ↓lookupV, ↓mapUpdateV, keyOk, keyCells, pairG, aggV, Tag.cap, List.replicate, allSolid, GVal.solid, Nat.reduceBEq, Nat.reduceMul, Nat.reduceLT, List.length_map, List.length_range, splice, vcA, ↓vcB, vcC, fbFd, e29, solidH, len32, take32]
  refine (c _).mono ?_
  rintro g O' ⟨rfl, rfl⟩
  simp +contextual -implicitDefEqProofs (maxSteps := 2000000) (disch := omega) only [drawC, drawK, keepT, binV, ↓unV, ↓loadV, ↓storeV, ↓fieldAddrV, ↓boxV, ↓buildV, ↓buildSliceV, ↓nilV, ↓appendV, ↓srcV, fillG, fillE, place, GVal.cells, grp, GVal.ofConst, ↓resV, resG, List.map, List.headD, List.take, List.drop, ↓reduceIte, Nat.reduceEqDiff, Nat.reduceAdd, Nat.reduceSub, Nat.reduceLeDiff, reduceCtorEq, implies_true, ne_eq, ↓asrcV, ↓lookupV, ↓mapUpdateV, keyOk, keyCells, pairG, aggV, Tag.cap, List.replicate, allSolid, GVal.solid, Nat.reduceBEq, Nat.reduceMul, Nat.reduceLT, List.length_map, List.length_range, splice, vcA, ↓vcB, vcC, fbFd, e29, setO_3, setO_4, setO_5, setO_6, setO_7, setO_8, solidH, len32, take32, kfind_h, hi, hv]
theorem gPush3Y (y1 y2 : GObj) (m : GM) (hm : GMOK m) (h : Hs) (st s sq sw sv so n : Nat) (F : FuncId) (caps : List GVal) (K Z : List Cm) (S out : List Hs) (l : List Hs) (hl : look m h = some l) (hS : h ∉ S) (hF : DoneY y1 y2 st s m F caps h true) (hn : n = K.length) :
    GCalls Try.prog 29 [.ptr 5 sw 0 0, .agg (bytesG h.1)] (wObjY y1 y2 st s m sq sw sv so n (.func (.func F) [] caps) K Z S out) (fun g O' => g = .tuple [] ∧ O' = wObjY y1 y2 st s m sq sw sv so n (.func (.func F) [] caps) K Z S out) := by
  subst hn
  have c := fun X => gParK m h st s (by have := hm.pars h; omega) X
  simp only [hl, Option.isSome_some, parsM_some hl] at c
  obtain ⟨hi, hw⟩ := look_none encB (setM S) h (by rw [look_set, if_neg hS])
  have hw := hw true
  rw [mset_set S h hS] at hw
  refine h29.calls mixS (by simp) ?_
  simp only [gstart, s29, List.cons_append, List.nil_append, List.length_cons, List.length_nil, Nat.reduceAdd, Nat.reduceSub, List.replicate_succ, List.replicate_zero]
  simp +contextual -implicitDefEqProofs (maxSteps := 2000000) (disch := omega) only [drawC, drawK, keepT, binV, ↓unV, ↓loadV, ↓storeV, ↓fieldAddrV, ↓boxV, ↓buildV, ↓buildSliceV, ↓nilV, ↓appendV, ↓srcV, fillG, fillE, place, GVal.cells, grp, GVal.ofConst, ↓resV, resG, List.map, List.headD, List.take, List.drop, ↓reduceIte, Nat.reduceEqDiff, Nat.reduceAdd, Nat.reduceSub, Nat.reduceLeDiff, reduceCtorEq, implies_true, ne_eq, ↓asrcV, ↓lookupV, ↓mapUpdateV, keyOk, keyCells, pairG, aggV, Tag.cap, List.replicate, allSolid, GVal.solid, Nat.reduceBEq, Nat.reduceMul, Nat.reduceLT, List.length_map, List.length_range, splice, vcA, ↓vcB, vcC, fbFd, e29, solidH, len32, take32]
  refine (c _).mono ?_
  rintro g O' ⟨rfl, rfl⟩
  simp +contextual -implicitDefEqProofs (maxSteps := 2000000) (disch := omega) only [drawC, drawK, keepT, binV, ↓unV, ↓loadV, ↓storeV, ↓fieldAddrV, ↓boxV, ↓buildV, ↓buildSliceV, ↓nilV, ↓appendV, ↓srcV, fillG, fillE, place, GVal.cells, grp, GVal.ofConst, ↓resV, resG, List.map, List.headD, List.take, List.drop, ↓reduceIte, Nat.reduceEqDiff, Nat.reduceAdd, Nat.reduceSub, Nat.reduceLeDiff, reduceCtorEq, implies_true, ne_eq, ↓asrcV, ↓lookupV, ↓mapUpdateV, keyOk, keyCells, pairG, aggV, Tag.cap, List.replicate, allSolid, GVal.solid, Nat.reduceBEq, Nat.reduceMul, Nat.reduceLT, List.length_map, List.length_range, splice, vcA, ↓vcB, vcC, fbFd, e29, setO_3, setO_4, setO_5, setO_6, setO_7, setO_8, solidH, len32, take32, kfind_h, hi, hw]
  refine (hF _).mono ?_
  rintro g O' ⟨rfl, rfl⟩
  simp +contextual -implicitDefEqProofs (maxSteps := 2000000) (disch := omega) only [drawC, drawK, keepT, binV, ↓unV, ↓loadV, ↓storeV, ↓fieldAddrV, ↓boxV, ↓buildV, ↓buildSliceV, ↓nilV, ↓appendV, ↓srcV, fillG, fillE, place, GVal.cells, grp, GVal.ofConst, ↓resV, resG, List.map, List.headD, List.take, List.drop, ↓reduceIte, Nat.reduceEqDiff, Nat.reduceAdd, Nat.reduceSub, Nat.reduceLeDiff, reduceCtorEq, implies_true, ne_eq, ↓asrcV, ↓lookupV, ↓mapUpdateV, keyOk, keyCells, pairG, aggV, Tag.cap, List.replicate, allSolid, GVal.solid, Nat.reduceBEq, Nat.reduceMul, Nat.reduceLT, List.length_map, List.length_range, splice, vcA, ↓vcB, vcC, fbFd, e29, setO_3, setO_4, setO_5, setO_6, setO_7, setO_8, solidH, len32, take32, kfind_h, csG_len, take32a, drop32a, drop33a, take33a, len33, solid33, all_csG, hi, hw]
theorem gPush4Y (y1 y2 : GObj) (m : GM) (hm : GMOK m) (h : Hs) (st s sq sw sv so n : Nat) (F : FuncId) (caps : List GVal) (K Z : List Cm) (S out : List Hs) (l : List Hs) (hl : look m h = some l) (hS : h ∉ S) (hF : DoneY y1 y2 st s m F caps h false) (hK : K.length ≤ 1000000) (hn : n = K.length) :
    GCalls Try.prog 29 [.ptr 5 sw 0 0, .agg (bytesG h.1)] (wObjY y1 y2 st s m sq sw sv so n (.func (.func F) [] caps) K Z S out) (fun g O' => ∃ sv', g = .tuple [] ∧ O' = wObjY y1 y2 st s m sq sw sv' so (n + 1) (.func (.func F) [] caps) (K ++ [(h, l)]) [] (S ++ [h]) out) := by
  subst hn
  have c := fun X => gParK m h st s (by have := hm.pars h; omega) X
  simp only [hl, Option.isSome_some, parsM_some hl] at c
  obtain ⟨hi, hw⟩ := look_none encB (setM S) h (by rw [look_set, if_neg hS])
  have hw := hw true
  rw [mset_set S h hS] at hw
  refine h29.calls mixS (by simp) ?_
  simp only [gstart, s29, List.cons_append, List.nil_append, List.length_cons, List.length_nil, Nat.reduceAdd, Nat.reduceSub, List.replicate_succ, List.replicate_zero]
  simp +contextual -implicitDefEqProofs (maxSteps := 2000000) (disch := omega) only [drawC, drawK, keepT, binV, ↓unV, ↓loadV, ↓storeV, ↓fieldAddrV, ↓boxV, ↓buildV, ↓buildSliceV, ↓nilV, ↓appendV, ↓srcV, fillG, fillE, place, GVal.cells, grp, GVal.ofConst, ↓resV, resG, List.map, List.headD, List.take, List.drop, ↓reduceIte, Nat.reduceEqDiff, Nat.reduceAdd, Nat.reduceSub, Nat.reduceLeDiff, reduceCtorEq, implies_true, ne_eq, ↓asrcV, ↓lookupV, ↓mapUpdateV, keyOk, keyCells, pairG, aggV, Tag.cap, List.replicate, allSolid, GVal.solid, Nat.reduceBEq, Nat.reduceMul, Nat.reduceLT, List.length_map, List.length_range, splice, vcA, ↓vcB, vcC, fbFd, e29, solidH, len32, take32]
  refine (c _).mono ?_
  rintro g O' ⟨rfl, rfl⟩
  simp +contextual -implicitDefEqProofs (maxSteps := 2000000) (disch := omega) only [drawC, drawK, keepT, binV, ↓unV, ↓loadV, ↓storeV, ↓fieldAddrV, ↓boxV, ↓buildV, ↓buildSliceV, ↓nilV, ↓appendV, ↓srcV, fillG, fillE, place, GVal.cells, grp, GVal.ofConst, ↓resV, resG, List.map, List.headD, List.take, List.drop, ↓reduceIte, Nat.reduceEqDiff, Nat.reduceAdd, Nat.reduceSub, Nat.reduceLeDiff, reduceCtorEq, implies_true, ne_eq, ↓asrcV, ↓lookupV, ↓mapUpdateV, keyOk, keyCells, pairG, aggV, Tag.cap, List.replicate, allSolid, GVal.solid, Nat.reduceBEq, Nat.reduceMul, Nat.reduceLT, List.length_map, List.length_range, splice, vcA, ↓vcB, vcC, fbFd, e29, setO_3, setO_4, setO_5, setO_6, setO_7, setO_8, solidH, len32, take32, kfind_h, hi, hw]
  refine (hF _).mono ?_
  rintro g O' ⟨rfl, rfl⟩
  simp +contextual -implicitDefEqProofs (maxSteps := 2000000) (disch := omega) only [drawC, drawK, keepT, binV, ↓unV, ↓loadV, ↓storeV, ↓fieldAddrV, ↓boxV, ↓buildV, ↓buildSliceV, ↓nilV, ↓appendV, ↓srcV, fillG, fillE, place, GVal.cells, grp, GVal.ofConst, ↓resV, resG, List.map, List.headD, List.take, List.drop, ↓reduceIte, Nat.reduceEqDiff, Nat.reduceAdd, Nat.reduceSub, Nat.reduceLeDiff, reduceCtorEq, implies_true, ne_eq, ↓asrcV, ↓lookupV, ↓mapUpdateV, keyOk, keyCells, pairG, aggV, Tag.cap, List.replicate, allSolid, GVal.solid, Nat.reduceBEq, Nat.reduceMul, Nat.reduceLT, List.length_map, List.length_range, splice, vcA, ↓vcB, vcC, fbFd, e29, setO_3, setO_4, setO_5, setO_6, setO_7, setO_8, solidH, len32, take32, kfind_h, csG_len, take32a, drop32a, drop33a, take33a, len33, solid33, all_csG, hi, hw]
  refine ⟨by simp, by omega, by omega, fun v => ⟨v, ?_⟩⟩
  rw [take_csG]
  simp [csG_app, csG_one, comG]
theorem gPushY (y1 y2 : GObj) (m : GM) (hm : GMOK m) (h : Hs) (st s sq sw sv so n : Nat) (F : FuncId) (caps : List GVal) (dn : Hs → Bool) (hd : ∀ h, DoneY y1 y2 st s m F caps h (dn h)) (K Z : List Cm) (S out : List Hs) (hK : K.length ≤ 1000000) (hn : n = K.length) :
    GCalls Try.prog 29 [.ptr 5 sw 0 0, .agg (bytesG h.1)] (wObjY y1 y2 st s m sq sw sv so n (.func (.func F) [] caps) K Z S out) (fun g O' => ∃ sv' Z', g = .tuple [] ∧ O' = if pushed m dn S h = true then wObjY y1 y2 st s m sq sw sv' so (n + 1) (.func (.func F) [] caps) (K ++ [(h, parsM m h)]) Z' (S ++ [h]) out else wObjY y1 y2 st s m sq sw sv' so n (.func (.func F) [] caps) K Z' S out) := by
  have stay : pushed m dn S h = false → GCalls Try.prog 29 [.ptr 5 sw 0 0, .agg (bytesG h.1)] (wObjY y1 y2 st s m sq sw sv so n (.func (.func F) [] caps) K Z S out) (fun g O' => g = .tuple [] ∧ O' = wObjY y1 y2 st s m sq sw sv so n (.func (.func F) [] caps) K Z S out) →
      GCalls Try.prog 29 [.ptr 5 sw 0 0, .agg (bytesG h.1)] (wObjY y1 y2 st s m sq sw sv so n (.func (.func F) [] caps) K Z S out) (fun g O' => ∃ sv' Z', g = .tuple [] ∧ O' = if pushed m dn S h = true then wObjY y1 y2 st s m sq sw sv' so (n + 1) (.func (.func F) [] caps) (K ++ [(h, parsM m h)]) Z' (S ++ [h]) out else wObjY y1 y2 st s m sq sw sv' so n (.func (.func F) [] caps) K Z' S out) := fun hp hc => by
    rw [hp]
    refine hc.mono ?_
    rintro g O' ⟨rfl, rfl⟩
    exact ⟨sv, Z, rfl, by rw [if_neg (by simp)]⟩
  cases hl : look m h with
  | none => exact stay (by unfold pushed; rw [hl]; rfl) (gPush1Y y1 y2 m hm h st s sq sw sv so n (.func (.func F) [] caps) K Z S out hl hn)
  | some l =>
    rw [parsM_some hl]
    rw [parsM_some hl] at stay
    by_cases hS : h ∈ S
    · exact stay (by unfold pushed; rw [hl]; simp [hS]) (gPush2Y y1 y2 m hm h st s sq sw sv so n (.func (.func F) [] caps) K Z S out l hl hS hn)
    · have hF := hd h
      cases hb : dn h with
      | true =>
        rw [hb] at hF
        exact stay (by unfold pushed; rw [hl, hb]; simp) (gPush3Y y1 y2 m hm h st s sq sw sv so n F caps K Z S out l hl hS hF hn)
      | false =>
        rw [hb] at hF
        have hp : pushed m dn S h = true := by unfold pushed; rw [hl, hb]; simp [hS]
        rw [hp]
        refine (gPush4Y y1 y2 m hm h st s sq sw sv so n F caps K Z S out l hl hS hF hK hn).mono ?_
        rintro g O' ⟨sv', rfl, rfl⟩
        exact ⟨sv', [], rfl, by rw [if_pos rfl]⟩
theorem gStep1Y (y1 y2 : GObj) (m : GM) (hm : GMOK m) (st s sq sw sv so n : Nat) (F : FuncId) (caps : List GVal) (dn : Hs → Bool) (hd : ∀ h, DoneY y1 y2 st s m F caps h (dn h)) (K Z : List Cm) (x p : Hs) (r S out : List Hs) (hK : K.length ≤ 999999) (hn : n = K.length) :
    GCalls Try.prog 30 [.ptr 5 sw 0 0] (wObjY y1 y2 st s m sq sw sv so (n + 1) (.func (.func F) [] caps) (K ++ [(x, p :: r)]) Z S out) (fun g O' => ∃ sv' Z', g = .tuple [] ∧ O' = if pushed m dn S p = true then wObjY y1 y2 st s m sq sw sv' so (n + 2) (.func (.func F) [] caps) (K ++ [(x, r)] ++ [(p, parsM m p)]) Z' (S ++ [p]) out else wObjY y1 y2 st s m sq sw sv' so (n + 1) (.func (.func F) [] caps) (K ++ [(x, r)]) Z' S out) := by
  subst hn
  have eS : (csG (K ++ [(x, p :: r)] ++ Z)).getD K.length [] = bytesG x.1 ++ [.slice (hsG (p :: r)) .none] := by
    rw [csG_at _ _ (by simp)]
    simp [List.getD, comG]
  have d1 : ((K.length : Int) + 1 - 1).toNat = K.length := by omega
  have eH : (hsG (p :: r)).getD 0 [] = bytesG p.1 := rfl
  have d2 : ((0 : Int) < (r.length : Int) + 1) = True := eq_true (by omega)
  have eD : List.drop (Int.toNat 1) (List.take ((r.length : Int) + 1).toNat (hsG (p :: r))) = hsG r := by
    have e : ((r.length : Int) + 1).toNat = (hsG (p :: r)).length := by rw [hsG_len]; simp
    rw [e, List.take_length]; rfl
  have eW : (csG (K ++ [(x, p :: r)] ++ Z)).set K.length (bytesG x.1 ++ [.slice (hsG r) .none]) = csG (K ++ [(x, r)] ++ Z) := by
    rw [csG_app, csG_app, csG_app, csG_app, List.append_assoc, List.set_append_right _ _ (by rw [csG_len]; omega), csG_len, Nat.sub_self, List.append_assoc]
    rfl
  have cP := gPushY y1 y2 m hm p st s sq sw sv so (K.length + 1) F caps dn hd (K ++ [(x, r)]) Z S out (by simp; omega) (by simp)
  refine GCalls.dropTo ?_
  refine h30.calls mixS (by simp) ?_
  simp only [gstart, s30, List.cons_append, List.nil_append, List.length_cons, List.length_nil, Nat.reduceAdd, Nat.reduceSub, List.replicate_succ, List.replicate_zero]
  simp +contextual -implicitDefEqProofs (maxSteps := 2000000) (disch := omega) only [drawC, drawK, keepT, ↓lenV, binV, optV, ↓loadV, ↓storeV, ↓fieldAddrV, ↓indexAddrV, ↓allocV, ↓buildSliceV, ↓sliceV, ↓nilV, ↓appendV, ↓srcV, bound, cutTag, hiTag, fillE, GVal.cells, grp, GVal.ofConst, ↓resV, resG, List.map, List.headD, List.take, List.drop, ↓reduceIte, Nat.reduceEqDiff, Nat.reduceAdd, Nat.reduceSub, Nat.reduceLeDiff, reduceCtorEq, implies_true, ne_eq, ↓asrcV, Tag.cap, List.replicate, allSolid, GVal.solid, Nat.reduceBEq, Nat.reduceMul, Nat.reduceLT, List.length_map, List.length_range, splice, vcA, ↓vcB, vcC, fbFd, e30, solidH, len32, take32, kfind_h, csG_len, take32a, drop32a, drop33a, take33a, len33, solid33, all_csG, eS, eH, d1, d2, eD, eW, all_hsG, toNat0, setO_3, setO_4, setO_5, setO_6, setO_7, setO_8, true_imp_iff, Nat.sub_zero, List.drop_zero, hsG_len, List.length_append, List.length_cons, List.length_nil, List.length_singleton]
  refine ⟨by omega, by omega, by omega, by omega, by omega, by omega, fun u => ⟨by omega, by omega, by omega, by omega, by omega, ?_⟩⟩
  refine (GCalls.tail cP (by rintro g O' ⟨_, _, rfl, rfl⟩; split <;> exact ⟨rfl, by simp⟩) rfl (by simp) [.row u 32 [bytesG p.1]]).mono ?_
  rintro g O' ⟨_, ⟨sv', Z', rfl, rfl⟩, rfl⟩
  simp +contextual -implicitDefEqProofs (maxSteps := 2000000) (disch := omega) only [drawC, drawK, keepT, ↓lenV, binV, optV, ↓loadV, ↓storeV, ↓fieldAddrV, ↓indexAddrV, ↓allocV, ↓buildSliceV, ↓sliceV, ↓nilV, ↓appendV, ↓srcV, bound, cutTag, hiTag, fillE, GVal.cells, grp, GVal.ofConst, ↓resV, resG, List.map, List.headD, List.take, List.drop, ↓reduceIte, Nat.reduceEqDiff, Nat.reduceAdd, Nat.reduceSub, Nat.reduceLeDiff, reduceCtorEq, implies_true, ne_eq, ↓asrcV, Tag.cap, List.replicate, allSolid, GVal.solid, Nat.reduceBEq, Nat.reduceMul, Nat.reduceLT, List.length_map, List.length_range, splice, vcA, ↓vcB, vcC, fbFd, e30]
  exact ⟨_, _, _, rfl, leA_refl _, sv', Z', rfl, rfl⟩
theorem gStep0Y (y1 y2 : GObj) (m : GM) (st s sq sw sv so n : Nat) (dg : GVal) (K Z : List Cm) (x : Hs) (S out : List Hs) (hK : K.length ≤ 999999) (ho : out.length ≤ 1000000) (hn : n = K.length) :
    GCalls Try.prog 30 [.ptr 5 sw 0 0] (wObjY y1 y2 st s m sq sw sv so (n + 1) dg (K ++ [(x, [])]) Z S out) (fun g O' => ∃ so', g = .tuple [] ∧ O' = wObjY y1 y2 st s m sq sw sv so' n dg K ((x, []) :: Z) S (out ++ [x])) := by
  subst hn
  have eS : (csG (K ++ [(x, [])] ++ Z)).getD K.length [] = bytesG x.1 ++ [.slice (hsG []) .none] := by
    rw [csG_at _ _ (by simp)]
    simp [List.getD, comG]
  have d1 : ((K.length : Int) + 1 - 1).toNat = K.length := by omega
  refine h30.calls mixS (by simp) ?_
  simp only [gstart, s30, List.cons_append, List.nil_append, List.length_cons, List.length_nil, Nat.reduceAdd, Nat.reduceSub, List.replicate_succ, List.replicate_zero]
  simp +contextual -implicitDefEqProofs (maxSteps := 2000000) (disch := omega) only [drawC, drawK, keepT, ↓lenV, binV, optV, ↓loadV, ↓storeV, ↓fieldAddrV, ↓indexAddrV, ↓allocV, ↓buildSliceV, ↓sliceV, ↓nilV, ↓appendV, ↓srcV, bound, cutTag, hiTag, fillE, GVal.cells, grp, GVal.ofConst, ↓resV, resG, List.map, List.headD, List.take, List.drop, ↓reduceIte, Nat.reduceEqDiff, Nat.reduceAdd, Nat.reduceSub, Nat.reduceLeDiff, reduceCtorEq, implies_true, ne_eq, ↓asrcV, Tag.cap, List.replicate, allSolid, GVal.solid, Nat.reduceBEq, Nat.reduceMul, Nat.reduceLT, List.length_map, List.length_range, splice, vcA, ↓vcB, vcC, fbFd, e30, solidH, len32, take32, kfind_h, csG_len, take32a, drop32a, drop33a, take33a, len33, solid33, all_csG, eS, d1, toNat0, setO_3, setO_4, setO_5, setO_6, setO_7, setO_8, Int.lt_irrefl, false_imp_iff, true_and, Nat.sub_zero, List.drop_zero, hsG_len, all_hsG, List.length_append, List.length_cons, List.length_nil, List.length_singleton]
  refine ⟨by omega, by omega, by omega, by omega, by omega, by omega, by omega, fun so' => ⟨by omega, by omega, by omega, so', ?_⟩⟩
  simp [hsG_app, hsG]
end Gv.Try
/- Contracts: order's Walk, where the function that tells who is done reads two objects more. -/
set_option linter.unusedVariables false
set_option linter.unusedSimpArgs false
set_option maxRecDepth 20000
set_option maxHeartbeats 4000000
namespace Gv.Try
open Go Gv Go.Proofs
theorem gWalkY (y1 y2 : GObj) (m : GM) (hm : GMOK m) (hs : List Hs) (th : Tag) (st s : Nat) (F : FuncId) (caps : List GVal) (dn : Hs → Bool) (hF : ∀ h : Hs, DoneY y1 y2 st s m F caps h (dn h)) (T : WSt) (hT : VisL m dn hs ([], []) T) (hl : hs.length ≤ 1000000) :
    GCalls Try.prog 13 [.ptr 0 st 0 0, .slice (hsG hs) th, (.func (.func F) [] caps)] (gObj st s m ++ [y1, y2]) (fun g O' => g = .slice (hsG T.2) .none ∧ O' = gObj st s m ++ [y1, y2]) := by
  have hml := hm.len
  have hd := hF
  refine GCalls.dropTo ?_
  refine h13.calls mixS (by simp) ?_
  simp only [gstart, s13, List.cons_append, List.nil_append, List.length_cons, List.length_nil, Nat.reduceAdd, Nat.reduceSub, List.replicate_succ, List.replicate_zero]
  simp +contextual -implicitDefEqProofs (maxSteps := 2000000) (disch := omega) only [↓lenV, binV, optV, ↓loadV, ↓storeV, ↓fieldAddrV, ↓indexAddrV, ↓allocV, ↓boxV, ↓buildV, ↓sliceV, ↓nilV, bound, cutTag, hiTag, fillG, place, GVal.cells, grp, GVal.ofConst, ↓resV, resG, List.map, List.headD, List.take, List.drop, ↓reduceIte, Nat.reduceEqDiff, Nat.reduceAdd, Nat.reduceSub, Nat.reduceLeDiff, reduceCtorEq, implies_true, ne_eq, ↓makeMapV, aggV, Tag.cap, List.replicate, allSolid, GVal.solid, Nat.reduceBEq, Nat.reduceMul, Nat.reduceLT, List.length_map, List.length_range, splice, vcA, ↓vcB, vcC, fbFd, e13, hsG_len]
  refine fun sq => ⟨⟨rfl, rfl, rfl⟩, fun sw => ?_⟩
  refine vcSLoop_by (ι := { p : ((Nat × List Cm) × (List Hs × List Hs)) × (Nat × Nat) // p.1.1.1 ≤ hs.length ∧ VisL m dn (hs.drop p.1.1.1) p.1.2 T ∧ SInv m p.1.2.1 p.1.2.2 0 }) (fun p => ⟨[.ptr 0 st 0 0, .slice (hsG hs) th, (.func (.func F) [] caps)] ++ List.replicate 4 .any ++ [.ptr 5 sw 0 0] ++ List.replicate 9 .any ++ [.slice (hsG hs) th, .int .i64 hs.length, .int .i64 (p.1.1.1.1 : Nat)] ++ List.replicate 19 .any, wObjY y1 y2 st s m sq sw p.1.2.1 p.1.2.2 0 (.func (.func F) [] caps) [] p.1.1.1.2 p.1.1.2.1 p.1.1.2.2⟩) (fun p => hs.length - p.1.1.1.1) ?_ ?_
  · refine Into.cellRow 5 3 33 rfl rfl rfl rfl ?_
    simp +contextual -implicitDefEqProofs (maxSteps := 2000000) (disch := omega) only [↓lenV, binV, optV, ↓loadV, ↓storeV, ↓fieldAddrV, ↓indexAddrV, ↓allocV, ↓boxV, ↓buildV, ↓sliceV, ↓nilV, bound, cutTag, hiTag, fillG, place, GVal.cells, grp, GVal.ofConst, ↓resV, resG, List.map, List.headD, List.take, List.drop, ↓reduceIte, Nat.reduceEqDiff, Nat.reduceAdd, Nat.reduceSub, Nat.reduceLeDiff, reduceCtorEq, implies_true, ne_eq, ↓makeMapV, aggV, Tag.cap, List.replicate, allSolid, GVal.solid, Nat.reduceBEq, Nat.reduceMul, Nat.reduceLT, List.length_map, List.length_range, splice, vcA, ↓vcB, vcC, fbFd, e13]
    intro sv
    refine Into.cellTok 5 4 32 [] rfl rfl rfl rfl ?_
    simp +contextual -implicitDefEqProofs (maxSteps := 2000000) (disch := omega) only [↓lenV, binV, optV, ↓loadV, ↓storeV, ↓fieldAddrV, ↓indexAddrV, ↓allocV, ↓boxV, ↓buildV, ↓sliceV, ↓nilV, bound, cutTag, hiTag, fillG, place, GVal.cells, grp, GVal.ofConst, ↓resV, resG, List.map, List.headD, List.take, List.drop, ↓reduceIte, Nat.reduceEqDiff, Nat.reduceAdd, Nat.reduceSub, Nat.reduceLeDiff, reduceCtorEq, implies_true, ne_eq, ↓makeMapV, aggV, Tag.cap, List.replicate, allSolid, GVal.solid, Nat.reduceBEq, Nat.reduceMul, Nat.reduceLT, List.length_map, List.length_range, splice, vcA, ↓vcB, vcC, fbFd, e13]
    intro so
    exact Into.first ⟨(((0, []), ([], [])), (sv, so)), by show 0 ≤ _; omega, by simpa using hT, ⟨List.nodup_nil, by simp, by simp⟩⟩ ⟨[], rfl⟩ (by simp [WL, leG_self, leG_any, hsG_len])
  · rintro ⟨⟨⟨⟨k, Z⟩, ⟨S, out⟩⟩, ⟨sv, so⟩⟩, hk, hV, hI⟩
    change k ≤ hs.length at hk
    change VisL m dn (hs.drop k) (S, out) T at hV
    change SInv m S out 0 at hI
    have hSm := hI.le
    have hOl := hI.len
    by_cases h : k < hs.length
    · have d0 : ((k : Int) < (hs.length : Int)) = True := eq_true (by omega)
      have eS := hsG_at hs k h
      rw [dropH h] at hV
      generalize hs.getD k h0 = x at *
      have cP := gPushY y1 y2 m hm x st s sq sw sv so 0 F caps dn hd [] Z S out (by simp) rfl
      simp +contextual -implicitDefEqProofs (maxSteps := 2000000) (disch := omega) only [↓lenV, binV, optV, ↓loadV, ↓storeV, ↓fieldAddrV, ↓indexAddrV, ↓allocV, ↓boxV, ↓buildV, ↓sliceV, ↓nilV, bound, cutTag, hiTag, fillG, place, GVal.cells, grp, GVal.ofConst, ↓resV, resG, List.map, List.headD, List.take, List.drop, ↓reduceIte, Nat.reduceEqDiff, Nat.reduceAdd, Nat.reduceSub, Nat.reduceLeDiff, reduceCtorEq, implies_true, ne_eq, ↓makeMapV, aggV, Tag.cap, List.replicate, allSolid, GVal.solid, Nat.reduceBEq, Nat.reduceMul, Nat.reduceLT, List.length_map, List.length_range, splice, vcA, ↓vcB, vcC, fbFd, e13, solidH, len32, take32, setO_3, setO_4, setO_5, setO_6, setO_7, setO_8, hsG_len, d0, eS]
      refine ⟨by omega, fun u => ?_⟩
      refine (GCalls.tail cP (by rintro g O' ⟨_, _, rfl, rfl⟩; split <;> exact ⟨rfl, by simp⟩) rfl (by simp) [.row u 32 [bytesG x.1]]).mono ?_
      rintro g O' ⟨_, ⟨sv2, Z2, rfl, rfl⟩, rfl⟩
      have hT1 : ∃ T1, VisL m dn (hs.drop (k + 1)) T1 T ∧ (if pushed m dn S x = true then FinS m dn [(x, parsM m x)] (S ++ [x], out) T1 else T1 = (S, out)) := by
        cases hp : pushed m dn S x with
        | false => exact ⟨_, hV.inv_skip hp, by rw [if_neg (by simp)]⟩
        | true =>
          obtain ⟨so1, hV1, hV2⟩ := hV.inv_go hp
          exact ⟨_, hV2, by rw [if_pos rfl]; exact ⟨so1, hV1, rfl⟩⟩
      obtain ⟨T1, hV2, hF⟩ := hT1
      simp +contextual -implicitDefEqProofs (maxSteps := 2000000) (disch := omega) only [↓lenV, binV, optV, ↓loadV, ↓storeV, ↓fieldAddrV, ↓indexAddrV, ↓allocV, ↓boxV, ↓buildV, ↓sliceV, ↓nilV, bound, cutTag, hiTag, fillG, place, GVal.cells, grp, GVal.ofConst, ↓resV, resG, List.map, List.headD, List.take, List.drop, ↓reduceIte, Nat.reduceEqDiff, Nat.reduceAdd, Nat.reduceSub, Nat.reduceLeDiff, reduceCtorEq, implies_true, ne_eq, ↓makeMapV, aggV, Tag.cap, List.replicate, allSolid, GVal.solid, Nat.reduceBEq, Nat.reduceMul, Nat.reduceLT, List.length_map, List.length_range, splice, vcA, ↓vcB, vcC, fbFd, e13, solidH, len32, take32, setO_3, setO_4, setO_5, setO_6, setO_7, setO_8]
      refine vcSLoop_by (ι := { p : ((List Cm × List Cm) × (List Hs × List Hs)) × (Nat × Nat) // FinS m dn p.1.1.1.reverse p.1.2 T1 ∧ SInv m p.1.2.1 p.1.2.2 p.1.1.1.length }) (fun p => ⟨[.ptr 0 st 0 0, .slice (hsG hs) th, (.func (.func F) [] caps)] ++ List.replicate 4 .any ++ [.ptr 5 sw 0 0] ++ List.replicate 9 .any ++ [.slice (hsG hs) th, .int .i64 hs.length, .int .i64 (k : Nat)] ++ List.replicate 19 .any, wObjY y1 y2 st s m sq sw p.1.2.1 p.1.2.2 p.1.1.1.1.length (.func (.func F) [] caps) p.1.1.1.1 p.1.1.1.2 p.1.1.2.1 p.1.1.2.2⟩) (fun p => wMu m p.1.1.2.1 p.1.1.1.1) ?_ ?_
      · cases hp : pushed m dn S x with
        | false =>
          rw [hp, if_neg (by simp)] at hF
          exact Into.first ⟨((([], Z2), (S, out)), (sv2, so)), hF, hI⟩ ⟨[.row u 32 [bytesG x.1]], by rw [if_neg (by simp)]; rfl⟩ (by simp [WL, leG_self, leG_any])
        | true =>
          rw [hp, if_pos rfl] at hF
          exact Into.first ⟨((([(x, parsM m x)], Z2), (S ++ [x], out)), (sv2, so)), hF, hI.push hp⟩ ⟨[.row u 32 [bytesG x.1]], by rw [if_pos rfl]; rfl⟩ (by simp [WL, leG_self, leG_any])
      · rintro ⟨⟨⟨⟨K, Z3⟩, ⟨S3, out3⟩⟩, ⟨sv3, so3⟩⟩, hF3, hI3⟩
        change FinS m dn K.reverse (S3, out3) T1 at hF3
        change SInv m S3 out3 K.length at hI3
        have hS3 := hI3.le
        have hO3 := hI3.len
        rcases List.eq_nil_or_concat K with rfl | ⟨K0, y, e⟩
        · simp +contextual -implicitDefEqProofs (maxSteps := 2000000) (disch := omega) only [↓lenV, binV, optV, ↓loadV, ↓storeV, ↓fieldAddrV, ↓indexAddrV, ↓allocV, ↓boxV, ↓buildV, ↓sliceV, ↓nilV, bound, cutTag, hiTag, fillG, place, GVal.cells, grp, GVal.ofConst, ↓resV, resG, List.map, List.headD, List.take, List.drop, ↓reduceIte, Nat.reduceEqDiff, Nat.reduceAdd, Nat.reduceSub, Nat.reduceLeDiff, reduceCtorEq, implies_true, ne_eq, ↓makeMapV, aggV, Tag.cap, List.replicate, allSolid, GVal.solid, Nat.reduceBEq, Nat.reduceMul, Nat.reduceLT, List.length_map, List.length_range, splice, vcA, ↓vcB, vcC, fbFd, e13, solidH, len32, take32, setO_3, setO_4, setO_5, setO_6, setO_7, setO_8, Int.lt_irrefl, List.length_nil, Int.natCast_zero]
          rw [List.reverse_nil] at hF3
          rw [FinS] at hF3
          rw [hF3] at hV2
          exact Into.at ⟨(((k + 1, Z3), (S3, out3)), (sv3, so3)), by show k + 1 ≤ _; omega, hV2, hI3⟩ (by show _ < _; simp; omega) ⟨[], rfl⟩ (by simp [WL, leG_self, leG_any, leG_int])
        · rw [List.concat_eq_append] at e
          subst e
          obtain ⟨y, ps⟩ := y
          rw [List.reverse_append, List.reverse_singleton, List.singleton_append] at hF3
          obtain ⟨so1, hVp, hF4⟩ := hF3
          have dK : ((0 : Int) < (K0.length : Int) + 1) = True := eq_true (by omega)
          have hKl : K0.length + 1 ≤ 10000 := by rw [List.length_append, List.length_singleton] at hO3; omega
          cases ps with
          | nil =>
            have e1 := hVp.inv_nil
            subst e1
            have cS := gStep0Y y1 y2 m st s sq sw sv3 so3 K0.length (.func (.func F) [] caps) K0 Z3 y S3 out3 (by omega) (by omega) rfl
            simp +contextual -implicitDefEqProofs (maxSteps := 2000000) (disch := omega) only [↓lenV, binV, optV, ↓loadV, ↓storeV, ↓fieldAddrV, ↓indexAddrV, ↓allocV, ↓boxV, ↓buildV, ↓sliceV, ↓nilV, bound, cutTag, hiTag, fillG, place, GVal.cells, grp, GVal.ofConst, ↓resV, resG, List.map, List.headD, List.take, List.drop, ↓reduceIte, Nat.reduceEqDiff, Nat.reduceAdd, Nat.reduceSub, Nat.reduceLeDiff, reduceCtorEq, implies_true, ne_eq, ↓makeMapV, aggV, Tag.cap, List.replicate, allSolid, GVal.solid, Nat.reduceBEq, Nat.reduceMul, Nat.reduceLT, List.length_map, List.length_range, splice, vcA, ↓vcB, vcC, fbFd, e13, solidH, len32, take32, setO_3, setO_4, setO_5, setO_6, setO_7, setO_8, dK, List.length_append, List.length_cons, List.length_nil, List.length_singleton]
            refine cS.mono ?_
            rintro g O' ⟨so4, rfl, rfl⟩
            simp +contextual -implicitDefEqProofs (maxSteps := 2000000) (disch := omega) only [↓lenV, binV, optV, ↓loadV, ↓storeV, ↓fieldAddrV, ↓indexAddrV, ↓allocV, ↓boxV, ↓buildV, ↓sliceV, ↓nilV, bound, cutTag, hiTag, fillG, place, GVal.cells, grp, GVal.ofConst, ↓resV, resG, List.map, List.headD, List.take, List.drop, ↓reduceIte, Nat.reduceEqDiff, Nat.reduceAdd, Nat.reduceSub, Nat.reduceLeDiff, reduceCtorEq, implies_true, ne_eq, ↓makeMapV, aggV, Tag.cap, List.replicate, allSolid, GVal.solid, Nat.reduceBEq, Nat.reduceMul, Nat.reduceLT, List.length_map, List.length_range, splice, vcA, ↓vcB, vcC, fbFd, e13, solidH, len32, take32, setO_3, setO_4, setO_5, setO_6, setO_7, setO_8]
            refine Into.at ⟨(((K0, (y, []) :: Z3), (S3, out3 ++ [y])), (sv3, so4)), hF4, ⟨hI3.nodup, hI3.keys, ?_⟩⟩ ?_ ⟨[], rfl⟩ (by simp [WL, leG_self, leG_any, leG_int])
            · show (out3 ++ [y]).length + K0.length ≤ S3.length
              rw [List.length_append, List.length_singleton] at hO3 ⊢; omega
            · show wMu m S3 K0 < wMu m S3 (K0 ++ [(y, [])])
              simp [wMu]
          | cons p r =>
            have cS := gStep1Y y1 y2 m hm st s sq sw sv3 so3 K0.length F caps dn hd K0 Z3 y p r S3 out3 (by omega) rfl
            have hpl := hm.pars p
            simp +contextual -implicitDefEqProofs (maxSteps := 2000000) (disch := omega) only [↓lenV, binV, optV, ↓loadV, ↓storeV, ↓fieldAddrV, ↓indexAddrV, ↓allocV, ↓boxV, ↓buildV, ↓sliceV, ↓nilV, bound, cutTag, hiTag, fillG, place, GVal.cells, grp, GVal.ofConst, ↓resV, resG, List.map, List.headD, List.take, List.drop, ↓reduceIte, Nat.reduceEqDiff, Nat.reduceAdd, Nat.reduceSub, Nat.reduceLeDiff, reduceCtorEq, implies_true, ne_eq, ↓makeMapV, aggV, Tag.cap, List.replicate, allSolid, GVal.solid, Nat.reduceBEq, Nat.reduceMul, Nat.reduceLT, List.length_map, List.length_range, splice, vcA, ↓vcB, vcC, fbFd, e13, solidH, len32, take32, setO_3, setO_4, setO_5, setO_6, setO_7, setO_8, dK, List.length_append, List.length_cons, List.length_nil, List.length_singleton]
            refine cS.mono ?_
            rintro g O' ⟨sv4, Z4, rfl, rfl⟩
            cases hp : pushed m dn S3 p with
            | false =>
              have hVr := hVp.inv_skip hp
              simp +contextual -implicitDefEqProofs (maxSteps := 2000000) (disch := omega) only [↓lenV, binV, optV, ↓loadV, ↓storeV, ↓fieldAddrV, ↓indexAddrV, ↓allocV, ↓boxV, ↓buildV, ↓sliceV, ↓nilV, bound, cutTag, hiTag, fillG, place, GVal.cells, grp, GVal.ofConst, ↓resV, resG, List.map, List.headD, List.take, List.drop, ↓reduceIte, Nat.reduceEqDiff, Nat.reduceAdd, Nat.reduceSub, Nat.reduceLeDiff, reduceCtorEq, implies_true, ne_eq, ↓makeMapV, aggV, Tag.cap, List.replicate, allSolid, GVal.solid, Nat.reduceBEq, Nat.reduceMul, Nat.reduceLT, List.length_map, List.length_range, splice, vcA, ↓vcB, vcC, fbFd, e13, solidH, len32, take32, setO_3, setO_4, setO_5, setO_6, setO_7, setO_8, Bool.false_eq_true, if_false]
              refine Into.at ⟨(((K0 ++ [(y, r)], Z4), (S3, out3)), (sv4, so3)), ?_, ⟨hI3.nodup, hI3.keys, ?_⟩⟩ ?_ ⟨[], by simp⟩ (by simp [WL, leG_self, leG_any, leG_int])
              · show FinS m dn (K0 ++ [(y, r)]).reverse (S3, out3) T1
                rw [List.reverse_append, List.reverse_singleton, List.singleton_append]
                exact ⟨so1, hVr, hF4⟩
              · show out3.length + (K0 ++ [(y, r)]).length ≤ S3.length
                rw [List.length_append, List.length_singleton] at hO3 ⊢; exact hO3
              · show wMu m S3 (K0 ++ [(y, r)]) < wMu m S3 (K0 ++ [(y, p :: r)])
                simp [wMu]
            | true =>
              obtain ⟨so2, hVq, hVr⟩ := hVp.inv_go hp
              have hIp := hI3.push hp
              have hIl := hIp.le
              simp +contextual -implicitDefEqProofs (maxSteps := 2000000) (disch := omega) only [↓lenV, binV, optV, ↓loadV, ↓storeV, ↓fieldAddrV, ↓indexAddrV, ↓allocV, ↓boxV, ↓buildV, ↓sliceV, ↓nilV, bound, cutTag, hiTag, fillG, place, GVal.cells, grp, GVal.ofConst, ↓resV, resG, List.map, List.headD, List.take, List.drop, ↓reduceIte, Nat.reduceEqDiff, Nat.reduceAdd, Nat.reduceSub, Nat.reduceLeDiff, reduceCtorEq, implies_true, ne_eq, ↓makeMapV, aggV, Tag.cap, List.replicate, allSolid, GVal.solid, Nat.reduceBEq, Nat.reduceMul, Nat.reduceLT, List.length_map, List.length_range, splice, vcA, ↓vcB, vcC, fbFd, e13, solidH, len32, take32, setO_3, setO_4, setO_5, setO_6, setO_7, setO_8, if_true]
              refine Into.at ⟨(((K0 ++ [(y, r)] ++ [(p, parsM m p)], Z4), (S3 ++ [p], out3)), (sv4, so3)), ?_, ⟨hIp.nodup, hIp.keys, ?_⟩⟩ ?_ ⟨[], by simp⟩ (by simp [WL, leG_self, leG_any, leG_int])
              · show FinS m dn (K0 ++ [(y, r)] ++ [(p, parsM m p)]).reverse (S3 ++ [p], out3) T1
                rw [List.reverse_append, List.reverse_singleton, List.singleton_append, List.reverse_append, List.reverse_singleton, List.singleton_append]
                exact ⟨so2, hVq, so1, hVr, hF4⟩
              · have := hIp.len
                show out3.length + (K0 ++ [(y, r)] ++ [(p, parsM m p)]).length ≤ (S3 ++ [p]).length
                rw [List.length_append, List.length_singleton] at this ⊢
                rw [List.length_append, List.length_singleton] at this ⊢
                rw [List.length_append, List.length_singleton]
                omega
              · show wMu m (S3 ++ [p]) (K0 ++ [(y, r)] ++ [(p, parsM m p)]) < wMu m S3 (K0 ++ [(y, p :: r)])
                rw [List.length_append, List.length_singleton] at hIl
                simp [wMu]
                omega
    · have d0 : ((k : Int) < (hs.length : Int)) = False := eq_false (by omega)
      rw [List.drop_of_length_le (by omega)] at hV
      have eT := hV.inv_nil
      subst eT
      simp +contextual -implicitDefEqProofs (maxSteps := 2000000) (disch := omega) only [↓lenV, binV, optV, ↓loadV, ↓storeV, ↓fieldAddrV, ↓indexAddrV, ↓allocV, ↓boxV, ↓buildV, ↓sliceV, ↓nilV, bound, cutTag, hiTag, fillG, place, GVal.cells, grp, GVal.ofConst, ↓resV, resG, List.map, List.headD, List.take, List.drop, ↓reduceIte, Nat.reduceEqDiff, Nat.reduceAdd, Nat.reduceSub, Nat.reduceLeDiff, reduceCtorEq, implies_true, ne_eq, ↓makeMapV, aggV, Tag.cap, List.replicate, allSolid, GVal.solid, Nat.reduceBEq, Nat.reduceMul, Nat.reduceLT, List.length_map, List.length_range, splice, vcA, ↓vcB, vcC, fbFd, e13, solidH, len32, take32, setO_3, setO_4, setO_5, setO_6, setO_7, setO_8, d0]
      exact ⟨.slice (hsG out) .none, gObj st s m ++ [y1, y2], _, rfl, by rw [leA_slice], rfl, rfl⟩
end Gv.Try
/- OrderParts gives true. -/
set_option linter.unusedVariables false
set_option linter.unusedSimpArgs false
set_option maxRecDepth 20000
set_option maxHeartbeats 8000000
namespace Gv.Try
open Go Gv Go.Proofs
theorem gParts1 (m : GM) (st s sa : Nat) (y : GObj) (a : List Hs) (hl : a.length ≤ 1000000) (h : Hs) : DoneY (.row sa 1 [[.slice (hsG a) .none]]) y st s m 27 [.ptr 2 sa 0 0] h (decide (h ∈ a)) := fun X => by
  have cI := hIn a .none h (by omega)
  refine h27.calls mixS (by simp) ?_
  simp only [gstart, s27, List.cons_append, List.nil_append, List.length_cons, List.length_nil, Nat.reduceAdd, Nat.reduceSub, List.replicate_succ, List.replicate_zero]
  simp +contextual -implicitDefEqProofs (maxSteps := 2000000) (disch := omega) only [↓loadV, ↓boxV, GVal.cells, grp, GVal.ofConst, ↓resV, resG, List.map, List.headD, List.take, List.drop, ↓reduceIte, Nat.reduceEqDiff, Nat.reduceAdd, Nat.reduceSub, Nat.reduceLeDiff, reduceCtorEq, implies_true, ne_eq, Tag.cap, List.replicate, allSolid, GVal.solid, Nat.reduceBEq, Nat.reduceMul, Nat.reduceLT, List.length_map, List.length_range, splice, vcA, ↓vcB, vcC, fbFd, e27, len32, take32, solidH]
  refine cI.then ?_ (by rfl)
  simp +contextual -implicitDefEqProofs (maxSteps := 2000000) (disch := omega) only [↓loadV, ↓boxV, GVal.cells, grp, GVal.ofConst, ↓resV, resG, List.map, List.headD, List.take, List.drop, ↓reduceIte, Nat.reduceEqDiff, Nat.reduceAdd, Nat.reduceSub, Nat.reduceLeDiff, reduceCtorEq, implies_true, ne_eq, Tag.cap, List.replicate, allSolid, GVal.solid, Nat.reduceBEq, Nat.reduceMul, Nat.reduceLT, List.length_map, List.length_range, splice, vcA, ↓vcB, vcC, fbFd, e27]
theorem GCalls.perm2 {P : Program} {f : FuncId} {args args' : List GVal} {a b c d : GObj} {r : GVal} (h : GCalls P f args [a, b, d, c] (fun g O' => g = r ∧ O' = [a, b, d, c])) (ha : a.isClock = false) (hg : GLes args' args) : GCalls P f args' [a, b, c, d] (fun g O' => g = r ∧ O' = [a, b, c, d]) := by
  have hcl : ∀ Y, clockOf (a :: Y) = none := fun Y => by cases a <;> first | rfl | cases ha
  refine GCalls.frame h [0, 1, 3, 2] ⟨⟨a, rfl, .refl _⟩, ⟨b, rfl, .refl _⟩, ⟨d, rfl, .refl _⟩, ⟨c, rfl, .refl _⟩, trivial⟩ (by decide) hg (hcl _) (hcl _) ?_
  rintro g O' ⟨rfl, rfl⟩
  exact ⟨g, [a, b, c, d], [(false, 0), (false, 1), (false, 3), (false, 2)], ⟨rfl, rfl⟩, GLe.refl g, ⟨⟨_, rfl, .refl _⟩, ⟨_, rfl, .refl _⟩, ⟨_, rfl, .refl _⟩, ⟨_, rfl, .refl _⟩, trivial⟩, by decide, hcl _⟩
theorem specParts (l : List RR) (hs : List Int) (t : Tag) (cut : Int) : GPure Try.prog 7 [.slice (rrsG l) .none, .slice (ints hs) t, .int .i64 cut] (.bool true) := by
  have cH := gHashes hs 8 t (by omega)
  obtain ⟨H, hH⟩ : ∃ H, hashN hs (min hs.length 8) = H := ⟨_, rfl⟩
  have lH : H.length ≤ 8 := by rw [← hH, hashN_len]; omega
  rw [hH] at cH
  have c1 := Int.emod_nonneg cut (show ((H.length : Int) + 1) ≠ 0 by omega)
  have c2 := Int.emod_lt_of_pos cut (show (0 : Int) < (H.length : Int) + 1 by omega)
  have cPk := sPick cut ((H.length : Int) + 1) (by omega) (by omega)
  obtain ⟨c, hc⟩ : ∃ c : Nat, cut % ((H.length : Int) + 1) = (c : Int) := ⟨(cut % ((H.length : Int) + 1)).toNat, by omega⟩
  rw [hc] at cPk c1 c2
  have hcl : c ≤ H.length := by omega
  refine GCalls.toPure ?_
  refine h7.calls mixS (by simp) ?_
  simp only [gstart, s7, List.cons_append, List.nil_append, List.length_cons, List.length_nil, Nat.reduceAdd, Nat.reduceSub, List.replicate_succ, List.replicate_zero]
  simp +contextual -implicitDefEqProofs (maxSteps := 2000000) (disch := omega) only [↓lenV, binV, ↓unV, optV, ↓loadV, ↓storeV, ↓allocV, ↓buildSliceV, ↓sliceV, ↓appendV, ↓srcV, bound, cutTag, hiTag, fillE, GVal.cells, grp, GVal.ofConst, ↓resV, resG, List.map, List.headD, List.take, List.drop, ↓reduceIte, Nat.reduceEqDiff, Nat.reduceAdd, Nat.reduceSub, Nat.reduceLeDiff, reduceCtorEq, implies_true, ne_eq, ↓asrcV, aggV, Tag.cap, List.replicate, allSolid, GVal.solid, Nat.reduceBEq, Nat.reduceMul, Nat.reduceLT, List.length_map, List.length_range, splice, vcA, ↓vcB, vcC, fbFd, e7]
  refine (gBoth l).mono ?_
  rintro g O' ⟨st, s, rt, m, L, ⟨hm, hL, hA⟩, rfl, rfl⟩
  simp +contextual -implicitDefEqProofs (maxSteps := 2000000) (disch := omega) only [↓lenV, binV, ↓unV, optV, ↓loadV, ↓storeV, ↓allocV, ↓buildSliceV, ↓sliceV, ↓appendV, ↓srcV, bound, cutTag, hiTag, fillE, GVal.cells, grp, GVal.ofConst, ↓resV, resG, List.map, List.headD, List.take, List.drop, ↓reduceIte, Nat.reduceEqDiff, Nat.reduceAdd, Nat.reduceSub, Nat.reduceLeDiff, reduceCtorEq, implies_true, ne_eq, ↓asrcV, aggV, Tag.cap, List.replicate, allSolid, GVal.solid, Nat.reduceBEq, Nat.reduceMul, Nat.reduceLT, List.length_map, List.length_range, splice, vcA, ↓vcB, vcC, fbFd, e7]
  refine gKnown.then ?_ (by rfl)
  simp +contextual -implicitDefEqProofs (maxSteps := 2000000) (disch := omega) only [↓lenV, binV, ↓unV, optV, ↓loadV, ↓storeV, ↓allocV, ↓buildSliceV, ↓sliceV, ↓appendV, ↓srcV, bound, cutTag, hiTag, fillE, GVal.cells, grp, GVal.ofConst, ↓resV, resG, List.map, List.headD, List.take, List.drop, ↓reduceIte, Nat.reduceEqDiff, Nat.reduceAdd, Nat.reduceSub, Nat.reduceLeDiff, reduceCtorEq, implies_true, ne_eq, ↓asrcV, aggV, Tag.cap, List.replicate, allSolid, GVal.solid, Nat.reduceBEq, Nat.reduceMul, Nat.reduceLT, List.length_map, List.length_range, splice, vcA, ↓vcB, vcC, fbFd, e7]
  refine cH.then ?_ (by rfl)
  obtain ⟨T, hT⟩ := walk_ex m (fun _ => false) H
  obtain ⟨T1, T2, hT1, hT2, hTT⟩ := walk_parts (h1 := H.take c) (h2 := H.drop c) hm (by rw [List.take_append_drop]; exact hT)
  have lT := walk_len hm hT
  have lT1 := walk_len hm hT1
  have lT2 := walk_len hm hT2
  have ltk : (H.take c).length ≤ 8 := by rw [List.length_take]; omega
  have ldp : (H.drop c).length ≤ 8 := by rw [List.length_drop]; omega
  have cW1 := GCalls.keep2 (gWalkN m hm.gm (H.take c) .none st s T1 hT1 (by omega)) rfl (rObj rt L)
  have cW := fun X => GCalls.keep2 (gWalkN m hm.gm H .none st s T hT (by omega)) rfl X
  have cW2 := fun sa => GCalls.perm2 (gWalkY (.row sa 1 [[.slice (hsG T1.2) .none]]) (.row rt 1 [[.slice (csG L) .none]]) m hm.gm (H.drop c) .none st s 27 [.ptr 2 sa 0 0] _ (fun h => gParts1 m st s sa _ T1.2 (by omega) h) T2 hT2 (by omega)) rfl (args' := [.ptr 0 st 0 0, .slice (hsG (H.drop c)) .none, .func (.func 27) [] [.ptr 3 sa 0 0]]) ⟨GLe.refl _, GLe.refl _, GLe.func _ trivial ⟨GLe.ptr _ _ _ _ _, trivial⟩, trivial⟩
  have cR := fun X => GCalls.keep2 (gRising m hm.gm st s T1.2 .none (by omega)) rfl X
  have wR := walk_rising hm hT1
  rw [wR] at cR
  clear wR hT hT1 hT2
  obtain ⟨a, ha⟩ : ∃ a, T1.2 = a := ⟨_, rfl⟩
  obtain ⟨b, hb⟩ : ∃ a, T2.2 = a := ⟨_, rfl⟩
  rw [ha] at cW1 cW2 cR hTT lT1
  rw [hb] at cW2 hTT lT2
  rw [hTT] at cW
  have cE := fun ta tb => hSame (a ++ b) (a ++ b) ta tb (by rw [List.length_append]; omega)
  simp only [decide_true] at cE
  have cE2 : ∀ ta tb, GPure Try.prog 12 [.slice (hsG a ++ hsG b) ta, .slice (hsG (a ++ b)) tb] (.bool true) := fun ta tb => by rw [← hsG_app]; exact cE ta tb
  have tn : (c : Int).toNat = c := by omega
  have eD : List.drop c (List.take H.length (hsG H)) = hsG (H.drop c) := by rw [takeAll, drop_hs]
  simp +contextual -implicitDefEqProofs (maxSteps := 2000000) (disch := omega) only [↓lenV, binV, ↓unV, optV, ↓loadV, ↓storeV, ↓allocV, ↓buildSliceV, ↓sliceV, ↓appendV, ↓srcV, bound, cutTag, hiTag, fillE, GVal.cells, grp, GVal.ofConst, ↓resV, resG, List.map, List.headD, List.take, List.drop, ↓reduceIte, Nat.reduceEqDiff, Nat.reduceAdd, Nat.reduceSub, Nat.reduceLeDiff, reduceCtorEq, implies_true, ne_eq, ↓asrcV, aggV, Tag.cap, List.replicate, allSolid, GVal.solid, Nat.reduceBEq, Nat.reduceMul, Nat.reduceLT, List.length_map, List.length_range, splice, vcA, ↓vcB, vcC, fbFd, e7, hsG_len]
  refine cPk.then ?_ (by rfl)
  simp +contextual -implicitDefEqProofs (maxSteps := 2000000) (disch := omega) only [↓lenV, binV, ↓unV, optV, ↓loadV, ↓storeV, ↓allocV, ↓buildSliceV, ↓sliceV, ↓appendV, ↓srcV, bound, cutTag, hiTag, fillE, GVal.cells, grp, GVal.ofConst, ↓resV, resG, List.map, List.headD, List.take, List.drop, ↓reduceIte, Nat.reduceEqDiff, Nat.reduceAdd, Nat.reduceSub, Nat.reduceLeDiff, reduceCtorEq, implies_true, ne_eq, ↓asrcV, aggV, Tag.cap, List.replicate, allSolid, GVal.solid, Nat.reduceBEq, Nat.reduceMul, Nat.reduceLT, List.length_map, List.length_range, splice, vcA, ↓vcB, vcC, fbFd, e7, hsG_len, all_hsG, tn, take_hs, toNat0, List.drop_zero]
  refine ⟨by omega, by omega, by omega, cW1.mono ?_⟩
  rintro g O' ⟨rfl, rfl⟩
  simp +contextual -implicitDefEqProofs (maxSteps := 2000000) (disch := omega) only [↓lenV, binV, ↓unV, optV, ↓loadV, ↓storeV, ↓allocV, ↓buildSliceV, ↓sliceV, ↓appendV, ↓srcV, bound, cutTag, hiTag, fillE, GVal.cells, grp, GVal.ofConst, ↓resV, resG, List.map, List.headD, List.take, List.drop, ↓reduceIte, Nat.reduceEqDiff, Nat.reduceAdd, Nat.reduceSub, Nat.reduceLeDiff, reduceCtorEq, implies_true, ne_eq, ↓asrcV, aggV, Tag.cap, List.replicate, allSolid, GVal.solid, Nat.reduceBEq, Nat.reduceMul, Nat.reduceLT, List.length_map, List.length_range, splice, vcA, ↓vcB, vcC, fbFd, e7]
  intro sa
  simp +contextual -implicitDefEqProofs (maxSteps := 2000000) (disch := omega) only [↓lenV, binV, ↓unV, optV, ↓loadV, ↓storeV, ↓allocV, ↓buildSliceV, ↓sliceV, ↓appendV, ↓srcV, bound, cutTag, hiTag, fillE, GVal.cells, grp, GVal.ofConst, ↓resV, resG, List.map, List.headD, List.take, List.drop, ↓reduceIte, Nat.reduceEqDiff, Nat.reduceAdd, Nat.reduceSub, Nat.reduceLeDiff, reduceCtorEq, implies_true, ne_eq, ↓asrcV, aggV, Tag.cap, List.replicate, allSolid, GVal.solid, Nat.reduceBEq, Nat.reduceMul, Nat.reduceLT, List.length_map, List.length_range, splice, vcA, ↓vcB, vcC, fbFd, e7, hsG_len, all_hsG, tn, eD]
  refine ⟨by omega, by omega, by omega, (cW2 sa).mono ?_⟩
  rintro g O' ⟨rfl, rfl⟩
  simp +contextual -implicitDefEqProofs (maxSteps := 2000000) (disch := omega) only [↓lenV, binV, ↓unV, optV, ↓loadV, ↓storeV, ↓allocV, ↓buildSliceV, ↓sliceV, ↓appendV, ↓srcV, bound, cutTag, hiTag, fillE, GVal.cells, grp, GVal.ofConst, ↓resV, resG, List.map, List.headD, List.take, List.drop, ↓reduceIte, Nat.reduceEqDiff, Nat.reduceAdd, Nat.reduceSub, Nat.reduceLeDiff, reduceCtorEq, implies_true, ne_eq, ↓asrcV, aggV, Tag.cap, List.replicate, allSolid, GVal.solid, Nat.reduceBEq, Nat.reduceMul, Nat.reduceLT, List.length_map, List.length_range, splice, vcA, ↓vcB, vcC, fbFd, e7, hsG_len, all_hsG]
  refine ⟨by omega, by omega, fun s1 => ⟨by omega, by omega, fun s2 => ?_⟩⟩
  refine (cW _).mono ?_
  rintro g O' ⟨rfl, rfl⟩
  simp +contextual -implicitDefEqProofs (maxSteps := 2000000) (disch := omega) only [↓lenV, binV, ↓unV, optV, ↓loadV, ↓storeV, ↓allocV, ↓buildSliceV, ↓sliceV, ↓appendV, ↓srcV, bound, cutTag, hiTag, fillE, GVal.cells, grp, GVal.ofConst, ↓resV, resG, List.map, List.headD, List.take, List.drop, ↓reduceIte, Nat.reduceEqDiff, Nat.reduceAdd, Nat.reduceSub, Nat.reduceLeDiff, reduceCtorEq, implies_true, ne_eq, ↓asrcV, aggV, Tag.cap, List.replicate, allSolid, GVal.solid, Nat.reduceBEq, Nat.reduceMul, Nat.reduceLT, List.length_map, List.length_range, splice, vcA, ↓vcB, vcC, fbFd, e7]
  refine (cE2 _ _).then ?_ (by rfl)
  simp +contextual -implicitDefEqProofs (maxSteps := 2000000) (disch := omega) only [↓lenV, binV, ↓unV, optV, ↓loadV, ↓storeV, ↓allocV, ↓buildSliceV, ↓sliceV, ↓appendV, ↓srcV, bound, cutTag, hiTag, fillE, GVal.cells, grp, GVal.ofConst, ↓resV, resG, List.map, List.headD, List.take, List.drop, ↓reduceIte, Nat.reduceEqDiff, Nat.reduceAdd, Nat.reduceSub, Nat.reduceLeDiff, reduceCtorEq, implies_true, ne_eq, ↓asrcV, aggV, Tag.cap, List.replicate, allSolid, GVal.solid, Nat.reduceBEq, Nat.reduceMul, Nat.reduceLT, List.length_map, List.length_range, splice, vcA, ↓vcB, vcC, fbFd, e7]
  refine (cR _).mono ?_
  rintro g O' ⟨rfl, rfl⟩
  simp +contextual -implicitDefEqProofs (maxSteps := 2000000) (disch := omega) only [↓lenV, binV, ↓unV, optV, ↓loadV, ↓storeV, ↓allocV, ↓buildSliceV, ↓sliceV, ↓appendV, ↓srcV, bound, cutTag, hiTag, fillE, GVal.cells, grp, GVal.ofConst, ↓resV, resG, List.map, List.headD, List.take, List.drop, ↓reduceIte, Nat.reduceEqDiff, Nat.reduceAdd, Nat.reduceSub, Nat.reduceLeDiff, reduceCtorEq, implies_true, ne_eq, ↓asrcV, aggV, Tag.cap, List.replicate, allSolid, GVal.solid, Nat.reduceBEq, Nat.reduceMul, Nat.reduceLT, List.length_map, List.length_range, splice, vcA, ↓vcB, vcC, fbFd, e7]
  exact ⟨1, .bool true, rfl, by rw [leA_bool]⟩
end Gv.Try
/- Sets of numbers as lists of spans: the plain theory. -/
set_option linter.unusedVariables false
namespace Gv.Sp
open Gv
abbrev S := Int × Int
def has (l : List S) (n : Int) : Prop := ∃ s ∈ l, 0 ≤ n ∧ s.1 ≤ n ∧ n ≤ s.2
theorem has_cons (s : S) (l : List S) (n : Int) : has (s :: l) n ↔ (0 ≤ n ∧ s.1 ≤ n ∧ n ≤ s.2) ∨ has l n := by simp [has]
def Rt : Int → List S → Prop
  | _, [] => True
  | b, s :: r => b ≤ s.1 ∧ s.1 ≤ s.2 ∧ Rt (s.2 + 2) r
theorem Rt.weak {b b' : Int} : ∀ {l : List S}, Rt b l → b' ≤ b → Rt b' l
  | [], _, _ => trivial
  | s :: r, ⟨h1, h2, h3⟩, h => ⟨by omega, h2, h3⟩
theorem Rt.ge {n : Int} : ∀ {l : List S} {b : Int}, Rt b l → has l n → b ≤ n
  | [], b, _, h => by simp [has] at h
  | s :: r, b, ⟨h1, h2, h3⟩, h => by
    rcases (has_cons s r n).1 h with h | h
    · omega
    · have := h3.ge h; omega
theorem Rt.mem {s : S} : ∀ {l : List S} {b : Int}, Rt b l → s ∈ l → b ≤ s.1 ∧ s.1 ≤ s.2
  | [], b, _, h => by simp at h
  | x :: r, b, ⟨h1, h2, h3⟩, h => by
    rcases List.mem_cons.1 h with rfl | h
    · exact ⟨h1, h2⟩
    · have := h3.mem h; omega
theorem Rt.lo {s : S} {l : List S} {b : Int} (h : Rt b l) (hb : 0 ≤ b) (hs : s ∈ l) : has l s.1 := ⟨s, hs, by have := h.mem hs; omega⟩
theorem Rt.hi {s : S} {l : List S} {b : Int} (h : Rt b l) (hb : 0 ≤ b) (hs : s ∈ l) : has l s.2 := ⟨s, hs, by have := h.mem hs; omega⟩
theorem uniq : ∀ {l l' : List S} {b b' : Int}, Rt b l → Rt b' l' → 0 ≤ b → 0 ≤ b' → (∀ n, has l n ↔ has l' n) → l = l'
  | [], [], _, _, _, _, _, _, _ => rfl
  | [], y :: r, _, b', _, h', _, h0', h => absurd ((h y.1).2 (h'.lo h0' (by simp))) (by simp [has])
  | x :: r, [], b, _, h', _, h0', _, h => absurd ((h x.1).1 (h'.lo h0' (by simp))) (by simp [has])
  | (x1, x2) :: r, (y1, y2) :: q, b, b', hx, hy, hb, hb', h => by
    have e1 : has ((y1, y2) :: q) x1 := (h _).1 (hx.lo hb (s := (x1, x2)) (by simp))
    have e2 : has ((x1, x2) :: r) y1 := (h _).2 (hy.lo hb' (s := (y1, y2)) (by simp))
    obtain ⟨p1, p2, p3⟩ := hx
    obtain ⟨q1, q2, q3⟩ := hy
    simp only at p1 p2 p3 q1 q2 q3
    have g1 : y1 ≤ x1 := by
      rcases (has_cons _ _ _).1 e1 with e | e
      · exact e.2.1
      · have := q3.ge e; omega
    have g2 : x1 ≤ y1 := by
      rcases (has_cons _ _ _).1 e2 with e | e
      · exact e.2.1
      · have := p3.ge e; omega
    have g : x1 = y1 := by omega
    have k1 : ¬ x2 < y2 := fun hlt => by
      have e := (h (x2 + 1)).2 ((has_cons _ _ _).2 (.inl ⟨by omega, by show y1 ≤ _; omega, by show _ ≤ y2; omega⟩))
      rcases (has_cons _ _ _).1 e with e | e
      · have := e.2.2; simp only at this; omega
      · have := p3.ge e; omega
    have k2 : ¬ y2 < x2 := fun hlt => by
      have e := (h (y2 + 1)).1 ((has_cons _ _ _).2 (.inl ⟨by omega, by show x1 ≤ _; omega, by show _ ≤ x2; omega⟩))
      rcases (has_cons _ _ _).1 e with e | e
      · have := e.2.2; simp only at this; omega
      · have := q3.ge e; omega
    have k : x2 = y2 := by omega
    subst g; subst k
    have hr : ∀ n, has r n ↔ has q n := fun n => by
      constructor
      · intro hn
        rcases (has_cons _ _ _).1 ((h n).1 ((has_cons _ _ _).2 (.inr hn))) with e | e
        · have := p3.ge hn; have := e.2.2; simp only at this; omega
        · exact e
      · intro hn
        rcases (has_cons _ _ _).1 ((h n).2 ((has_cons _ _ _).2 (.inr hn))) with e | e
        · have := q3.ge hn; have := e.2.2; simp only at this; omega
        · exact e
    rw [uniq p3 q3 (by omega) (by omega) hr]

def ins : List S → S → List S
  | [], s => [s]
  | x :: r, s => if x.2 + 1 < s.1 then x :: ins r s else if s.2 + 1 < x.1 then s :: x :: r else ins r (min s.1 x.1, max s.2 x.2)
def put (acc : List S) (s : S) : List S := if max s.1 0 ≤ s.2 then ins acc (max s.1 0, s.2) else acc
def Ok (l : List S) : Prop := ∀ s ∈ l, (-9223372036854775808 ≤ s.1 ∧ s.1 ≤ 9223372036854775807) ∧ (-9223372036854775808 ≤ s.2 ∧ s.2 ≤ 9223372036854775807)
theorem Ok.has {l : List S} (h : Ok l) {n : Int} (hn : has l n) : n ≤ 9223372036854775807 := by obtain ⟨s, hs, h1, h2, h3⟩ := hn; have := (h s hs).2.2; omega
theorem Ok.app {a b : List S} (ha : Ok a) (hb : Ok b) : Ok (a ++ b) := fun s hs => (List.mem_append.1 hs).elim (ha s) (hb s)
theorem Ok.nil : Ok [] := fun s hs => by simp at hs
theorem Ok.at {l : List S} (h : Ok l) (i : Nat) : (-9223372036854775808 ≤ (l.getD i (0, 0)).1 ∧ (l.getD i (0, 0)).1 ≤ 9223372036854775807) ∧ (-9223372036854775808 ≤ (l.getD i (0, 0)).2 ∧ (l.getD i (0, 0)).2 ≤ 9223372036854775807) := by
  by_cases hi : i < l.length
  · rw [List.getD_eq_getElem?_getD, List.getElem?_eq_getElem hi]; exact h _ (List.getElem_mem hi)
  · rw [List.getD_eq_getElem?_getD, List.getElem?_eq_none (by omega)]; simp
theorem Rt.at {l : List S} {b : Int} (h : Rt b l) (i : Nat) (hi : i < l.length) : b ≤ (l.getD i (0, 0)).1 ∧ (l.getD i (0, 0)).1 ≤ (l.getD i (0, 0)).2 := by
  rw [List.getD_eq_getElem?_getD, List.getElem?_eq_getElem hi]; exact h.mem (List.getElem_mem hi)

def both (a b : List S) : List S :=
  match a, b with
  | [], _ => []
  | _ :: _, [] => []
  | x :: a, y :: b => (if max x.1 y.1 ≤ min x.2 y.2 then [(max x.1 y.1, min x.2 y.2)] else []) ++ if x.2 < y.2 then both a (y :: b) else both (x :: a) b
termination_by a.length + b.length
def restF (low : Int) : List S → List S
  | [] => [(low, 9223372036854775807)]
  | s :: r => (if low < s.1 then [(low, s.1 - 1)] else []) ++ if s.2 = 9223372036854775807 then [] else restF (s.2 + 1) r
def rest (l : List S) : List S := restF 0 l
end Gv.Sp
/- Spans as ghost values. -/
set_option linter.unusedVariables false
namespace Gv
end Gv
/- What some shapes read as. -/
set_option linter.unusedVariables false
namespace Gv
open Go
theorem den_slice {α : Type} {e : Sh} (enc : α → List GVal) (ok : α → Prop) (he : ∀ {x}, Den e x → ∃ a, x = enc a ∧ ok a) {gs : List GVal} (h : Den (.slice e) gs) : ∃ l : List α, gs = [.slice (l.map enc) .none] ∧ l.length ≤ maxLen ∧ ∀ a ∈ l, ok a := by
  obtain ⟨xs, rfl, hl, hx⟩ := h
  have : ∀ xs : List (List GVal), (∀ x ∈ xs, Den e x) → ∃ l : List α, xs = l.map enc ∧ ∀ a ∈ l, ok a := by
    intro xs
    induction xs with
    | nil => exact fun _ => ⟨[], rfl, by simp⟩
    | cons a r ih =>
      intro h
      obtain ⟨l, rfl, hl⟩ := ih fun x hx => h x (by simp [hx])
      obtain ⟨n, rfl, hn⟩ := he (h a (by simp))
      exact ⟨n :: l, rfl, by simpa using ⟨hn, hl⟩⟩
  obtain ⟨l, rfl, h2⟩ := this xs hx
  exact ⟨l, rfl, by simpa using hl, h2⟩
end Gv
/- OrderRises: from the readings. -/
set_option linter.unusedVariables false
namespace Gv.Try
open Go Gv Go.Proofs
abbrev rawS : Sh := .agg [.int .i64, .int .i64, .slice (.int .i64)]
abbrev rrS : Sh := .agg [.slice rawS, .slice (.int .i64), .int .i64, .int .i64]
theorem den_ints {gs : List GVal} (h : Den (.slice (.int .i64)) gs) : ∃ l : List Int, gs = [.slice (ints l) .none] := by
  obtain ⟨l, rfl, _⟩ := den_slice (fun n : Int => [.int .i64 n]) (fun n => (Lit.int .i64 n).wf = true) (fun {x} (h : Den (.int .i64) x) => h) h
  exact ⟨l, rfl⟩
theorem den_raw {gs : List GVal} (h : Den rawS gs) : ∃ r : RC, gs = rawC r ∧ True := by
  obtain ⟨ps, rfl, p, q, rfl, ⟨a, rfl, _⟩, p2, q2, rfl, ⟨b, rfl, _⟩, p3, q3, rfl, h3, rfl⟩ := h
  obtain ⟨l, rfl⟩ := den_ints h3
  exact ⟨(a, b, l), rfl, trivial⟩
theorem den_rr {gs : List GVal} (h : Den rrS gs) : ∃ r : RR, gs = rrG r ∧ True := by
  obtain ⟨ps, rfl, p, q, rfl, h1, p2, q2, rfl, h2, p3, q3, rfl, ⟨c, rfl, _⟩, p4, q4, rfl, ⟨d, rfl, _⟩, rfl⟩ := h
  obtain ⟨l, rfl, _, _⟩ := den_slice rawC (fun _ => True) (fun {x} h => den_raw h) h1
  obtain ⟨hs, rfl⟩ := den_ints h2
  exact ⟨⟨l, hs, c, d⟩, rfl, trivial⟩
theorem den_rrs {gs : List GVal} (h : Den (.slice rrS) gs) : ∃ l : List RR, gs = [.slice (rrsG l) .none] := by
  obtain ⟨l, rfl, _, _⟩ := den_slice rrG (fun _ => True) (fun {x} h => den_rr h) h
  exact ⟨l, rfl⟩
end Gv.Try
/- OrderParts: from the readings. -/
set_option linter.unusedVariables false
namespace Gv.Try
open Go Gv Go.Proofs
theorem wParts {g0 g1 g2 : List GVal} (h0 : Den (.slice rrS) g0) (h1 : Den (.slice (.int .i64)) g1) (h2 : Den (.int .i64) g2) : GPure Try.prog 7 ([Sh.val (.slice rrS) g0, Sh.val (.slice (.int .i64)) g1, Sh.val (.int .i64) g2]) (.bool true) := by
  obtain ⟨l, rfl⟩ := den_rrs h0
  obtain ⟨hs, rfl⟩ := den_ints h1
  obtain ⟨c, rfl, _⟩ := h2
  exact specParts l hs .none c
end Gv.Try
