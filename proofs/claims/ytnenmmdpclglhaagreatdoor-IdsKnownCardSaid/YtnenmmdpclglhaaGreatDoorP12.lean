/- Contracts: order's push and step, where the function that tells who is done reads two objects more. -/
import Derived.Test.YtnenmmdpclglhaaGreatDoorP10
import Derived.Test.YtnenmmdpclglhaaGreatDoorP11
import Derived.Test.YtnenmmdpclglhaaGreatDoorP8
import Derived.Test.YtnenmmdpclglhaaGreatDoorP5
set_option linter.unusedVariables false
set_option linter.unusedSimpArgs false
set_option maxRecDepth 20000
set_option maxHeartbeats 4000000
namespace Gv.Tryz
open Go Gv Go.Proofs
open Nat (reduceEqDiff reduceAdd reduceSub reduceLeDiff reduceMul reduceLT)
abbrev wObjZ (y1 y2 : GObj) (st s : Nat) (m : GM) (sq sw sv so n : Nat) (dg : GVal) (K Z : List Cm) (S out : List Hs) : List GObj :=
  [.row st 1 [[.map 1 s]], .map s (kvG encL m), y1, y2, .map sq (kvG encB (setM S)), .row sw 5 [[.ptr 0 st 0 0, dg, .map 4 sq, .own 6 sv 0 n, .slice (hsG out) (.tok 7 so)]], .row sv 33 (csG (K ++ Z)), .tok so 32]
abbrev DoneZ (y1 y2 : GObj) (st s : Nat) (m : GM) (F : FuncId) (fr : GVal) (h : Hs) (b : Bool) : Prop := ∀ X : List GObj, GCalls Tryz.prog F [fr, .agg (bytesG h.1)] (.row st 1 [[.map 1 s]] :: .map s (kvG encL m) :: y1 :: y2 :: X) (fun g O' => g = .bool b ∧ O' = .row st 1 [[.map 1 s]] :: .map s (kvG encL m) :: y1 :: y2 :: X)
theorem gPush1Z (y1 y2 : GObj) (m : GM) (hm : GMOK m) (h : Hs) (st s sq sw sv so n : Nat) (dg : GVal) (K Z : List Cm) (S out : List Hs) (hl : look m h = none) (hn : n = K.length) :
    GCalls Tryz.prog 73 [.ptr 5 sw 0 0, .agg (bytesG h.1)] (wObjZ y1 y2 st s m sq sw sv so n dg K Z S out) (fun g O' => g = .tuple [] ∧ O' = wObjZ y1 y2 st s m sq sw sv so n dg K Z S out) := by
  subst hn
  have c := fun X => gParK m h st s (by have := hm.pars h; omega) X
  simp only [hl, Option.isSome_none] at c
  refine h73.calls mixS (by simp) ?_
  simp only [gstart, s73, List.cons_append, List.nil_append, List.length_cons, List.length_nil, reduceAdd, reduceSub, List.replicate_succ, List.replicate_zero]
  simp +contextual -implicitDefEqProofs (maxSteps := 2000000) (disch := omega) only [drawC, drawK, keepT, binV, ↓unV, ↓loadV, ↓storeV, ↓fieldAddrV, ↓boxV, ↓buildV, ↓buildSliceV, ↓nilV, ↓appendV, ↓srcV, fillG, fillE, place, GVal.cells, GVal.ofConst, ↓resV, resG, ↓reduceIte, reduceEqDiff, reduceAdd, reduceSub, reduceLeDiff, reduceCtorEq, ↓asrcV, ↓lookupV, ↓mapUpdateV, keyOk, keyCells, pairG, aggV, Tag.cap, GVal.solid, Nat.reduceBEq, reduceMul, reduceLT, vcA, ↓vcB, vcC, fbFy, e73, vcD, v32]
  refine (c _).mono ?_
  rintro g O' ⟨rfl, rfl⟩
  simp +contextual -implicitDefEqProofs (maxSteps := 2000000) (disch := omega) only [drawC, drawK, keepT, binV, ↓unV, ↓loadV, ↓storeV, ↓fieldAddrV, ↓boxV, ↓buildV, ↓buildSliceV, ↓nilV, ↓appendV, ↓srcV, fillG, fillE, place, GVal.cells, GVal.ofConst, ↓resV, resG, ↓reduceIte, reduceEqDiff, reduceAdd, reduceSub, reduceLeDiff, reduceCtorEq, ↓asrcV, ↓lookupV, ↓mapUpdateV, keyOk, keyCells, pairG, aggV, Tag.cap, GVal.solid, Nat.reduceBEq, reduceMul, reduceLT, vcA, ↓vcB, vcC, fbFy, e73, setO_3, setO_4, setO_5, setO_6, setO_7, setO_8, kfind_h, vcD, v32]
theorem gPush2Z (y1 y2 : GObj) (m : GM) (hm : GMOK m) (h : Hs) (st s sq sw sv so n : Nat) (dg : GVal) (K Z : List Cm) (S out : List Hs) (l : List Hs) (hl : look m h = some l) (hS : h ∈ S) (hn : n = K.length) :
    GCalls Tryz.prog 73 [.ptr 5 sw 0 0, .agg (bytesG h.1)] (wObjZ y1 y2 st s m sq sw sv so n dg K Z S out) (fun g O' => g = .tuple [] ∧ O' = wObjZ y1 y2 st s m sq sw sv so n dg K Z S out) := by
  subst hn
  have c := fun X => gParK m h st s (by have := hm.pars h; omega) X
  simp only [hl, Option.isSome_some, parsM_some hl] at c
  obtain ⟨i, hi, hv, _⟩ := look_idx encB (setM S) h true (by rw [look_set, if_pos hS])
  refine h73.calls mixS (by simp) ?_
  simp only [gstart, s73, List.cons_append, List.nil_append, List.length_cons, List.length_nil, reduceAdd, reduceSub, List.replicate_succ, List.replicate_zero]
  simp +contextual -implicitDefEqProofs (maxSteps := 2000000) (disch := omega) only [drawC, drawK, keepT, binV, ↓unV, ↓loadV, ↓storeV, ↓fieldAddrV, ↓boxV, ↓buildV, ↓buildSliceV, ↓nilV, ↓appendV, ↓srcV, fillG, fillE, place, GVal.cells, GVal.ofConst, ↓resV, resG, ↓reduceIte, reduceEqDiff, reduceAdd, reduceSub, reduceLeDiff, reduceCtorEq, ↓asrcV, ↓lookupV, ↓mapUpdateV, keyOk, keyCells, pairG, aggV, Tag.cap, GVal.solid, Nat.reduceBEq, reduceMul, reduceLT, vcA, ↓vcB, vcC, fbFy, e73, vcD, v32]
  refine (c _).mono ?_
  rintro g O' ⟨rfl, rfl⟩
  simp +contextual -implicitDefEqProofs (maxSteps := 2000000) (disch := omega) only [drawC, drawK, keepT, binV, ↓unV, ↓loadV, ↓storeV, ↓fieldAddrV, ↓boxV, ↓buildV, ↓buildSliceV, ↓nilV, ↓appendV, ↓srcV, fillG, fillE, place, GVal.cells, GVal.ofConst, ↓resV, resG, ↓reduceIte, reduceEqDiff, reduceAdd, reduceSub, reduceLeDiff, reduceCtorEq, ↓asrcV, ↓lookupV, ↓mapUpdateV, keyOk, keyCells, pairG, aggV, Tag.cap, GVal.solid, Nat.reduceBEq, reduceMul, reduceLT, vcA, ↓vcB, vcC, fbFy, e73, setO_3, setO_4, setO_5, setO_6, setO_7, setO_8, kfind_h, hi, hv, vcD, v32]
theorem gPush3Z (y1 y2 : GObj) (m : GM) (hm : GMOK m) (h : Hs) (st s sq sw sv so n : Nat) (F : FuncId) (fr : GVal) (K Z : List Cm) (S out : List Hs) (l : List Hs) (hl : look m h = some l) (hS : h ∉ S) (hF : DoneZ y1 y2 st s m F fr h true) (hn : n = K.length) :
    GCalls Tryz.prog 73 [.ptr 5 sw 0 0, .agg (bytesG h.1)] (wObjZ y1 y2 st s m sq sw sv so n (.func (.func F) [fr] []) K Z S out) (fun g O' => g = .tuple [] ∧ O' = wObjZ y1 y2 st s m sq sw sv so n (.func (.func F) [fr] []) K Z S out) := by
  subst hn
  have c := fun X => gParK m h st s (by have := hm.pars h; omega) X
  simp only [hl, Option.isSome_some, parsM_some hl] at c
  obtain ⟨hi, hw⟩ := look_none encB (setM S) h (by rw [look_set, if_neg hS])
  have hw := hw true
  rw [mset_set S h hS] at hw
  refine h73.calls mixS (by simp) ?_
  simp only [gstart, s73, List.cons_append, List.nil_append, List.length_cons, List.length_nil, reduceAdd, reduceSub, List.replicate_succ, List.replicate_zero]
  simp +contextual -implicitDefEqProofs (maxSteps := 2000000) (disch := omega) only [drawC, drawK, keepT, binV, ↓unV, ↓loadV, ↓storeV, ↓fieldAddrV, ↓boxV, ↓buildV, ↓buildSliceV, ↓nilV, ↓appendV, ↓srcV, fillG, fillE, place, GVal.cells, GVal.ofConst, ↓resV, resG, ↓reduceIte, reduceEqDiff, reduceAdd, reduceSub, reduceLeDiff, reduceCtorEq, ↓asrcV, ↓lookupV, ↓mapUpdateV, keyOk, keyCells, pairG, aggV, Tag.cap, GVal.solid, Nat.reduceBEq, reduceMul, reduceLT, vcA, ↓vcB, vcC, fbFy, e73, vcD, v32]
  refine (c _).mono ?_
  rintro g O' ⟨rfl, rfl⟩
  simp +contextual -implicitDefEqProofs (maxSteps := 2000000) (disch := omega) only [drawC, drawK, keepT, binV, ↓unV, ↓loadV, ↓storeV, ↓fieldAddrV, ↓boxV, ↓buildV, ↓buildSliceV, ↓nilV, ↓appendV, ↓srcV, fillG, fillE, place, GVal.cells, GVal.ofConst, ↓resV, resG, ↓reduceIte, reduceEqDiff, reduceAdd, reduceSub, reduceLeDiff, reduceCtorEq, ↓asrcV, ↓lookupV, ↓mapUpdateV, keyOk, keyCells, pairG, aggV, Tag.cap, GVal.solid, Nat.reduceBEq, reduceMul, reduceLT, vcA, ↓vcB, vcC, fbFy, e73, setO_3, setO_4, setO_5, setO_6, setO_7, setO_8, kfind_h, hi, hw, vcD, v32]
  refine (hF _).mono ?_
  rintro g O' ⟨rfl, rfl⟩
  simp +contextual -implicitDefEqProofs (maxSteps := 2000000) (disch := omega) only [drawC, drawK, keepT, binV, ↓unV, ↓loadV, ↓storeV, ↓fieldAddrV, ↓boxV, ↓buildV, ↓buildSliceV, ↓nilV, ↓appendV, ↓srcV, fillG, fillE, place, GVal.cells, GVal.ofConst, ↓resV, resG, ↓reduceIte, reduceEqDiff, reduceAdd, reduceSub, reduceLeDiff, reduceCtorEq, ↓asrcV, ↓lookupV, ↓mapUpdateV, keyOk, keyCells, pairG, aggV, Tag.cap, GVal.solid, Nat.reduceBEq, reduceMul, reduceLT, vcA, ↓vcB, vcC, fbFy, e73, setO_3, setO_4, setO_5, setO_6, setO_7, setO_8, kfind_h, csG_len, all_csG, hi, hw, vcD, v33, v32]
theorem gPush4Z (y1 y2 : GObj) (m : GM) (hm : GMOK m) (h : Hs) (st s sq sw sv so n : Nat) (F : FuncId) (fr : GVal) (K Z : List Cm) (S out : List Hs) (l : List Hs) (hl : look m h = some l) (hS : h ∉ S) (hF : DoneZ y1 y2 st s m F fr h false) (hK : K.length ≤ 1000000) (hn : n = K.length) :
    GCalls Tryz.prog 73 [.ptr 5 sw 0 0, .agg (bytesG h.1)] (wObjZ y1 y2 st s m sq sw sv so n (.func (.func F) [fr] []) K Z S out) (fun g O' => ∃ sv', g = .tuple [] ∧ O' = wObjZ y1 y2 st s m sq sw sv' so (n + 1) (.func (.func F) [fr] []) (K ++ [(h, l)]) [] (S ++ [h]) out) := by
  subst hn
  have c := fun X => gParK m h st s (by have := hm.pars h; omega) X
  simp only [hl, Option.isSome_some, parsM_some hl] at c
  obtain ⟨hi, hw⟩ := look_none encB (setM S) h (by rw [look_set, if_neg hS])
  have hw := hw true
  rw [mset_set S h hS] at hw
  refine h73.calls mixS (by simp) ?_
  simp only [gstart, s73, List.cons_append, List.nil_append, List.length_cons, List.length_nil, reduceAdd, reduceSub, List.replicate_succ, List.replicate_zero]
  simp +contextual -implicitDefEqProofs (maxSteps := 2000000) (disch := omega) only [drawC, drawK, keepT, binV, ↓unV, ↓loadV, ↓storeV, ↓fieldAddrV, ↓boxV, ↓buildV, ↓buildSliceV, ↓nilV, ↓appendV, ↓srcV, fillG, fillE, place, GVal.cells, GVal.ofConst, ↓resV, resG, ↓reduceIte, reduceEqDiff, reduceAdd, reduceSub, reduceLeDiff, reduceCtorEq, ↓asrcV, ↓lookupV, ↓mapUpdateV, keyOk, keyCells, pairG, aggV, Tag.cap, GVal.solid, Nat.reduceBEq, reduceMul, reduceLT, vcA, ↓vcB, vcC, fbFy, e73, vcD, v32]
  refine (c _).mono ?_
  rintro g O' ⟨rfl, rfl⟩
  simp +contextual -implicitDefEqProofs (maxSteps := 2000000) (disch := omega) only [drawC, drawK, keepT, binV, ↓unV, ↓loadV, ↓storeV, ↓fieldAddrV, ↓boxV, ↓buildV, ↓buildSliceV, ↓nilV, ↓appendV, ↓srcV, fillG, fillE, place, GVal.cells, GVal.ofConst, ↓resV, resG, ↓reduceIte, reduceEqDiff, reduceAdd, reduceSub, reduceLeDiff, reduceCtorEq, ↓asrcV, ↓lookupV, ↓mapUpdateV, keyOk, keyCells, pairG, aggV, Tag.cap, GVal.solid, Nat.reduceBEq, reduceMul, reduceLT, vcA, ↓vcB, vcC, fbFy, e73, setO_3, setO_4, setO_5, setO_6, setO_7, setO_8, kfind_h, hi, hw, vcD, v32]
  refine (hF _).mono ?_
  rintro g O' ⟨rfl, rfl⟩
  simp +contextual -implicitDefEqProofs (maxSteps := 2000000) (disch := omega) only [drawC, drawK, keepT, binV, ↓unV, ↓loadV, ↓storeV, ↓fieldAddrV, ↓boxV, ↓buildV, ↓buildSliceV, ↓nilV, ↓appendV, ↓srcV, fillG, fillE, place, GVal.cells, GVal.ofConst, ↓resV, resG, ↓reduceIte, reduceEqDiff, reduceAdd, reduceSub, reduceLeDiff, reduceCtorEq, ↓asrcV, ↓lookupV, ↓mapUpdateV, keyOk, keyCells, pairG, aggV, Tag.cap, GVal.solid, Nat.reduceBEq, reduceMul, reduceLT, vcA, ↓vcB, vcC, fbFy, e73, setO_3, setO_4, setO_5, setO_6, setO_7, setO_8, kfind_h, csG_len, all_csG, hi, hw, vcD, v33, v32]
  refine ⟨by simp, by omega, by omega, fun v => ⟨v, ?_⟩⟩
  rw [take_csG]
  simp [csG_app, csG_one, comG]
theorem gPushZ (y1 y2 : GObj) (m : GM) (hm : GMOK m) (h : Hs) (st s sq sw sv so n : Nat) (F : FuncId) (fr : GVal) (dn : Hs → Bool) (hd : ∀ h, DoneZ y1 y2 st s m F fr h (dn h)) (K Z : List Cm) (S out : List Hs) (hK : K.length ≤ 1000000) (hn : n = K.length) :
    GCalls Tryz.prog 73 [.ptr 5 sw 0 0, .agg (bytesG h.1)] (wObjZ y1 y2 st s m sq sw sv so n (.func (.func F) [fr] []) K Z S out) (fun g O' => ∃ sv' Z', g = .tuple [] ∧ O' = if pushed m dn S h = true then wObjZ y1 y2 st s m sq sw sv' so (n + 1) (.func (.func F) [fr] []) (K ++ [(h, parsM m h)]) Z' (S ++ [h]) out else wObjZ y1 y2 st s m sq sw sv' so n (.func (.func F) [fr] []) K Z' S out) := by
  have stay : pushed m dn S h = false → GCalls Tryz.prog 73 [.ptr 5 sw 0 0, .agg (bytesG h.1)] (wObjZ y1 y2 st s m sq sw sv so n (.func (.func F) [fr] []) K Z S out) (fun g O' => g = .tuple [] ∧ O' = wObjZ y1 y2 st s m sq sw sv so n (.func (.func F) [fr] []) K Z S out) →
      GCalls Tryz.prog 73 [.ptr 5 sw 0 0, .agg (bytesG h.1)] (wObjZ y1 y2 st s m sq sw sv so n (.func (.func F) [fr] []) K Z S out) (fun g O' => ∃ sv' Z', g = .tuple [] ∧ O' = if pushed m dn S h = true then wObjZ y1 y2 st s m sq sw sv' so (n + 1) (.func (.func F) [fr] []) (K ++ [(h, parsM m h)]) Z' (S ++ [h]) out else wObjZ y1 y2 st s m sq sw sv' so n (.func (.func F) [fr] []) K Z' S out) := fun hp hc => by
    rw [hp]
    refine hc.mono ?_
    rintro g O' ⟨rfl, rfl⟩
    exact ⟨sv, Z, rfl, by rw [if_neg (by simp)]⟩
  cases hl : look m h with
  | none => exact stay (by unfold pushed; rw [hl]; rfl) (gPush1Z y1 y2 m hm h st s sq sw sv so n (.func (.func F) [fr] []) K Z S out hl hn)
  | some l =>
    rw [parsM_some hl]
    rw [parsM_some hl] at stay
    by_cases hS : h ∈ S
    · exact stay (by unfold pushed; rw [hl]; simp [hS]) (gPush2Z y1 y2 m hm h st s sq sw sv so n (.func (.func F) [fr] []) K Z S out l hl hS hn)
    · have hF := hd h
      cases hb : dn h with
      | true =>
        rw [hb] at hF
        exact stay (by unfold pushed; rw [hl, hb]; simp) (gPush3Z y1 y2 m hm h st s sq sw sv so n F fr K Z S out l hl hS hF hn)
      | false =>
        rw [hb] at hF
        have hp : pushed m dn S h = true := by unfold pushed; rw [hl, hb]; simp [hS]
        rw [hp]
        refine (gPush4Z y1 y2 m hm h st s sq sw sv so n F fr K Z S out l hl hS hF hK hn).mono ?_
        rintro g O' ⟨sv', rfl, rfl⟩
        exact ⟨sv', [], rfl, by rw [if_pos rfl]⟩
theorem gStep1Z (y1 y2 : GObj) (m : GM) (hm : GMOK m) (st s sq sw sv so n : Nat) (F : FuncId) (fr : GVal) (dn : Hs → Bool) (hd : ∀ h, DoneZ y1 y2 st s m F fr h (dn h)) (K Z : List Cm) (x p : Hs) (r S out : List Hs) (hK : K.length ≤ 999999) (hn : n = K.length) :
    GCalls Tryz.prog 74 [.ptr 5 sw 0 0] (wObjZ y1 y2 st s m sq sw sv so (n + 1) (.func (.func F) [fr] []) (K ++ [(x, p :: r)]) Z S out) (fun g O' => ∃ sv' Z', g = .tuple [] ∧ O' = if pushed m dn S p = true then wObjZ y1 y2 st s m sq sw sv' so (n + 2) (.func (.func F) [fr] []) (K ++ [(x, r)] ++ [(p, parsM m p)]) Z' (S ++ [p]) out else wObjZ y1 y2 st s m sq sw sv' so (n + 1) (.func (.func F) [fr] []) (K ++ [(x, r)]) Z' S out) := by
  subst hn
  have eS : (csG (K ++ [(x, p :: r)] ++ Z)).getD K.length [] = bytesG x.1 ++ [.slice (hsG (p :: r)) .none] := by
    rw [csG_at _ _ (by simp)]
    simp [List.getD, comG]
  have d1 : ((K.length : Int) + 1 - 1).toNat = K.length := by omega
  have eH : (hsG (p :: r)).getD 0 [] = bytesG p.1 := rfl
  have d2 : ((0 : Int) < (r.length : Int) + 1) = True := eq_true (by omega)
  have eD : List.drop (Int.toNat 1) (List.take ((r.length : Int) + 1).toNat (hsG (p :: r))) = hsG r := by
    have e : ((r.length : Int) + 1).toNat = (hsG (p :: r)).length := by rw [hsG_len]; simp
    rw [e, List.take_length]; rfl
  have eW : (csG (K ++ [(x, p :: r)] ++ Z)).set K.length (bytesG x.1 ++ [.slice (hsG r) .none]) = csG (K ++ [(x, r)] ++ Z) := by
    rw [csG_app, csG_app, csG_app, csG_app, List.append_assoc, List.set_append_right _ _ (by rw [csG_len]; omega), csG_len, Nat.sub_self, List.append_assoc]
    rfl
  have cP := gPushZ y1 y2 m hm p st s sq sw sv so (K.length + 1) F fr dn hd (K ++ [(x, r)]) Z S out (by simp; omega) (by simp)
  refine GCalls.dropTo ?_
  refine h74.calls mixS (by simp) ?_
  simp only [gstart, s74, List.cons_append, List.nil_append, List.length_cons, List.length_nil, reduceAdd, reduceSub, List.replicate_succ, List.replicate_zero]
  simp +contextual -implicitDefEqProofs (maxSteps := 2000000) (disch := omega) only [drawC, drawK, keepT, ↓lenV, binV, optV, ↓loadV, ↓storeV, ↓fieldAddrV, ↓indexAddrV, ↓allocV, ↓buildSliceV, ↓sliceV, ↓nilV, ↓appendV, ↓srcV, bound, cutTag, hiTag, fillE, GVal.cells, GVal.ofConst, ↓resV, resG, ↓reduceIte, reduceEqDiff, reduceAdd, reduceSub, reduceLeDiff, reduceCtorEq, ↓asrcV, Tag.cap, GVal.solid, Nat.reduceBEq, reduceMul, reduceLT, vcA, ↓vcB, vcC, fbFy, e74, kfind_h, csG_len, all_csG, eS, eH, d1, d2, eD, eW, all_hsG, toNat0, setO_3, setO_4, setO_5, setO_6, setO_7, setO_8, true_imp_iff, Nat.sub_zero, List.drop_zero, hsG_len, List.length_append, List.length_cons, List.length_nil, List.length_singleton, vcD, v33, v32]
  refine ⟨by omega, by omega, by omega, by omega, by omega, by omega, fun u => ⟨by omega, by omega, by omega, by omega, by omega, ?_⟩⟩
  refine (GCalls.tail cP (by rintro g O' ⟨_, _, rfl, rfl⟩; split <;> exact ⟨rfl, by simp⟩) rfl (by simp) [.row u 32 [bytesG p.1]]).mono ?_
  rintro g O' ⟨_, ⟨sv', Z', rfl, rfl⟩, rfl⟩
  simp +contextual -implicitDefEqProofs (maxSteps := 2000000) (disch := omega) only [drawC, drawK, keepT, ↓lenV, binV, optV, ↓loadV, ↓storeV, ↓fieldAddrV, ↓indexAddrV, ↓allocV, ↓buildSliceV, ↓sliceV, ↓nilV, ↓appendV, ↓srcV, bound, cutTag, hiTag, fillE, GVal.cells, GVal.ofConst, ↓resV, resG, ↓reduceIte, reduceEqDiff, reduceAdd, reduceSub, reduceLeDiff, reduceCtorEq, ↓asrcV, Tag.cap, GVal.solid, Nat.reduceBEq, reduceMul, reduceLT, vcA, ↓vcB, vcC, fbFy, e74, vcD]
  exact ⟨_, _, _, rfl, leA_refl _, sv', Z', rfl, rfl⟩
theorem gStep0Z (y1 y2 : GObj) (m : GM) (st s sq sw sv so n : Nat) (dg : GVal) (K Z : List Cm) (x : Hs) (S out : List Hs) (hK : K.length ≤ 999999) (ho : out.length ≤ 1000000) (hn : n = K.length) :
    GCalls Tryz.prog 74 [.ptr 5 sw 0 0] (wObjZ y1 y2 st s m sq sw sv so (n + 1) dg (K ++ [(x, [])]) Z S out) (fun g O' => ∃ so', g = .tuple [] ∧ O' = wObjZ y1 y2 st s m sq sw sv so' n dg K ((x, []) :: Z) S (out ++ [x])) := by
  subst hn
  have eS : (csG (K ++ [(x, [])] ++ Z)).getD K.length [] = bytesG x.1 ++ [.slice (hsG []) .none] := by
    rw [csG_at _ _ (by simp)]
    simp [List.getD, comG]
  have d1 : ((K.length : Int) + 1 - 1).toNat = K.length := by omega
  refine h74.calls mixS (by simp) ?_
  simp only [gstart, s74, List.cons_append, List.nil_append, List.length_cons, List.length_nil, reduceAdd, reduceSub, List.replicate_succ, List.replicate_zero]
  simp +contextual -implicitDefEqProofs (maxSteps := 2000000) (disch := omega) only [drawC, drawK, keepT, ↓lenV, binV, optV, ↓loadV, ↓storeV, ↓fieldAddrV, ↓indexAddrV, ↓allocV, ↓buildSliceV, ↓sliceV, ↓nilV, ↓appendV, ↓srcV, bound, cutTag, hiTag, fillE, GVal.cells, GVal.ofConst, ↓resV, resG, ↓reduceIte, reduceEqDiff, reduceAdd, reduceSub, reduceLeDiff, reduceCtorEq, ↓asrcV, Tag.cap, GVal.solid, Nat.reduceBEq, reduceMul, reduceLT, vcA, ↓vcB, vcC, fbFy, e74, kfind_h, csG_len, all_csG, eS, d1, toNat0, setO_3, setO_4, setO_5, setO_6, setO_7, setO_8, Int.lt_irrefl, false_imp_iff, true_and, Nat.sub_zero, List.drop_zero, hsG_len, all_hsG, List.length_append, List.length_cons, List.length_nil, List.length_singleton, vcD, v33, v32]
  refine ⟨by omega, by omega, by omega, by omega, by omega, by omega, by omega, fun so' => ⟨by omega, by omega, by omega, so', ?_⟩⟩
  simp [hsG_app, hsG]
end Gv.Tryz
/- Contracts: order's Walk, where the function that tells who is done reads two objects more. -/
set_option linter.unusedVariables false
set_option linter.unusedSimpArgs false
set_option maxRecDepth 20000
set_option maxHeartbeats 4000000
namespace Gv.Tryz
open Go Gv Go.Proofs
open Nat (reduceEqDiff reduceAdd reduceSub reduceLeDiff reduceMul reduceLT)
theorem gWalkZ (y1 y2 : GObj) (m : GM) (hm : GMOK m) (hs : List Hs) (th : Tag) (st s : Nat) (F : FuncId) (fr : GVal) (dn : Hs → Bool) (hF : ∀ h : Hs, DoneZ y1 y2 st s m F fr h (dn h)) (T : WSt) (hT : VisL m dn hs ([], []) T) (hl : hs.length ≤ 1000000) :
    GCalls Tryz.prog 38 [.ptr 0 st 0 0, .slice (hsG hs) th, (.func (.func F) [fr] [])] (gObj st s m ++ [y1, y2]) (fun g O' => g = .slice (hsG T.2) .none ∧ O' = gObj st s m ++ [y1, y2]) := by
  have hml := hm.len
  have hd := hF
  refine GCalls.dropTo ?_
  refine h38.calls mixS (by simp) ?_
  simp only [gstart, s38, List.cons_append, List.nil_append, List.length_cons, List.length_nil, reduceAdd, reduceSub, List.replicate_succ, List.replicate_zero]
  simp +contextual -implicitDefEqProofs (maxSteps := 2000000) (disch := omega) only [↓lenV, binV, optV, ↓loadV, ↓storeV, ↓fieldAddrV, ↓indexAddrV, ↓allocV, ↓boxV, ↓buildV, ↓sliceV, ↓nilV, bound, cutTag, hiTag, fillG, place, GVal.cells, GVal.ofConst, ↓resV, resG, ↓reduceIte, reduceEqDiff, reduceAdd, reduceSub, reduceLeDiff, reduceCtorEq, ↓makeMapV, aggV, Tag.cap, GVal.solid, Nat.reduceBEq, reduceMul, reduceLT, vcA, ↓vcB, vcC, fbFy, e38, hsG_len, vcD]
  refine fun sq => ⟨⟨rfl, rfl, rfl⟩, fun sw => ?_⟩
  refine vcSLoop_by (ι := { p : ((Nat × List Cm) × (List Hs × List Hs)) × (Nat × Nat) // p.1.1.1 ≤ hs.length ∧ VisL m dn (hs.drop p.1.1.1) p.1.2 T ∧ SInv m p.1.2.1 p.1.2.2 0 }) (fun p => ⟨[.ptr 0 st 0 0, .slice (hsG hs) th, (.func (.func F) [fr] [])] ++ List.replicate 4 .any ++ [.ptr 5 sw 0 0] ++ List.replicate 9 .any ++ [.slice (hsG hs) th, .int .i64 hs.length, .int .i64 (p.1.1.1.1 : Nat)] ++ List.replicate 19 .any, wObjZ y1 y2 st s m sq sw p.1.2.1 p.1.2.2 0 (.func (.func F) [fr] []) [] p.1.1.1.2 p.1.1.2.1 p.1.1.2.2⟩) (fun p => hs.length - p.1.1.1.1) ?_ ?_
  · refine Into.cellRow 5 3 33 rfl rfl rfl rfl ?_
    simp +contextual -implicitDefEqProofs (maxSteps := 2000000) (disch := omega) only [↓lenV, binV, optV, ↓loadV, ↓storeV, ↓fieldAddrV, ↓indexAddrV, ↓allocV, ↓boxV, ↓buildV, ↓sliceV, ↓nilV, bound, cutTag, hiTag, fillG, place, GVal.cells, GVal.ofConst, ↓resV, resG, ↓reduceIte, reduceEqDiff, reduceAdd, reduceSub, reduceLeDiff, reduceCtorEq, ↓makeMapV, aggV, Tag.cap, GVal.solid, Nat.reduceBEq, reduceMul, reduceLT, vcA, ↓vcB, vcC, fbFy, e38, vcD]
    intro sv
    refine Into.cellTok 5 4 32 [] rfl rfl rfl rfl ?_
    simp +contextual -implicitDefEqProofs (maxSteps := 2000000) (disch := omega) only [↓lenV, binV, optV, ↓loadV, ↓storeV, ↓fieldAddrV, ↓indexAddrV, ↓allocV, ↓boxV, ↓buildV, ↓sliceV, ↓nilV, bound, cutTag, hiTag, fillG, place, GVal.cells, GVal.ofConst, ↓resV, resG, ↓reduceIte, reduceEqDiff, reduceAdd, reduceSub, reduceLeDiff, reduceCtorEq, ↓makeMapV, aggV, Tag.cap, GVal.solid, Nat.reduceBEq, reduceMul, reduceLT, vcA, ↓vcB, vcC, fbFy, e38, vcD]
    intro so
    exact Into.first ⟨(((0, []), ([], [])), (sv, so)), by show 0 ≤ _; omega, by simpa using hT, ⟨List.nodup_nil, by simp, by simp⟩⟩ ⟨[], rfl⟩ (by simp [WL, leG_self, leG_any, hsG_len])
  · rintro ⟨⟨⟨⟨k, Z⟩, ⟨S, out⟩⟩, ⟨sv, so⟩⟩, hk, hV, hI⟩
    change k ≤ hs.length at hk
    change VisL m dn (hs.drop k) (S, out) T at hV
    change SInv m S out 0 at hI
    have hSm := hI.le
    have hOl := hI.len
    by_cases h : k < hs.length
    · have d0 : ((k : Int) < (hs.length : Int)) = True := eq_true (by omega)
      have eS := hsG_at hs k h
      rw [dropH h] at hV
      generalize hs.getD k h0 = x at *
      have cP := gPushZ y1 y2 m hm x st s sq sw sv so 0 F fr dn hd [] Z S out (by simp) rfl
      simp +contextual -implicitDefEqProofs (maxSteps := 2000000) (disch := omega) only [↓lenV, binV, optV, ↓loadV, ↓storeV, ↓fieldAddrV, ↓indexAddrV, ↓allocV, ↓boxV, ↓buildV, ↓sliceV, ↓nilV, bound, cutTag, hiTag, fillG, place, GVal.cells, GVal.ofConst, ↓resV, resG, ↓reduceIte, reduceEqDiff, reduceAdd, reduceSub, reduceLeDiff, reduceCtorEq, ↓makeMapV, aggV, Tag.cap, GVal.solid, Nat.reduceBEq, reduceMul, reduceLT, vcA, ↓vcB, vcC, fbFy, e38, setO_3, setO_4, setO_5, setO_6, setO_7, setO_8, hsG_len, d0, eS, vcD, v32]
      refine ⟨by omega, fun u => ?_⟩
      refine (GCalls.tail cP (by rintro g O' ⟨_, _, rfl, rfl⟩; split <;> exact ⟨rfl, by simp⟩) rfl (by simp) [.row u 32 [bytesG x.1]]).mono ?_
      rintro g O' ⟨_, ⟨sv2, Z2, rfl, rfl⟩, rfl⟩
      have hT1 : ∃ T1, VisL m dn (hs.drop (k + 1)) T1 T ∧ (if pushed m dn S x = true then FinS m dn [(x, parsM m x)] (S ++ [x], out) T1 else T1 = (S, out)) := by
        cases hp : pushed m dn S x with
        | false => exact ⟨_, hV.inv_skip hp, by rw [if_neg (by simp)]⟩
        | true =>
          obtain ⟨so1, hV1, hV2⟩ := hV.inv_go hp
          exact ⟨_, hV2, by rw [if_pos rfl]; exact ⟨so1, hV1, rfl⟩⟩
      obtain ⟨T1, hV2, hF⟩ := hT1
      simp +contextual -implicitDefEqProofs (maxSteps := 2000000) (disch := omega) only [↓lenV, binV, optV, ↓loadV, ↓storeV, ↓fieldAddrV, ↓indexAddrV, ↓allocV, ↓boxV, ↓buildV, ↓sliceV, ↓nilV, bound, cutTag, hiTag, fillG, place, GVal.cells, GVal.ofConst, ↓resV, resG, ↓reduceIte, reduceEqDiff, reduceAdd, reduceSub, reduceLeDiff, reduceCtorEq, ↓makeMapV, aggV, Tag.cap, GVal.solid, Nat.reduceBEq, reduceMul, reduceLT, vcA, ↓vcB, vcC, fbFy, e38, setO_3, setO_4, setO_5, setO_6, setO_7, setO_8, vcD, v32]
      refine vcSLoop_by (ι := { p : ((List Cm × List Cm) × (List Hs × List Hs)) × (Nat × Nat) // FinS m dn p.1.1.1.reverse p.1.2 T1 ∧ SInv m p.1.2.1 p.1.2.2 p.1.1.1.length }) (fun p => ⟨[.ptr 0 st 0 0, .slice (hsG hs) th, (.func (.func F) [fr] [])] ++ List.replicate 4 .any ++ [.ptr 5 sw 0 0] ++ List.replicate 9 .any ++ [.slice (hsG hs) th, .int .i64 hs.length, .int .i64 (k : Nat)] ++ List.replicate 19 .any, wObjZ y1 y2 st s m sq sw p.1.2.1 p.1.2.2 p.1.1.1.1.length (.func (.func F) [fr] []) p.1.1.1.1 p.1.1.1.2 p.1.1.2.1 p.1.1.2.2⟩) (fun p => wMu m p.1.1.2.1 p.1.1.1.1) ?_ ?_
      · cases hp : pushed m dn S x with
        | false =>
          rw [hp, if_neg (by simp)] at hF
          exact Into.first ⟨((([], Z2), (S, out)), (sv2, so)), hF, hI⟩ ⟨[.row u 32 [bytesG x.1]], by rw [if_neg (by simp)]; rfl⟩ (by simp [WL, leG_self, leG_any])
        | true =>
          rw [hp, if_pos rfl] at hF
          exact Into.first ⟨((([(x, parsM m x)], Z2), (S ++ [x], out)), (sv2, so)), hF, hI.push hp⟩ ⟨[.row u 32 [bytesG x.1]], by rw [if_pos rfl]; rfl⟩ (by simp [WL, leG_self, leG_any])
      · rintro ⟨⟨⟨⟨K, Z3⟩, ⟨S3, out3⟩⟩, ⟨sv3, so3⟩⟩, hF3, hI3⟩
        change FinS m dn K.reverse (S3, out3) T1 at hF3
        change SInv m S3 out3 K.length at hI3
        have hS3 := hI3.le
        have hO3 := hI3.len
        rcases List.eq_nil_or_concat K with rfl | ⟨K0, y, e⟩
        · simp +contextual -implicitDefEqProofs (maxSteps := 2000000) (disch := omega) only [↓lenV, binV, optV, ↓loadV, ↓storeV, ↓fieldAddrV, ↓indexAddrV, ↓allocV, ↓boxV, ↓buildV, ↓sliceV, ↓nilV, bound, cutTag, hiTag, fillG, place, GVal.cells, GVal.ofConst, ↓resV, resG, ↓reduceIte, reduceEqDiff, reduceAdd, reduceSub, reduceLeDiff, reduceCtorEq, ↓makeMapV, aggV, Tag.cap, GVal.solid, Nat.reduceBEq, reduceMul, reduceLT, vcA, ↓vcB, vcC, fbFy, e38, setO_3, setO_4, setO_5, setO_6, setO_7, setO_8, Int.lt_irrefl, List.length_nil, Int.natCast_zero, vcD, v32]
          rw [List.reverse_nil] at hF3
          rw [FinS] at hF3
          rw [hF3] at hV2
          exact Into.at ⟨(((k + 1, Z3), (S3, out3)), (sv3, so3)), by show k + 1 ≤ _; omega, hV2, hI3⟩ (by show _ < _; simp; omega) ⟨[], rfl⟩ (by simp [WL, leG_self, leG_any, leG_int])
        · rw [List.concat_eq_append] at e
          subst e
          obtain ⟨y, ps⟩ := y
          rw [List.reverse_append, List.reverse_singleton, List.singleton_append] at hF3
          obtain ⟨so1, hVp, hF4⟩ := hF3
          have dK : ((0 : Int) < (K0.length : Int) + 1) = True := eq_true (by omega)
          have hKl : K0.length + 1 ≤ 10000 := by rw [List.length_append, List.length_singleton] at hO3; omega
          cases ps with
          | nil =>
            have e1 := hVp.inv_nil
            subst e1
            have cS := gStep0Z y1 y2 m st s sq sw sv3 so3 K0.length (.func (.func F) [fr] []) K0 Z3 y S3 out3 (by omega) (by omega) rfl
            simp +contextual -implicitDefEqProofs (maxSteps := 2000000) (disch := omega) only [↓lenV, binV, optV, ↓loadV, ↓storeV, ↓fieldAddrV, ↓indexAddrV, ↓allocV, ↓boxV, ↓buildV, ↓sliceV, ↓nilV, bound, cutTag, hiTag, fillG, place, GVal.cells, GVal.ofConst, ↓resV, resG, ↓reduceIte, reduceEqDiff, reduceAdd, reduceSub, reduceLeDiff, reduceCtorEq, ↓makeMapV, aggV, Tag.cap, GVal.solid, Nat.reduceBEq, reduceMul, reduceLT, vcA, ↓vcB, vcC, fbFy, e38, setO_3, setO_4, setO_5, setO_6, setO_7, setO_8, dK, List.length_append, List.length_cons, List.length_nil, List.length_singleton, vcD, v32]
            refine cS.mono ?_
            rintro g O' ⟨so4, rfl, rfl⟩
            simp +contextual -implicitDefEqProofs (maxSteps := 2000000) (disch := omega) only [↓lenV, binV, optV, ↓loadV, ↓storeV, ↓fieldAddrV, ↓indexAddrV, ↓allocV, ↓boxV, ↓buildV, ↓sliceV, ↓nilV, bound, cutTag, hiTag, fillG, place, GVal.cells, GVal.ofConst, ↓resV, resG, ↓reduceIte, reduceEqDiff, reduceAdd, reduceSub, reduceLeDiff, reduceCtorEq, ↓makeMapV, aggV, Tag.cap, GVal.solid, Nat.reduceBEq, reduceMul, reduceLT, vcA, ↓vcB, vcC, fbFy, e38, setO_3, setO_4, setO_5, setO_6, setO_7, setO_8, vcD, v32]
            refine Into.at ⟨(((K0, (y, []) :: Z3), (S3, out3 ++ [y])), (sv3, so4)), hF4, ⟨hI3.nodup, hI3.keys, ?_⟩⟩ ?_ ⟨[], rfl⟩ (by simp [WL, leG_self, leG_any, leG_int])
            · show (out3 ++ [y]).length + K0.length ≤ S3.length
              rw [List.length_append, List.length_singleton] at hO3 ⊢; omega
            · show wMu m S3 K0 < wMu m S3 (K0 ++ [(y, [])])
              simp [wMu]
          | cons p r =>
            have cS := gStep1Z y1 y2 m hm st s sq sw sv3 so3 K0.length F fr dn hd K0 Z3 y p r S3 out3 (by omega) rfl
            have hpl := hm.pars p
            simp +contextual -implicitDefEqProofs (maxSteps := 2000000) (disch := omega) only [↓lenV, binV, optV, ↓loadV, ↓storeV, ↓fieldAddrV, ↓indexAddrV, ↓allocV, ↓boxV, ↓buildV, ↓sliceV, ↓nilV, bound, cutTag, hiTag, fillG, place, GVal.cells, GVal.ofConst, ↓resV, resG, ↓reduceIte, reduceEqDiff, reduceAdd, reduceSub, reduceLeDiff, reduceCtorEq, ↓makeMapV, aggV, Tag.cap, GVal.solid, Nat.reduceBEq, reduceMul, reduceLT, vcA, ↓vcB, vcC, fbFy, e38, setO_3, setO_4, setO_5, setO_6, setO_7, setO_8, dK, List.length_append, List.length_cons, List.length_nil, List.length_singleton, vcD, v32]
            refine cS.mono ?_
            rintro g O' ⟨sv4, Z4, rfl, rfl⟩
            cases hp : pushed m dn S3 p with
            | false =>
              have hVr := hVp.inv_skip hp
              simp +contextual -implicitDefEqProofs (maxSteps := 2000000) (disch := omega) only [↓lenV, binV, optV, ↓loadV, ↓storeV, ↓fieldAddrV, ↓indexAddrV, ↓allocV, ↓boxV, ↓buildV, ↓sliceV, ↓nilV, bound, cutTag, hiTag, fillG, place, GVal.cells, GVal.ofConst, ↓resV, resG, ↓reduceIte, reduceEqDiff, reduceAdd, reduceSub, reduceLeDiff, reduceCtorEq, ↓makeMapV, aggV, Tag.cap, GVal.solid, Nat.reduceBEq, reduceMul, reduceLT, vcA, ↓vcB, vcC, fbFy, e38, setO_3, setO_4, setO_5, setO_6, setO_7, setO_8, Bool.false_eq_true, if_false, vcD, v32]
              refine Into.at ⟨(((K0 ++ [(y, r)], Z4), (S3, out3)), (sv4, so3)), ?_, ⟨hI3.nodup, hI3.keys, ?_⟩⟩ ?_ ⟨[], by simp⟩ (by simp [WL, leG_self, leG_any, leG_int])
              · show FinS m dn (K0 ++ [(y, r)]).reverse (S3, out3) T1
                rw [List.reverse_append, List.reverse_singleton, List.singleton_append]
                exact ⟨so1, hVr, hF4⟩
              · show out3.length + (K0 ++ [(y, r)]).length ≤ S3.length
                rw [List.length_append, List.length_singleton] at hO3 ⊢; exact hO3
              · show wMu m S3 (K0 ++ [(y, r)]) < wMu m S3 (K0 ++ [(y, p :: r)])
                simp [wMu]
            | true =>
              obtain ⟨so2, hVq, hVr⟩ := hVp.inv_go hp
              have hIp := hI3.push hp
              have hIl := hIp.le
              simp +contextual -implicitDefEqProofs (maxSteps := 2000000) (disch := omega) only [↓lenV, binV, optV, ↓loadV, ↓storeV, ↓fieldAddrV, ↓indexAddrV, ↓allocV, ↓boxV, ↓buildV, ↓sliceV, ↓nilV, bound, cutTag, hiTag, fillG, place, GVal.cells, GVal.ofConst, ↓resV, resG, ↓reduceIte, reduceEqDiff, reduceAdd, reduceSub, reduceLeDiff, reduceCtorEq, ↓makeMapV, aggV, Tag.cap, GVal.solid, Nat.reduceBEq, reduceMul, reduceLT, vcA, ↓vcB, vcC, fbFy, e38, setO_3, setO_4, setO_5, setO_6, setO_7, setO_8, if_true, vcD, v32]
              refine Into.at ⟨(((K0 ++ [(y, r)] ++ [(p, parsM m p)], Z4), (S3 ++ [p], out3)), (sv4, so3)), ?_, ⟨hIp.nodup, hIp.keys, ?_⟩⟩ ?_ ⟨[], by simp⟩ (by simp [WL, leG_self, leG_any, leG_int])
              · show FinS m dn (K0 ++ [(y, r)] ++ [(p, parsM m p)]).reverse (S3 ++ [p], out3) T1
                rw [List.reverse_append, List.reverse_singleton, List.singleton_append, List.reverse_append, List.reverse_singleton, List.singleton_append]
                exact ⟨so2, hVq, so1, hVr, hF4⟩
              · have := hIp.len
                show out3.length + (K0 ++ [(y, r)] ++ [(p, parsM m p)]).length ≤ (S3 ++ [p]).length
                rw [List.length_append, List.length_singleton] at this ⊢
                rw [List.length_append, List.length_singleton] at this ⊢
                rw [List.length_append, List.length_singleton]
                omega
              · show wMu m (S3 ++ [p]) (K0 ++ [(y, r)] ++ [(p, parsM m p)]) < wMu m S3 (K0 ++ [(y, p :: r)])
                rw [List.length_append, List.length_singleton] at hIl
                simp [wMu]
                omega
    · have d0 : ((k : Int) < (hs.length : Int)) = False := eq_false (by omega)
      rw [List.drop_of_length_le (by omega)] at hV
      have eT := hV.inv_nil
      subst eT
      simp +contextual -implicitDefEqProofs (maxSteps := 2000000) (disch := omega) only [↓lenV, binV, optV, ↓loadV, ↓storeV, ↓fieldAddrV, ↓indexAddrV, ↓allocV, ↓boxV, ↓buildV, ↓sliceV, ↓nilV, bound, cutTag, hiTag, fillG, place, GVal.cells, GVal.ofConst, ↓resV, resG, ↓reduceIte, reduceEqDiff, reduceAdd, reduceSub, reduceLeDiff, reduceCtorEq, ↓makeMapV, aggV, Tag.cap, GVal.solid, Nat.reduceBEq, reduceMul, reduceLT, vcA, ↓vcB, vcC, fbFy, e38, setO_3, setO_4, setO_5, setO_6, setO_7, setO_8, d0, vcD, v32]
      exact ⟨.slice (hsG out) .none, gObj st s m ++ [y1, y2], _, rfl, by rw [leA_slice], rfl, rfl⟩
end Gv.Tryz
/- Contracts: order's push and step, where the function that tells who is done reads two objects more. -/
set_option linter.unusedVariables false
set_option linter.unusedSimpArgs false
set_option maxRecDepth 20000
set_option maxHeartbeats 4000000
namespace Gv.Tryz
open Go Gv Go.Proofs
open Nat (reduceEqDiff reduceAdd reduceSub reduceLeDiff reduceMul reduceLT)
abbrev wObjY (y1 y2 : GObj) (st s : Nat) (m : GM) (sq sw sv so n : Nat) (dg : GVal) (K Z : List Cm) (S out : List Hs) : List GObj :=
  [.row st 1 [[.map 1 s]], .map s (kvG encL m), y1, y2, .map sq (kvG encB (setM S)), .row sw 5 [[.ptr 0 st 0 0, dg, .map 4 sq, .own 6 sv 0 n, .slice (hsG out) (.tok 7 so)]], .row sv 33 (csG (K ++ Z)), .tok so 32]
abbrev DoneY (y1 y2 : GObj) (st s : Nat) (m : GM) (F : FuncId) (caps : List GVal) (h : Hs) (b : Bool) : Prop := ∀ X : List GObj, GCalls Tryz.prog F (.agg (bytesG h.1) :: caps) (.row st 1 [[.map 1 s]] :: .map s (kvG encL m) :: y1 :: y2 :: X) (fun g O' => g = .bool b ∧ O' = .row st 1 [[.map 1 s]] :: .map s (kvG encL m) :: y1 :: y2 :: X)
theorem gPush1Y (y1 y2 : GObj) (m : GM) (hm : GMOK m) (h : Hs) (st s sq sw sv so n : Nat) (dg : GVal) (K Z : List Cm) (S out : List Hs) (hl : look m h = none) (hn : n = K.length) :
    GCalls Tryz.prog 73 [.ptr 5 sw 0 0, .agg (bytesG h.1)] (wObjY y1 y2 st s m sq sw sv so n dg K Z S out) (fun g O' => g = .tuple [] ∧ O' = wObjY y1 y2 st s m sq sw sv so n dg K Z S out) := by
  subst hn
  have c := fun X => gParK m h st s (by have := hm.pars h; omega) X
  simp only [hl, Option.isSome_none] at c
  refine h73.calls mixS (by simp) ?_
  simp only [gstart, s73, List.cons_append, List.nil_append, List.length_cons, List.length_nil, reduceAdd, reduceSub, List.replicate_succ, List.replicate_zero]
  simp +contextual -implicitDefEqProofs (maxSteps := 2000000) (disch := omega) only [drawC, drawK, keepT, binV, ↓unV, ↓loadV, ↓storeV, ↓fieldAddrV, ↓boxV, ↓buildV, ↓buildSliceV, ↓nilV, ↓appendV, ↓srcV, fillG, fillE, place, GVal.cells, GVal.ofConst, ↓resV, resG, ↓reduceIte, reduceEqDiff, reduceAdd, reduceSub, reduceLeDiff, reduceCtorEq, ↓asrcV, ↓lookupV, ↓mapUpdateV, keyOk, keyCells, pairG, aggV, Tag.cap, GVal.solid, Nat.reduceBEq, reduceMul, reduceLT, vcA, ↓vcB, vcC, fbFy, e73, vcD, v32]
  refine (c _).mono ?_
  rintro g O' ⟨rfl, rfl⟩
  simp +contextual -implicitDefEqProofs (maxSteps := 2000000) (disch := omega) only [drawC, drawK, keepT, binV, ↓unV, ↓loadV, ↓storeV, ↓fieldAddrV, ↓boxV, ↓buildV, ↓buildSliceV, ↓nilV, ↓appendV, ↓srcV, fillG, fillE, place, GVal.cells, GVal.ofConst, ↓resV, resG, ↓reduceIte, reduceEqDiff, reduceAdd, reduceSub, reduceLeDiff, reduceCtorEq, ↓asrcV, ↓lookupV, ↓mapUpdateV, keyOk, keyCells, pairG, aggV, Tag.cap, GVal.solid, Nat.reduceBEq, reduceMul, reduceLT, vcA, ↓vcB, vcC, fbFy, e73, setO_3, setO_4, setO_5, setO_6, setO_7, setO_8, kfind_h, vcD, v32]
theorem gPush2Y (y1 y2 : GObj) (m : GM) (hm : GMOK m) (h : Hs) (st s sq sw sv so n : Nat) (dg : GVal) (K Z : List Cm) (S out : List Hs) (l : List Hs) (hl : look m h = some l) (hS : h ∈ S) (hn : n = K.length) :
    GCalls Tryz.prog 73 [.ptr 5 sw 0 0, .agg (bytesG h.1)] (wObjY y1 y2 st s m sq sw sv so n dg K Z S out) (fun g O' => g = .tuple [] ∧ O' = wObjY y1 y2 st s m sq sw sv so n dg K Z S out) := by
  subst hn
  have c := fun X => gParK m h st s (by have := hm.pars h; omega) X
  simp only [hl, Option.isSome_some, parsM_some hl] at c
  obtain ⟨i, hi, hv, _⟩ := look_idx encB (setM S) h true (by rw [look_set, if_pos hS])
  refine h73.calls mixS (by simp) ?_
  simp only [gstart, s73, List.cons_append, List.nil_append, List.length_cons, List.length_nil, reduceAdd, reduceSub, List.replicate_succ, List.replicate_zero]
  simp +contextual -implicitDefEqProofs (maxSteps := 2000000) (disch := omega) only [drawC, drawK, keepT, binV, ↓unV, ↓loadV, ↓storeV, ↓fieldAddrV, ↓boxV, ↓buildV, ↓buildSliceV, ↓nilV, ↓appendV, ↓srcV, fillG, fillE, place, GVal.cells, GVal.ofConst, ↓resV, resG, ↓reduceIte, reduceEqDiff, reduceAdd, reduceSub, reduceLeDiff, reduceCtorEq, ↓asrcV, ↓lookupV, ↓mapUpdateV, keyOk, keyCells, pairG, aggV, Tag.cap, GVal.solid, Nat.reduceBEq, reduceMul, reduceLT, vcA, ↓vcB, vcC, fbFy, e73, vcD, v32]
  refine (c _).mono ?_
  rintro g O' ⟨rfl, rfl⟩
  simp +contextual -implicitDefEqProofs (maxSteps := 2000000) (disch := omega) only [drawC, drawK, keepT, binV, ↓unV, ↓loadV, ↓storeV, ↓fieldAddrV, ↓boxV, ↓buildV, ↓buildSliceV, ↓nilV, ↓appendV, ↓srcV, fillG, fillE, place, GVal.cells, GVal.ofConst, ↓resV, resG, ↓reduceIte, reduceEqDiff, reduceAdd, reduceSub, reduceLeDiff, reduceCtorEq, ↓asrcV, ↓lookupV, ↓mapUpdateV, keyOk, keyCells, pairG, aggV, Tag.cap, GVal.solid, Nat.reduceBEq, reduceMul, reduceLT, vcA, ↓vcB, vcC, fbFy, e73, setO_3, setO_4, setO_5, setO_6, setO_7, setO_8, kfind_h, hi, hv, vcD, v32]
theorem gPush3Y (y1 y2 : GObj) (m : GM) (hm : GMOK m) (h : Hs) (st s sq sw sv so n : Nat) (F : FuncId) (caps : List GVal) (K Z : List Cm) (S out : List Hs) (l : List Hs) (hl : look m h = some l) (hS : h ∉ S) (hF : DoneY y1 y2 st s m F caps h true) (hn : n = K.length) :
    GCalls Tryz.prog 73 [.ptr 5 sw 0 0, .agg (bytesG h.1)] (wObjY y1 y2 st s m sq sw sv so n (.func (.func F) [] caps) K Z S out) (fun g O' => g = .tuple [] ∧ O' = wObjY y1 y2 st s m sq sw sv so n (.func (.func F) [] caps) K Z S out) := by
  subst hn
  have c := fun X => gParK m h st s (by have := hm.pars h; omega) X
  simp only [hl, Option.isSome_some, parsM_some hl] at c
  obtain ⟨hi, hw⟩ := look_none encB (setM S) h (by rw [look_set, if_neg hS])
  have hw := hw true
  rw [mset_set S h hS] at hw
  refine h73.calls mixS (by simp) ?_
  simp only [gstart, s73, List.cons_append, List.nil_append, List.length_cons, List.length_nil, reduceAdd, reduceSub, List.replicate_succ, List.replicate_zero]
  simp +contextual -implicitDefEqProofs (maxSteps := 2000000) (disch := omega) only [drawC, drawK, keepT, binV, ↓unV, ↓loadV, ↓storeV, ↓fieldAddrV, ↓boxV, ↓buildV, ↓buildSliceV, ↓nilV, ↓appendV, ↓srcV, fillG, fillE, place, GVal.cells, GVal.ofConst, ↓resV, resG, ↓reduceIte, reduceEqDiff, reduceAdd, reduceSub, reduceLeDiff, reduceCtorEq, ↓asrcV, ↓lookupV, ↓mapUpdateV, keyOk, keyCells, pairG, aggV, Tag.cap, GVal.solid, Nat.reduceBEq, reduceMul, reduceLT, vcA, ↓vcB, vcC, fbFy, e73, vcD, v32]
  refine (c _).mono ?_
  rintro g O' ⟨rfl, rfl⟩
  simp +contextual -implicitDefEqProofs (maxSteps := 2000000) (disch := omega) only [drawC, drawK, keepT, binV, ↓unV, ↓loadV, ↓storeV, ↓fieldAddrV, ↓boxV, ↓buildV, ↓buildSliceV, ↓nilV, ↓appendV, ↓srcV, fillG, fillE, place, GVal.cells, GVal.ofConst, ↓resV, resG, ↓reduceIte, reduceEqDiff, reduceAdd, reduceSub, reduceLeDiff, reduceCtorEq, ↓asrcV, ↓lookupV, ↓mapUpdateV, keyOk, keyCells, pairG, aggV, Tag.cap, GVal.solid, Nat.reduceBEq, reduceMul, reduceLT, vcA, ↓vcB, vcC, fbFy, e73, setO_3, setO_4, setO_5, setO_6, setO_7, setO_8, kfind_h, hi, hw, vcD, v32]
  refine (hF _).mono ?_
  rintro g O' ⟨rfl, rfl⟩
  simp +contextual -implicitDefEqProofs (maxSteps := 2000000) (disch := omega) only [drawC, drawK, keepT, binV, ↓unV, ↓loadV, ↓storeV, ↓fieldAddrV, ↓boxV, ↓buildV, ↓buildSliceV, ↓nilV, ↓appendV, ↓srcV, fillG, fillE, place, GVal.cells, GVal.ofConst, ↓resV, resG, ↓reduceIte, reduceEqDiff, reduceAdd, reduceSub, reduceLeDiff, reduceCtorEq, ↓asrcV, ↓lookupV, ↓mapUpdateV, keyOk, keyCells, pairG, aggV, Tag.cap, GVal.solid, Nat.reduceBEq, reduceMul, reduceLT, vcA, ↓vcB, vcC, fbFy, e73, setO_3, setO_4, setO_5, setO_6, setO_7, setO_8, kfind_h, csG_len, all_csG, hi, hw, vcD, v33, v32]
theorem gPush4Y (y1 y2 : GObj) (m : GM) (hm : GMOK m) (h : Hs) (st s sq sw sv so n : Nat) (F : FuncId) (caps : List GVal) (K Z : List Cm) (S out : List Hs) (l : List Hs) (hl : look m h = some l) (hS : h ∉ S) (hF : DoneY y1 y2 st s m F caps h false) (hK : K.length ≤ 1000000) (hn : n = K.length) :
    GCalls Tryz.prog 73 [.ptr 5 sw 0 0, .agg (bytesG h.1)] (wObjY y1 y2 st s m sq sw sv so n (.func (.func F) [] caps) K Z S out) (fun g O' => ∃ sv', g = .tuple [] ∧ O' = wObjY y1 y2 st s m sq sw sv' so (n + 1) (.func (.func F) [] caps) (K ++ [(h, l)]) [] (S ++ [h]) out) := by
  subst hn
  have c := fun X => gParK m h st s (by have := hm.pars h; omega) X
  simp only [hl, Option.isSome_some, parsM_some hl] at c
  obtain ⟨hi, hw⟩ := look_none encB (setM S) h (by rw [look_set, if_neg hS])
  have hw := hw true
  rw [mset_set S h hS] at hw
  refine h73.calls mixS (by simp) ?_
  simp only [gstart, s73, List.cons_append, List.nil_append, List.length_cons, List.length_nil, reduceAdd, reduceSub, List.replicate_succ, List.replicate_zero]
  simp +contextual -implicitDefEqProofs (maxSteps := 2000000) (disch := omega) only [drawC, drawK, keepT, binV, ↓unV, ↓loadV, ↓storeV, ↓fieldAddrV, ↓boxV, ↓buildV, ↓buildSliceV, ↓nilV, ↓appendV, ↓srcV, fillG, fillE, place, GVal.cells, GVal.ofConst, ↓resV, resG, ↓reduceIte, reduceEqDiff, reduceAdd, reduceSub, reduceLeDiff, reduceCtorEq, ↓asrcV, ↓lookupV, ↓mapUpdateV, keyOk, keyCells, pairG, aggV, Tag.cap, GVal.solid, Nat.reduceBEq, reduceMul, reduceLT, vcA, ↓vcB, vcC, fbFy, e73, vcD, v32]
  refine (c _).mono ?_
  rintro g O' ⟨rfl, rfl⟩
  simp +contextual -implicitDefEqProofs (maxSteps := 2000000) (disch := omega) only [drawC, drawK, keepT, binV, ↓unV, ↓loadV, ↓storeV, ↓fieldAddrV, ↓boxV, ↓buildV, ↓buildSliceV, ↓nilV, ↓appendV, ↓srcV, fillG, fillE, place, GVal.cells, GVal.ofConst, ↓resV, resG, ↓reduceIte, reduceEqDiff, reduceAdd, reduceSub, reduceLeDiff, reduceCtorEq, ↓asrcV, ↓lookupV, ↓mapUpdateV, keyOk, keyCells, pairG, aggV, Tag.cap, GVal.solid, Nat.reduceBEq, reduceMul, reduceLT, vcA, ↓vcB, vcC, fbFy, e73, setO_3, setO_4, setO_5, setO_6, setO_7, setO_8, kfind_h, hi, hw, vcD, v32]
  refine (hF _).mono ?_
  rintro g O' ⟨rfl, rfl⟩
  simp +contextual -implicitDefEqProofs (maxSteps := 2000000) (disch := omega) only [drawC, drawK, keepT, binV, ↓unV, ↓loadV, ↓storeV, ↓fieldAddrV, ↓boxV, ↓buildV, ↓buildSliceV, ↓nilV, ↓appendV, ↓srcV, fillG, fillE, place, GVal.cells, GVal.ofConst, ↓resV, resG, ↓reduceIte, reduceEqDiff, reduceAdd, reduceSub, reduceLeDiff, reduceCtorEq, ↓asrcV, ↓lookupV, ↓mapUpdateV, keyOk, keyCells, pairG, aggV, Tag.cap, GVal.solid, Nat.reduceBEq, reduceMul, reduceLT, vcA, ↓vcB, vcC, fbFy, e73, setO_3, setO_4, setO_5, setO_6, setO_7, setO_8, kfind_h, csG_len, all_csG, hi, hw, vcD, v33, v32]
  refine ⟨by simp, by omega, by omega, fun v => ⟨v, ?_⟩⟩
  rw [take_csG]
  simp [csG_app, csG_one, comG]
theorem gPushY (y1 y2 : GObj) (m : GM) (hm : GMOK m) (h : Hs) (st s sq sw sv so n : Nat) (F : FuncId) (caps : List GVal) (dn : Hs → Bool) (hd : ∀ h, DoneY y1 y2 st s m F caps h (dn h)) (K Z : List Cm) (S out : List Hs) (hK : K.length ≤ 1000000) (hn : n = K.length) :
    GCalls Tryz.prog 73 [.ptr 5 sw 0 0, .agg (bytesG h.1)] (wObjY y1 y2 st s m sq sw sv so n (.func (.func F) [] caps) K Z S out) (fun g O' => ∃ sv' Z', g = .tuple [] ∧ O' = if pushed m dn S h = true then wObjY y1 y2 st s m sq sw sv' so (n + 1) (.func (.func F) [] caps) (K ++ [(h, parsM m h)]) Z' (S ++ [h]) out else wObjY y1 y2 st s m sq sw sv' so n (.func (.func F) [] caps) K Z' S out) := by
  have stay : pushed m dn S h = false → GCalls Tryz.prog 73 [.ptr 5 sw 0 0, .agg (bytesG h.1)] (wObjY y1 y2 st s m sq sw sv so n (.func (.func F) [] caps) K Z S out) (fun g O' => g = .tuple [] ∧ O' = wObjY y1 y2 st s m sq sw sv so n (.func (.func F) [] caps) K Z S out) →
      GCalls Tryz.prog 73 [.ptr 5 sw 0 0, .agg (bytesG h.1)] (wObjY y1 y2 st s m sq sw sv so n (.func (.func F) [] caps) K Z S out) (fun g O' => ∃ sv' Z', g = .tuple [] ∧ O' = if pushed m dn S h = true then wObjY y1 y2 st s m sq sw sv' so (n + 1) (.func (.func F) [] caps) (K ++ [(h, parsM m h)]) Z' (S ++ [h]) out else wObjY y1 y2 st s m sq sw sv' so n (.func (.func F) [] caps) K Z' S out) := fun hp hc => by
    rw [hp]
    refine hc.mono ?_
    rintro g O' ⟨rfl, rfl⟩
    exact ⟨sv, Z, rfl, by rw [if_neg (by simp)]⟩
  cases hl : look m h with
  | none => exact stay (by unfold pushed; rw [hl]; rfl) (gPush1Y y1 y2 m hm h st s sq sw sv so n (.func (.func F) [] caps) K Z S out hl hn)
  | some l =>
    rw [parsM_some hl]
    rw [parsM_some hl] at stay
    by_cases hS : h ∈ S
    · exact stay (by unfold pushed; rw [hl]; simp [hS]) (gPush2Y y1 y2 m hm h st s sq sw sv so n (.func (.func F) [] caps) K Z S out l hl hS hn)
    · have hF := hd h
      cases hb : dn h with
      | true =>
        rw [hb] at hF
        exact stay (by unfold pushed; rw [hl, hb]; simp) (gPush3Y y1 y2 m hm h st s sq sw sv so n F caps K Z S out l hl hS hF hn)
      | false =>
        rw [hb] at hF
        have hp : pushed m dn S h = true := by unfold pushed; rw [hl, hb]; simp [hS]
        rw [hp]
        refine (gPush4Y y1 y2 m hm h st s sq sw sv so n F caps K Z S out l hl hS hF hK hn).mono ?_
        rintro g O' ⟨sv', rfl, rfl⟩
        exact ⟨sv', [], rfl, by rw [if_pos rfl]⟩
theorem gStep1Y (y1 y2 : GObj) (m : GM) (hm : GMOK m) (st s sq sw sv so n : Nat) (F : FuncId) (caps : List GVal) (dn : Hs → Bool) (hd : ∀ h, DoneY y1 y2 st s m F caps h (dn h)) (K Z : List Cm) (x p : Hs) (r S out : List Hs) (hK : K.length ≤ 999999) (hn : n = K.length) :
    GCalls Tryz.prog 74 [.ptr 5 sw 0 0] (wObjY y1 y2 st s m sq sw sv so (n + 1) (.func (.func F) [] caps) (K ++ [(x, p :: r)]) Z S out) (fun g O' => ∃ sv' Z', g = .tuple [] ∧ O' = if pushed m dn S p = true then wObjY y1 y2 st s m sq sw sv' so (n + 2) (.func (.func F) [] caps) (K ++ [(x, r)] ++ [(p, parsM m p)]) Z' (S ++ [p]) out else wObjY y1 y2 st s m sq sw sv' so (n + 1) (.func (.func F) [] caps) (K ++ [(x, r)]) Z' S out) := by
  subst hn
  have eS : (csG (K ++ [(x, p :: r)] ++ Z)).getD K.length [] = bytesG x.1 ++ [.slice (hsG (p :: r)) .none] := by
    rw [csG_at _ _ (by simp)]
    simp [List.getD, comG]
  have d1 : ((K.length : Int) + 1 - 1).toNat = K.length := by omega
  have eH : (hsG (p :: r)).getD 0 [] = bytesG p.1 := rfl
  have d2 : ((0 : Int) < (r.length : Int) + 1) = True := eq_true (by omega)
  have eD : List.drop (Int.toNat 1) (List.take ((r.length : Int) + 1).toNat (hsG (p :: r))) = hsG r := by
    have e : ((r.length : Int) + 1).toNat = (hsG (p :: r)).length := by rw [hsG_len]; simp
    rw [e, List.take_length]; rfl
  have eW : (csG (K ++ [(x, p :: r)] ++ Z)).set K.length (bytesG x.1 ++ [.slice (hsG r) .none]) = csG (K ++ [(x, r)] ++ Z) := by
    rw [csG_app, csG_app, csG_app, csG_app, List.append_assoc, List.set_append_right _ _ (by rw [csG_len]; omega), csG_len, Nat.sub_self, List.append_assoc]
    rfl
  have cP := gPushY y1 y2 m hm p st s sq sw sv so (K.length + 1) F caps dn hd (K ++ [(x, r)]) Z S out (by simp; omega) (by simp)
  refine GCalls.dropTo ?_
  refine h74.calls mixS (by simp) ?_
  simp only [gstart, s74, List.cons_append, List.nil_append, List.length_cons, List.length_nil, reduceAdd, reduceSub, List.replicate_succ, List.replicate_zero]
  simp +contextual -implicitDefEqProofs (maxSteps := 2000000) (disch := omega) only [drawC, drawK, keepT, ↓lenV, binV, optV, ↓loadV, ↓storeV, ↓fieldAddrV, ↓indexAddrV, ↓allocV, ↓buildSliceV, ↓sliceV, ↓nilV, ↓appendV, ↓srcV, bound, cutTag, hiTag, fillE, GVal.cells, GVal.ofConst, ↓resV, resG, ↓reduceIte, reduceEqDiff, reduceAdd, reduceSub, reduceLeDiff, reduceCtorEq, ↓asrcV, Tag.cap, GVal.solid, Nat.reduceBEq, reduceMul, reduceLT, vcA, ↓vcB, vcC, fbFy, e74, kfind_h, csG_len, all_csG, eS, eH, d1, d2, eD, eW, all_hsG, toNat0, setO_3, setO_4, setO_5, setO_6, setO_7, setO_8, true_imp_iff, Nat.sub_zero, List.drop_zero, hsG_len, List.length_append, List.length_cons, List.length_nil, List.length_singleton, vcD, v33, v32]
  refine ⟨by omega, by omega, by omega, by omega, by omega, by omega, fun u => ⟨by omega, by omega, by omega, by omega, by omega, ?_⟩⟩
  refine (GCalls.tail cP (by rintro g O' ⟨_, _, rfl, rfl⟩; split <;> exact ⟨rfl, by simp⟩) rfl (by simp) [.row u 32 [bytesG p.1]]).mono ?_
  rintro g O' ⟨_, ⟨sv', Z', rfl, rfl⟩, rfl⟩
  simp +contextual -implicitDefEqProofs (maxSteps := 2000000) (disch := omega) only [drawC, drawK, keepT, ↓lenV, binV, optV, ↓loadV, ↓storeV, ↓fieldAddrV, ↓indexAddrV, ↓allocV, ↓buildSliceV, ↓sliceV, ↓nilV, ↓appendV, ↓srcV, bound, cutTag, hiTag, fillE, GVal.cells, GVal.ofConst, ↓resV, resG, ↓reduceIte, reduceEqDiff, reduceAdd, reduceSub, reduceLeDiff, reduceCtorEq, ↓asrcV, Tag.cap, GVal.solid, Nat.reduceBEq, reduceMul, reduceLT, vcA, ↓vcB, vcC, fbFy, e74, vcD]
  exact ⟨_, _, _, rfl, leA_refl _, sv', Z', rfl, rfl⟩
theorem gStep0Y (y1 y2 : GObj) (m : GM) (st s sq sw sv so n : Nat) (dg : GVal) (K Z : List Cm) (x : Hs) (S out : List Hs) (hK : K.length ≤ 999999) (ho : out.length ≤ 1000000) (hn : n = K.length) :
    GCalls Tryz.prog 74 [.ptr 5 sw 0 0] (wObjY y1 y2 st s m sq sw sv so (n + 1) dg (K ++ [(x, [])]) Z S out) (fun g O' => ∃ so', g = .tuple [] ∧ O' = wObjY y1 y2 st s m sq sw sv so' n dg K ((x, []) :: Z) S (out ++ [x])) := by
  subst hn
  have eS : (csG (K ++ [(x, [])] ++ Z)).getD K.length [] = bytesG x.1 ++ [.slice (hsG []) .none] := by
    rw [csG_at _ _ (by simp)]
    simp [List.getD, comG]
  have d1 : ((K.length : Int) + 1 - 1).toNat = K.length := by omega
  refine h74.calls mixS (by simp) ?_
  simp only [gstart, s74, List.cons_append, List.nil_append, List.length_cons, List.length_nil, reduceAdd, reduceSub, List.replicate_succ, List.replicate_zero]
  simp +contextual -implicitDefEqProofs (maxSteps := 2000000) (disch := omega) only [drawC, drawK, keepT, ↓lenV, binV, optV, ↓loadV, ↓storeV, ↓fieldAddrV, ↓indexAddrV, ↓allocV, ↓buildSliceV, ↓sliceV, ↓nilV, ↓appendV, ↓srcV, bound, cutTag, hiTag, fillE, GVal.cells, GVal.ofConst, ↓resV, resG, ↓reduceIte, reduceEqDiff, reduceAdd, reduceSub, reduceLeDiff, reduceCtorEq, ↓asrcV, Tag.cap, GVal.solid, Nat.reduceBEq, reduceMul, reduceLT, vcA, ↓vcB, vcC, fbFy, e74, kfind_h, csG_len, all_csG, eS, d1, toNat0, setO_3, setO_4, setO_5, setO_6, setO_7, setO_8, Int.lt_irrefl, false_imp_iff, true_and, Nat.sub_zero, List.drop_zero, hsG_len, all_hsG, List.length_append, List.length_cons, List.length_nil, List.length_singleton, vcD, v33, v32]
  refine ⟨by omega, by omega, by omega, by omega, by omega, by omega, by omega, fun so' => ⟨by omega, by omega, by omega, so', ?_⟩⟩
  simp [hsG_app, hsG]
end Gv.Tryz
/- Contracts: order's Walk, where the function that tells who is done reads two objects more. -/
set_option linter.unusedVariables false
set_option linter.unusedSimpArgs false
set_option maxRecDepth 20000
set_option maxHeartbeats 4000000
namespace Gv.Tryz
open Go Gv Go.Proofs
open Nat (reduceEqDiff reduceAdd reduceSub reduceLeDiff reduceMul reduceLT)
theorem gWalkY (y1 y2 : GObj) (m : GM) (hm : GMOK m) (hs : List Hs) (th : Tag) (st s : Nat) (F : FuncId) (caps : List GVal) (dn : Hs → Bool) (hF : ∀ h : Hs, DoneY y1 y2 st s m F caps h (dn h)) (T : WSt) (hT : VisL m dn hs ([], []) T) (hl : hs.length ≤ 1000000) :
    GCalls Tryz.prog 38 [.ptr 0 st 0 0, .slice (hsG hs) th, (.func (.func F) [] caps)] (gObj st s m ++ [y1, y2]) (fun g O' => g = .slice (hsG T.2) .none ∧ O' = gObj st s m ++ [y1, y2]) := by
  have hml := hm.len
  have hd := hF
  refine GCalls.dropTo ?_
  refine h38.calls mixS (by simp) ?_
  simp only [gstart, s38, List.cons_append, List.nil_append, List.length_cons, List.length_nil, reduceAdd, reduceSub, List.replicate_succ, List.replicate_zero]
  simp +contextual -implicitDefEqProofs (maxSteps := 2000000) (disch := omega) only [↓lenV, binV, optV, ↓loadV, ↓storeV, ↓fieldAddrV, ↓indexAddrV, ↓allocV, ↓boxV, ↓buildV, ↓sliceV, ↓nilV, bound, cutTag, hiTag, fillG, place, GVal.cells, GVal.ofConst, ↓resV, resG, ↓reduceIte, reduceEqDiff, reduceAdd, reduceSub, reduceLeDiff, reduceCtorEq, ↓makeMapV, aggV, Tag.cap, GVal.solid, Nat.reduceBEq, reduceMul, reduceLT, vcA, ↓vcB, vcC, fbFy, e38, hsG_len, vcD]
  refine fun sq => ⟨⟨rfl, rfl, rfl⟩, fun sw => ?_⟩
  refine vcSLoop_by (ι := { p : ((Nat × List Cm) × (List Hs × List Hs)) × (Nat × Nat) // p.1.1.1 ≤ hs.length ∧ VisL m dn (hs.drop p.1.1.1) p.1.2 T ∧ SInv m p.1.2.1 p.1.2.2 0 }) (fun p => ⟨[.ptr 0 st 0 0, .slice (hsG hs) th, (.func (.func F) [] caps)] ++ List.replicate 4 .any ++ [.ptr 5 sw 0 0] ++ List.replicate 9 .any ++ [.slice (hsG hs) th, .int .i64 hs.length, .int .i64 (p.1.1.1.1 : Nat)] ++ List.replicate 19 .any, wObjY y1 y2 st s m sq sw p.1.2.1 p.1.2.2 0 (.func (.func F) [] caps) [] p.1.1.1.2 p.1.1.2.1 p.1.1.2.2⟩) (fun p => hs.length - p.1.1.1.1) ?_ ?_
  · refine Into.cellRow 5 3 33 rfl rfl rfl rfl ?_
    simp +contextual -implicitDefEqProofs (maxSteps := 2000000) (disch := omega) only [↓lenV, binV, optV, ↓loadV, ↓storeV, ↓fieldAddrV, ↓indexAddrV, ↓allocV, ↓boxV, ↓buildV, ↓sliceV, ↓nilV, bound, cutTag, hiTag, fillG, place, GVal.cells, GVal.ofConst, ↓resV, resG, ↓reduceIte, reduceEqDiff, reduceAdd, reduceSub, reduceLeDiff, reduceCtorEq, ↓makeMapV, aggV, Tag.cap, GVal.solid, Nat.reduceBEq, reduceMul, reduceLT, vcA, ↓vcB, vcC, fbFy, e38, vcD]
    intro sv
    refine Into.cellTok 5 4 32 [] rfl rfl rfl rfl ?_
    simp +contextual -implicitDefEqProofs (maxSteps := 2000000) (disch := omega) only [↓lenV, binV, optV, ↓loadV, ↓storeV, ↓fieldAddrV, ↓indexAddrV, ↓allocV, ↓boxV, ↓buildV, ↓sliceV, ↓nilV, bound, cutTag, hiTag, fillG, place, GVal.cells, GVal.ofConst, ↓resV, resG, ↓reduceIte, reduceEqDiff, reduceAdd, reduceSub, reduceLeDiff, reduceCtorEq, ↓makeMapV, aggV, Tag.cap, GVal.solid, Nat.reduceBEq, reduceMul, reduceLT, vcA, ↓vcB, vcC, fbFy, e38, vcD]
    intro so
    exact Into.first ⟨(((0, []), ([], [])), (sv, so)), by show 0 ≤ _; omega, by simpa using hT, ⟨List.nodup_nil, by simp, by simp⟩⟩ ⟨[], rfl⟩ (by simp [WL, leG_self, leG_any, hsG_len])
  · rintro ⟨⟨⟨⟨k, Z⟩, ⟨S, out⟩⟩, ⟨sv, so⟩⟩, hk, hV, hI⟩
    change k ≤ hs.length at hk
    change VisL m dn (hs.drop k) (S, out) T at hV
    change SInv m S out 0 at hI
    have hSm := hI.le
    have hOl := hI.len
    by_cases h : k < hs.length
    · have d0 : ((k : Int) < (hs.length : Int)) = True := eq_true (by omega)
      have eS := hsG_at hs k h
      rw [dropH h] at hV
      generalize hs.getD k h0 = x at *
      have cP := gPushY y1 y2 m hm x st s sq sw sv so 0 F caps dn hd [] Z S out (by simp) rfl
      simp +contextual -implicitDefEqProofs (maxSteps := 2000000) (disch := omega) only [↓lenV, binV, optV, ↓loadV, ↓storeV, ↓fieldAddrV, ↓indexAddrV, ↓allocV, ↓boxV, ↓buildV, ↓sliceV, ↓nilV, bound, cutTag, hiTag, fillG, place, GVal.cells, GVal.ofConst, ↓resV, resG, ↓reduceIte, reduceEqDiff, reduceAdd, reduceSub, reduceLeDiff, reduceCtorEq, ↓makeMapV, aggV, Tag.cap, GVal.solid, Nat.reduceBEq, reduceMul, reduceLT, vcA, ↓vcB, vcC, fbFy, e38, setO_3, setO_4, setO_5, setO_6, setO_7, setO_8, hsG_len, d0, eS, vcD, v32]
      refine ⟨by omega, fun u => ?_⟩
      refine (GCalls.tail cP (by rintro g O' ⟨_, _, rfl, rfl⟩; split <;> exact ⟨rfl, by simp⟩) rfl (by simp) [.row u 32 [bytesG x.1]]).mono ?_
      rintro g O' ⟨_, ⟨sv2, Z2, rfl, rfl⟩, rfl⟩
      have hT1 : ∃ T1, VisL m dn (hs.drop (k + 1)) T1 T ∧ (if pushed m dn S x = true then FinS m dn [(x, parsM m x)] (S ++ [x], out) T1 else T1 = (S, out)) := by
        cases hp : pushed m dn S x with
        | false => exact ⟨_, hV.inv_skip hp, by rw [if_neg (by simp)]⟩
        | true =>
          obtain ⟨so1, hV1, hV2⟩ := hV.inv_go hp
          exact ⟨_, hV2, by rw [if_pos rfl]; exact ⟨so1, hV1, rfl⟩⟩
      obtain ⟨T1, hV2, hF⟩ := hT1
      simp +contextual -implicitDefEqProofs (maxSteps := 2000000) (disch := omega) only [↓lenV, binV, optV, ↓loadV, ↓storeV, ↓fieldAddrV, ↓indexAddrV, ↓allocV, ↓boxV, ↓buildV, ↓sliceV, ↓nilV, bound, cutTag, hiTag, fillG, place, GVal.cells, GVal.ofConst, ↓resV, resG, ↓reduceIte, reduceEqDiff, reduceAdd, reduceSub, reduceLeDiff, reduceCtorEq, ↓makeMapV, aggV, Tag.cap, GVal.solid, Nat.reduceBEq, reduceMul, reduceLT, vcA, ↓vcB, vcC, fbFy, e38, setO_3, setO_4, setO_5, setO_6, setO_7, setO_8, vcD, v32]
      refine vcSLoop_by (ι := { p : ((List Cm × List Cm) × (List Hs × List Hs)) × (Nat × Nat) // FinS m dn p.1.1.1.reverse p.1.2 T1 ∧ SInv m p.1.2.1 p.1.2.2 p.1.1.1.length }) (fun p => ⟨[.ptr 0 st 0 0, .slice (hsG hs) th, (.func (.func F) [] caps)] ++ List.replicate 4 .any ++ [.ptr 5 sw 0 0] ++ List.replicate 9 .any ++ [.slice (hsG hs) th, .int .i64 hs.length, .int .i64 (k : Nat)] ++ List.replicate 19 .any, wObjY y1 y2 st s m sq sw p.1.2.1 p.1.2.2 p.1.1.1.1.length (.func (.func F) [] caps) p.1.1.1.1 p.1.1.1.2 p.1.1.2.1 p.1.1.2.2⟩) (fun p => wMu m p.1.1.2.1 p.1.1.1.1) ?_ ?_
      · cases hp : pushed m dn S x with
        | false =>
          rw [hp, if_neg (by simp)] at hF
          exact Into.first ⟨((([], Z2), (S, out)), (sv2, so)), hF, hI⟩ ⟨[.row u 32 [bytesG x.1]], by rw [if_neg (by simp)]; rfl⟩ (by simp [WL, leG_self, leG_any])
        | true =>
          rw [hp, if_pos rfl] at hF
          exact Into.first ⟨((([(x, parsM m x)], Z2), (S ++ [x], out)), (sv2, so)), hF, hI.push hp⟩ ⟨[.row u 32 [bytesG x.1]], by rw [if_pos rfl]; rfl⟩ (by simp [WL, leG_self, leG_any])
      · rintro ⟨⟨⟨⟨K, Z3⟩, ⟨S3, out3⟩⟩, ⟨sv3, so3⟩⟩, hF3, hI3⟩
        change FinS m dn K.reverse (S3, out3) T1 at hF3
        change SInv m S3 out3 K.length at hI3
        have hS3 := hI3.le
        have hO3 := hI3.len
        rcases List.eq_nil_or_concat K with rfl | ⟨K0, y, e⟩
        · simp +contextual -implicitDefEqProofs (maxSteps := 2000000) (disch := omega) only [↓lenV, binV, optV, ↓loadV, ↓storeV, ↓fieldAddrV, ↓indexAddrV, ↓allocV, ↓boxV, ↓buildV, ↓sliceV, ↓nilV, bound, cutTag, hiTag, fillG, place, GVal.cells, GVal.ofConst, ↓resV, resG, ↓reduceIte, reduceEqDiff, reduceAdd, reduceSub, reduceLeDiff, reduceCtorEq, ↓makeMapV, aggV, Tag.cap, GVal.solid, Nat.reduceBEq, reduceMul, reduceLT, vcA, ↓vcB, vcC, fbFy, e38, setO_3, setO_4, setO_5, setO_6, setO_7, setO_8, Int.lt_irrefl, List.length_nil, Int.natCast_zero, vcD, v32]
          rw [List.reverse_nil] at hF3
          rw [FinS] at hF3
          rw [hF3] at hV2
          exact Into.at ⟨(((k + 1, Z3), (S3, out3)), (sv3, so3)), by show k + 1 ≤ _; omega, hV2, hI3⟩ (by show _ < _; simp; omega) ⟨[], rfl⟩ (by simp [WL, leG_self, leG_any, leG_int])
        · rw [List.concat_eq_append] at e
          subst e
          obtain ⟨y, ps⟩ := y
          rw [List.reverse_append, List.reverse_singleton, List.singleton_append] at hF3
          obtain ⟨so1, hVp, hF4⟩ := hF3
          have dK : ((0 : Int) < (K0.length : Int) + 1) = True := eq_true (by omega)
          have hKl : K0.length + 1 ≤ 10000 := by rw [List.length_append, List.length_singleton] at hO3; omega
          cases ps with
          | nil =>
            have e1 := hVp.inv_nil
            subst e1
            have cS := gStep0Y y1 y2 m st s sq sw sv3 so3 K0.length (.func (.func F) [] caps) K0 Z3 y S3 out3 (by omega) (by omega) rfl
            simp +contextual -implicitDefEqProofs (maxSteps := 2000000) (disch := omega) only [↓lenV, binV, optV, ↓loadV, ↓storeV, ↓fieldAddrV, ↓indexAddrV, ↓allocV, ↓boxV, ↓buildV, ↓sliceV, ↓nilV, bound, cutTag, hiTag, fillG, place, GVal.cells, GVal.ofConst, ↓resV, resG, ↓reduceIte, reduceEqDiff, reduceAdd, reduceSub, reduceLeDiff, reduceCtorEq, ↓makeMapV, aggV, Tag.cap, GVal.solid, Nat.reduceBEq, reduceMul, reduceLT, vcA, ↓vcB, vcC, fbFy, e38, setO_3, setO_4, setO_5, setO_6, setO_7, setO_8, dK, List.length_append, List.length_cons, List.length_nil, List.length_singleton, vcD, v32]
            refine cS.mono ?_
            rintro g O' ⟨so4, rfl, rfl⟩
            simp +contextual -implicitDefEqProofs (maxSteps := 2000000) (disch := omega) only [↓lenV, binV, optV, ↓loadV, ↓storeV, ↓fieldAddrV, ↓indexAddrV, ↓allocV, ↓boxV, ↓buildV, ↓sliceV, ↓nilV, bound, cutTag, hiTag, fillG, place, GVal.cells, GVal.ofConst, ↓resV, resG, ↓reduceIte, reduceEqDiff, reduceAdd, reduceSub, reduceLeDiff, reduceCtorEq, ↓makeMapV, aggV, Tag.cap, GVal.solid, Nat.reduceBEq, reduceMul, reduceLT, vcA, ↓vcB, vcC, fbFy, e38, setO_3, setO_4, setO_5, setO_6, setO_7, setO_8, vcD, v32]
            refine Into.at ⟨(((K0, (y, []) :: Z3), (S3, out3 ++ [y])), (sv3, so4)), hF4, ⟨hI3.nodup, hI3.keys, ?_⟩⟩ ?_ ⟨[], rfl⟩ (by simp [WL, leG_self, leG_any, leG_int])
            · show (out3 ++ [y]).length + K0.length ≤ S3.length
              rw [List.length_append, List.length_singleton] at hO3 ⊢; omega
            · show wMu m S3 K0 < wMu m S3 (K0 ++ [(y, [])])
              simp [wMu]
          | cons p r =>
            have cS := gStep1Y y1 y2 m hm st s sq sw sv3 so3 K0.length F caps dn hd K0 Z3 y p r S3 out3 (by omega) rfl
            have hpl := hm.pars p
            simp +contextual -implicitDefEqProofs (maxSteps := 2000000) (disch := omega) only [↓lenV, binV, optV, ↓loadV, ↓storeV, ↓fieldAddrV, ↓indexAddrV, ↓allocV, ↓boxV, ↓buildV, ↓sliceV, ↓nilV, bound, cutTag, hiTag, fillG, place, GVal.cells, GVal.ofConst, ↓resV, resG, ↓reduceIte, reduceEqDiff, reduceAdd, reduceSub, reduceLeDiff, reduceCtorEq, ↓makeMapV, aggV, Tag.cap, GVal.solid, Nat.reduceBEq, reduceMul, reduceLT, vcA, ↓vcB, vcC, fbFy, e38, setO_3, setO_4, setO_5, setO_6, setO_7, setO_8, dK, List.length_append, List.length_cons, List.length_nil, List.length_singleton, vcD, v32]
            refine cS.mono ?_
            rintro g O' ⟨sv4, Z4, rfl, rfl⟩
            cases hp : pushed m dn S3 p with
            | false =>
              have hVr := hVp.inv_skip hp
              simp +contextual -implicitDefEqProofs (maxSteps := 2000000) (disch := omega) only [↓lenV, binV, optV, ↓loadV, ↓storeV, ↓fieldAddrV, ↓indexAddrV, ↓allocV, ↓boxV, ↓buildV, ↓sliceV, ↓nilV, bound, cutTag, hiTag, fillG, place, GVal.cells, GVal.ofConst, ↓resV, resG, ↓reduceIte, reduceEqDiff, reduceAdd, reduceSub, reduceLeDiff, reduceCtorEq, ↓makeMapV, aggV, Tag.cap, GVal.solid, Nat.reduceBEq, reduceMul, reduceLT, vcA, ↓vcB, vcC, fbFy, e38, setO_3, setO_4, setO_5, setO_6, setO_7, setO_8, Bool.false_eq_true, if_false, vcD, v32]
              refine Into.at ⟨(((K0 ++ [(y, r)], Z4), (S3, out3)), (sv4, so3)), ?_, ⟨hI3.nodup, hI3.keys, ?_⟩⟩ ?_ ⟨[], by simp⟩ (by simp [WL, leG_self, leG_any, leG_int])
              · show FinS m dn (K0 ++ [(y, r)]).reverse (S3, out3) T1
                rw [List.reverse_append, List.reverse_singleton, List.singleton_append]
                exact ⟨so1, hVr, hF4⟩
              · show out3.length + (K0 ++ [(y, r)]).length ≤ S3.length
                rw [List.length_append, List.length_singleton] at hO3 ⊢; exact hO3
              · show wMu m S3 (K0 ++ [(y, r)]) < wMu m S3 (K0 ++ [(y, p :: r)])
                simp [wMu]
            | true =>
              obtain ⟨so2, hVq, hVr⟩ := hVp.inv_go hp
              have hIp := hI3.push hp
              have hIl := hIp.le
              simp +contextual -implicitDefEqProofs (maxSteps := 2000000) (disch := omega) only [↓lenV, binV, optV, ↓loadV, ↓storeV, ↓fieldAddrV, ↓indexAddrV, ↓allocV, ↓boxV, ↓buildV, ↓sliceV, ↓nilV, bound, cutTag, hiTag, fillG, place, GVal.cells, GVal.ofConst, ↓resV, resG, ↓reduceIte, reduceEqDiff, reduceAdd, reduceSub, reduceLeDiff, reduceCtorEq, ↓makeMapV, aggV, Tag.cap, GVal.solid, Nat.reduceBEq, reduceMul, reduceLT, vcA, ↓vcB, vcC, fbFy, e38, setO_3, setO_4, setO_5, setO_6, setO_7, setO_8, if_true, vcD, v32]
              refine Into.at ⟨(((K0 ++ [(y, r)] ++ [(p, parsM m p)], Z4), (S3 ++ [p], out3)), (sv4, so3)), ?_, ⟨hIp.nodup, hIp.keys, ?_⟩⟩ ?_ ⟨[], by simp⟩ (by simp [WL, leG_self, leG_any, leG_int])
              · show FinS m dn (K0 ++ [(y, r)] ++ [(p, parsM m p)]).reverse (S3 ++ [p], out3) T1
                rw [List.reverse_append, List.reverse_singleton, List.singleton_append, List.reverse_append, List.reverse_singleton, List.singleton_append]
                exact ⟨so2, hVq, so1, hVr, hF4⟩
              · have := hIp.len
                show out3.length + (K0 ++ [(y, r)] ++ [(p, parsM m p)]).length ≤ (S3 ++ [p]).length
                rw [List.length_append, List.length_singleton] at this ⊢
                rw [List.length_append, List.length_singleton] at this ⊢
                rw [List.length_append, List.length_singleton]
                omega
              · show wMu m (S3 ++ [p]) (K0 ++ [(y, r)] ++ [(p, parsM m p)]) < wMu m S3 (K0 ++ [(y, p :: r)])
                rw [List.length_append, List.length_singleton] at hIl
                simp [wMu]
                omega
    · have d0 : ((k : Int) < (hs.length : Int)) = False := eq_false (by omega)
      rw [List.drop_of_length_le (by omega)] at hV
      have eT := hV.inv_nil
      subst eT
      simp +contextual -implicitDefEqProofs (maxSteps := 2000000) (disch := omega) only [↓lenV, binV, optV, ↓loadV, ↓storeV, ↓fieldAddrV, ↓indexAddrV, ↓allocV, ↓boxV, ↓buildV, ↓sliceV, ↓nilV, bound, cutTag, hiTag, fillG, place, GVal.cells, GVal.ofConst, ↓resV, resG, ↓reduceIte, reduceEqDiff, reduceAdd, reduceSub, reduceLeDiff, reduceCtorEq, ↓makeMapV, aggV, Tag.cap, GVal.solid, Nat.reduceBEq, reduceMul, reduceLT, vcA, ↓vcB, vcC, fbFy, e38, setO_3, setO_4, setO_5, setO_6, setO_7, setO_8, d0, vcD, v32]
      exact ⟨.slice (hsG out) .none, gObj st s m ++ [y1, y2], _, rfl, by rw [leA_slice], rfl, rfl⟩
end Gv.Tryz
/- Contracts: order.Walk with numbers' own functions. -/
set_option linter.unusedVariables false
set_option linter.unusedSimpArgs false
set_option maxRecDepth 20000
set_option maxHeartbeats 4000000
namespace Gv.Tryz
open Go Gv Go.Proofs
open Nat (reduceEqDiff reduceAdd reduceSub reduceLeDiff reduceMul reduceLT)
abbrev idO2 (ti so : Nat) (n : Int) (M O : List Hs) : List GObj := [.row ti 4 [[.int .i64 n, .slice (hsG M) .none, .slice (hsG O) .none, .map 3 so]], .map so (kvG encI (ofM M O))]
theorem iMasterZ (g1 g2 : GObj) (X : List GObj) (ti so : Nat) (n : Int) (M O : List Hs) (h : Hs) : GCalls Tryz.prog 39 [.ptr 2 ti 0 0, .agg (bytesG h.1)] (g1 :: g2 :: (idO2 ti so n M O ++ X)) (fun g O' => g = .bool (masterB (ofM M O) h) ∧ O' = g1 :: g2 :: (idO2 ti so n M O ++ X)) := by
  cases e : look (ofM M O) h with
  | some v =>
    obtain ⟨i, hi, hv, _⟩ := look_idx encI (ofM M O) h v e
    have ev : masterB (ofM M O) h = decide (v < splI) := by unfold masterB; rw [e]
    rw [ev]
    refine h39.calls mixS (by simp) ?_
    simp only [gstart, s39, List.cons_append, List.nil_append, List.length_cons, List.length_nil, reduceAdd, reduceSub, List.replicate_succ, List.replicate_zero]
    simp +contextual -implicitDefEqProofs (maxSteps := 2000000) (disch := omega) only [drawC, drawK, keepT, binV, ↓loadV, ↓fieldAddrV, ↓boxV, ↓nilV, GVal.cells, GVal.ofConst, ↓resV, resG, ↓reduceIte, reduceEqDiff, reduceAdd, reduceSub, reduceLeDiff, reduceCtorEq, ↓lookupV, keyOk, keyCells, pairG, Tag.cap, GVal.solid, Nat.reduceBEq, reduceMul, reduceLT, vcA, ↓vcB, vcC, fbFy, e39, kfind_h, hi, hv, vcD, v32]
  | none =>
    obtain ⟨hi, _⟩ := look_none encI (ofM M O) h e
    have ev : masterB (ofM M O) h = false := by unfold masterB; rw [e]
    rw [ev]
    refine h39.calls mixS (by simp) ?_
    simp only [gstart, s39, List.cons_append, List.nil_append, List.length_cons, List.length_nil, reduceAdd, reduceSub, List.replicate_succ, List.replicate_zero]
    simp +contextual -implicitDefEqProofs (maxSteps := 2000000) (disch := omega) only [drawC, drawK, keepT, binV, ↓loadV, ↓fieldAddrV, ↓boxV, ↓nilV, GVal.cells, GVal.ofConst, ↓resV, resG, ↓reduceIte, reduceEqDiff, reduceAdd, reduceSub, reduceLeDiff, reduceCtorEq, ↓lookupV, keyOk, keyCells, pairG, Tag.cap, GVal.solid, Nat.reduceBEq, reduceMul, reduceLT, vcA, ↓vcB, vcC, fbFy, e39, kfind_h, hi, vcD, v32]
theorem iDone1 (g1 g2 : GObj) (X : List GObj) (ti so : Nat) (n : GVal) (M O : List Hs) (h : Hs) : GCalls Tryz.prog 44 [.agg (bytesG h.1), .ref [.ptr 2 ti 0 0]] (g1 :: g2 :: .row ti 4 [[n, .slice (hsG M) .none, .slice (hsG O) .none, .map 3 so]] :: .map so (kvG encI (ofM M O)) :: X) (fun g O' => g = .bool (look (ofM M O) h).isSome ∧ O' = g1 :: g2 :: .row ti 4 [[n, .slice (hsG M) .none, .slice (hsG O) .none, .map 3 so]] :: .map so (kvG encI (ofM M O)) :: X) := by
  cases e : look (ofM M O) h with
  | some v =>
    obtain ⟨i, hi, hv, _⟩ := look_idx encI (ofM M O) h v e
    refine h44.calls mixS (by simp) ?_
    simp only [gstart, s44, List.cons_append, List.nil_append, List.length_cons, List.length_nil, reduceAdd, reduceSub, List.replicate_succ, List.replicate_zero]
    simp +contextual -implicitDefEqProofs (maxSteps := 2000000) (disch := omega) only [drawC, drawK, keepT, ↓loadV, ↓fieldAddrV, ↓boxV, ↓nilV, GVal.cells, GVal.ofConst, ↓resV, resG, ↓reduceIte, reduceEqDiff, reduceAdd, reduceSub, reduceLeDiff, reduceCtorEq, ↓lookupV, keyOk, keyCells, pairG, Tag.cap, GVal.solid, Nat.reduceBEq, reduceMul, reduceLT, vcA, ↓vcB, vcC, fbFy, e44, kfind_h, hi, hv, Option.isSome_some, vcD, v32]
  | none =>
    obtain ⟨hi, _⟩ := look_none encI (ofM M O) h e
    refine h44.calls mixS (by simp) ?_
    simp only [gstart, s44, List.cons_append, List.nil_append, List.length_cons, List.length_nil, reduceAdd, reduceSub, List.replicate_succ, List.replicate_zero]
    simp +contextual -implicitDefEqProofs (maxSteps := 2000000) (disch := omega) only [drawC, drawK, keepT, ↓loadV, ↓fieldAddrV, ↓boxV, ↓nilV, GVal.cells, GVal.ofConst, ↓resV, resG, ↓reduceIte, reduceEqDiff, reduceAdd, reduceSub, reduceLeDiff, reduceCtorEq, ↓lookupV, keyOk, keyCells, pairG, Tag.cap, GVal.solid, Nat.reduceBEq, reduceMul, reduceLT, vcA, ↓vcB, vcC, fbFy, e44, kfind_h, hi, Option.isSome_none, vcD, v32]
theorem iWalkM (m : GM) (hm : GMOK m) (hs : List Hs) (th : Tag) (st s ti so : Nat) (n : Int) (M O : List Hs) (T : WSt) (hT : VisL m (masterB (ofM M O)) hs ([], []) T) (hl : hs.length ≤ 1000000) :
    GCalls Tryz.prog 38 [.ptr 0 st 0 0, .slice (hsG hs) th, (.func (.func 39) [.ptr 2 ti 0 0] [])] (gObj st s m ++ idO2 ti so n M O) (fun g O' => g = .slice (hsG T.2) .none ∧ O' = gObj st s m ++ idO2 ti so n M O) :=
  gWalkZ _ _ m hm hs th st s _ _ (masterB (ofM M O)) (fun h X => iMasterZ _ _ X ti so n M O h) T hT hl
theorem iWalkD (m : GM) (hm : GMOK m) (hs : List Hs) (th : Tag) (st s ti so : Nat) (n : GVal) (M O : List Hs) (T : WSt) (hT : VisL m (fun h => (look (ofM M O) h).isSome) hs ([], []) T) (hl : hs.length ≤ 1000000) :
    GCalls Tryz.prog 38 [.ptr 0 st 0 0, .slice (hsG hs) th, (.func (.func 44) [] [.ref [.ptr 2 ti 0 0]])] (gObj st s m ++ [.row ti 4 [[n, .slice (hsG M) .none, .slice (hsG O) .none, .map 3 so]], .map so (kvG encI (ofM M O))]) (fun g O' => g = .slice (hsG T.2) .none ∧ O' = gObj st s m ++ [.row ti 4 [[n, .slice (hsG M) .none, .slice (hsG O) .none, .map 3 so]], .map so (kvG encI (ofM M O))]) :=
  gWalkY _ _ m hm hs th st s _ _ (fun h => (look (ofM M O) h).isSome) (fun h X => iDone1 _ _ X ti so n M O h) T hT hl
end Gv.Tryz
/- Objects that are set aside for a while: a map whose entries are held one by one. -/
set_option linter.unusedVariables false
namespace Gv
open Go Go.MapKept Go.ChangeMaps
variable {P : Program}
structure Hid (E : Env) (O : List GObj) (w : World) (b : Nat) : Prop where
  obj : ¬ InO E O b
  snap : ∀ o, E.snap b o = none
  lt : b < w.heap.size
theorem Hid.keep {E E' : Env} {O O' : List GObj} {w w' : World} {b : Nat} (h : Hid E O w b) (k : Keep E O w E' O' w') : Hid E' O' w' b ∧ w'.heap[b]? = w.heap[b]? := by
  refine ⟨⟨fun hb => ?_, fun o => ?_, Nat.lt_of_lt_of_le h.lt k.size⟩, k.heap b h.lt h.obj⟩
  · rcases k.objs b hb with h1 | h1
    · exact h.obj h1
    · have := h.lt; omega
  · cases hv : E'.snap b o with
    | none => rfl
    | some v =>
      rcases k.snap b o v hv with h1 | h1 | h1
      · rw [h.snap] at h1; cases h1
      · have := h.lt; omega
      · exact absurd h1 h.obj
theorem HSim.grown {E : Env} {O : List GObj} {w w' : World} (h : HSim E O w) {row : Option Nat} (g : w.grownBy w' row) (hr : ∀ r, row = some r → ¬ InO E O r ∧ ∀ o, E.snap r o = none) : HSim E O w' := by
  have hne : ∀ b, InO E O b → some b ≠ row := fun b hb e => (hr b e.symm).1 hb
  refine ⟨h.fin, fun b o v hv => ?_, h.one, fun i obj ho => ?_, h.sep, h.glob⟩
  · have hb : some b ≠ row := fun e => by rw [(hr b e.symm).2 o] at hv; cases hv
    rw [Go.World.cell?_of_block (w := w) (w' := w') (a := ⟨b, o, none⟩) (g.block b (h.lt hv) hb)]
    exact h.sealed _ _ _ hv
  · refine (h.real i obj ho).keep (.refl E) (fun b hb => g.block b ((h.real i obj ho).blk_lt hb) (hne b ⟨i, obj, ho, hb⟩)) (fun b o v hb hv => ?_)
    exact hv
theorem Keep.grown {E0 E : Env} {O0 O : List GObj} {w0 w w' : World} (k : Keep E0 O0 w0 E O w) {row : Option Nat} (g : w.grownBy w' row) (hr : ∀ r, row = some r → w0.heap.size ≤ r) : Keep E0 O0 w0 E O w' :=
  ⟨k.ext, g.os.trans k.os, g.output.trans k.out, Nat.le_trans k.size g.size, fun b hb hn => (g.block b (Nat.lt_of_lt_of_le hb k.size) (fun e => by have := hr b e.symm; omega)).trans (k.heap b hb hn), k.snap, k.objs, trivial⟩
theorem Hid.grown {E : Env} {O : List GObj} {w w' : World} {b : Nat} {row : Option Nat} (h : Hid E O w b) (g : w.grownBy w' row) : Hid E O w' b := ⟨h.obj, h.snap, Nat.lt_of_lt_of_le h.lt g.size⟩
theorem HSim.hide {E : Env} {O : List GObj} {w : World} (h : HSim E O w) (i : Nat) (x : GObj) (hO : O[i]? = some x) (hx : x.isClock = false) : HSim E (O.set i .dead) w ∧ Keep E O w E (O.set i .dead) w := by
  have split : ∀ (j : Nat) y, (O.set i .dead)[j]? = some y → (j = i ∧ y = .dead) ∨ O[j]? = some y := by
    intro j y hy
    rw [List.getElem?_set] at hy
    by_cases e : i = j
    · rw [if_pos e] at hy
      split at hy
      · exact .inl ⟨e.symm, (Option.some.inj hy).symm⟩
      · cases hy
    · rw [if_neg e] at hy; exact .inr hy
  have hc : clockOf (O.set i .dead) = clockOf O := by
    match O, i with
    | [], _ => rfl
    | y :: r, 0 => simp at hO; subst hO; cases y <;> first | rfl | cases hx
    | y :: r, k + 1 => cases y <;> rfl
  refine ⟨⟨by unfold Fin'; rw [hc]; exact h.fin, h.sealed, h.one, fun j y hy => ?_, fun j k oj ok b hjk hj hk hbj hbk => ?_, h.glob⟩, ⟨.refl E, rfl, rfl, Nat.le_refl _, fun _ _ _ => rfl, fun _ _ _ h => .inl h, fun b ⟨j, y, hy, hb⟩ => ?_, trivial⟩⟩
  · rcases split j y hy with ⟨_, rfl⟩ | h1
    · trivial
    · exact h.real j y h1
  · rcases split j oj hj with ⟨_, rfl⟩ | h1
    · cases hbj
    · rcases split k ok hk with ⟨_, rfl⟩ | h2
      · cases hbk
      · exact h.sep j k oj ok b hjk h1 h2 hbj hbk
  · rcases split j y hy with ⟨_, rfl⟩ | h1
    · cases hb
    · exact .inl ⟨j, y, h1, hb⟩
structure MapAt (E : Env) (w : World) (b : Nat) (es : Array MapEntry) (clock : Nat) (kv : List (GVal × GVal)) : Prop where
  at_ : w.heap[b]? = some (.map es clock)
  size : es.size = kv.length
  ent : ∀ (i : Nat) e p, es[i]? = some e → kv[i]? = some p → EntryOK E e p
  born : BornOK es clock
theorem MapAt.ext {E E' : Env} {w w' : World} {b : Nat} {es : Array MapEntry} {clock : Nat} {kv : List (GVal × GVal)} (h : MapAt E w b es clock kv) (hE : E.le E') (hw : w'.heap[b]? = w.heap[b]?) : MapAt E' w' b es clock kv :=
  ⟨hw.trans h.at_, h.size, fun i e p he hp => ⟨(h.ent i e p he hp).1.mono hE, (h.ent i e p he hp).2.mono hE⟩, h.born⟩
theorem HSim.hideMap {E : Env} {O : List GObj} {w : World} (h : HSim E O w) {i st : Nat} {kv : List (GVal × GVal)} (hO : O[i]? = some (.map st kv)) :
    ∃ l b es clock, E.loc st = some l ∧ l.block = some b ∧ MapAt E w b es clock kv ∧ HSim E (O.set i .dead) w ∧ Keep E O w E (O.set i .dead) w ∧ Hid E (O.set i .dead) w b ∧ InO E O b := by
  obtain ⟨l, b, es, clock, hl, hb, hw, hs, he, hbo, hsn⟩ := h.real i _ hO
  obtain ⟨h1, h2⟩ := h.hide i _ hO rfl
  refine ⟨l, b, es, clock, hl, hb, ⟨hw, hs, he, hbo⟩, h1, h2, ⟨fun hi => ?_, hsn, (Array.getElem?_eq_some_iff.1 hw).1⟩, ⟨i, _, hO, by simp [GObj.blk, hl, hb]⟩⟩
  obtain ⟨j, y, hy, hyb⟩ := hi
  rw [List.getElem?_set] at hy
  by_cases e : i = j
  · rw [if_pos e] at hy
    split at hy
    · cases hy; cases hyb
    · cases hy
  · rw [if_neg e] at hy
    exact h.sep i j _ _ b e hO hy (by simp [GObj.blk, hl, hb]) hyb
theorem HSim.showMap {E : Env} {O : List GObj} {w : World} (h : HSim E O w) {i st b clock : Nat} {l : GLoc} {es : Array MapEntry} {kv : List (GVal × GVal)} (hO : O[i]? = some .dead) (hl : E.loc st = some l) (hb : l.block = some b)
    (hm : MapAt E w b es clock kv) (hh : Hid E O w b) : HSim E (O.set i (.map st kv)) w ∧ ∀ E0 O0 w0, Keep E0 O0 w0 E O w → (InO E0 O0 b ∨ w0.heap.size ≤ b) → Keep E0 O0 w0 E (O.set i (.map st kv)) w := by
  have hblk : (GObj.map st kv).blk E = some b := by simp [GObj.blk, hl, hb]
  have split : ∀ (j : Nat) y, (O.set i (.map st kv))[j]? = some y → (j = i ∧ y = .map st kv) ∨ (j ≠ i ∧ O[j]? = some y) := by
    intro j y hy
    rw [List.getElem?_set] at hy
    by_cases e : i = j
    · rw [if_pos e] at hy
      split at hy
      · exact .inl ⟨e.symm, (Option.some.inj hy).symm⟩
      · cases hy
    · rw [if_neg e] at hy; exact .inr ⟨fun q => e q.symm, hy⟩
  have hc : clockOf (O.set i (.map st kv)) = clockOf O := by
    match O, i with
    | [], _ => rfl
    | y :: r, 0 => simp at hO; subst hO; rfl
    | y :: r, k + 1 => cases y <;> rfl
  refine ⟨⟨by unfold Fin'; rw [hc]; exact h.fin, h.sealed, h.one, fun j y hy => ?_, fun j k oj ok b' hjk hj hk hbj hbk => ?_, h.glob⟩, fun E0 O0 w0 K hbn => ⟨K.ext, K.os, K.out, K.size, K.heap, K.snap, fun b' ⟨j, y, hy, hyb⟩ => ?_, trivial⟩⟩
  · rcases split j y hy with ⟨_, rfl⟩ | ⟨_, h1⟩
    · exact ⟨l, b, es, clock, hl, hb, hm.at_, hm.size, hm.ent, hm.born, hh.snap⟩
    · exact h.real j y h1
  · rcases split j oj hj with ⟨e1, rfl⟩ | ⟨e1, h1⟩
    · rcases split k ok hk with ⟨e2, rfl⟩ | ⟨e2, h2⟩
      · exact hjk (e1.trans e2.symm)
      · rw [hblk] at hbj; cases hbj
        exact hh.obj ⟨k, ok, h2, hbk⟩
    · rcases split k ok hk with ⟨e2, rfl⟩ | ⟨e2, h2⟩
      · rw [hblk] at hbk; cases hbk
        exact hh.obj ⟨j, oj, h1, hbj⟩
      · exact h.sep j k oj ok b' hjk h1 h2 hbj hbk
  · rcases split j y hy with ⟨_, rfl⟩ | ⟨_, h1⟩
    · rw [hblk] at hyb; cases hyb; exact hbn
    · exact K.objs b' ⟨j, y, h1, hyb⟩
end Gv
/- `m[k] = f(m[k])`: a map's entry found, and written later. -/
set_option linter.unusedVariables false
namespace Gv
open Go Go.MapKept Go.ChangeMaps
variable {P : Program} {E : Env} {O : List GObj} {w : World}
theorem bornIdx : ∀ {es : List MapEntry} {i : Nat} {e : MapEntry}, es.Pairwise (fun x y => x.born ≠ y.born) → es[i]? = some e → es.findIdx? (fun x => ((x.born : Nat) : Int) == ((e.born : Nat) : Int)) = some i
  | [], i, e, _, h => by cases h
  | a :: r, 0, e, _, h => by cases h; simp [List.findIdx?_cons]
  | a :: r, i + 1, e, hp, h => by
    have h1 : r[i]? = some e := by simpa using h
    have h2 := (List.pairwise_cons.1 hp).1 e (List.mem_of_getElem? h1)
    have h3 : (((a.born : Nat) : Int) == ((e.born : Nat) : Int)) = false := by rw [beq_eq_false_iff_ne]; omega
    rw [List.findIdx?_cons, h3, bornIdx (List.pairwise_cons.1 hp).2 h1]
    rfl
theorem bornIdxA {es : Array MapEntry} {clock i : Nat} {e : MapEntry} (h : BornOK es clock) (hi : es.toList[i]? = some e) : es.findIdx? (fun x => ((x.born : Nat) : Int) == ((e.born : Nat) : Int)) = some i := by
  have : es.findIdx? (fun x => ((x.born : Nat) : Int) == ((e.born : Nat) : Int)) = es.toList.findIdx? (fun x => ((x.born : Nat) : Int) == ((e.born : Nat) : Int)) := by cases es; simp
  rw [this]; exact bornIdx h.2 hi
def oldAt (kv : List (GVal × GVal)) (z : GVal) : Option Nat → GVal
  | some i => match kv[i]? with
    | some p => p.2
    | none => .any
  | none => z
def putAt (kv : List (GVal × GVal)) (x v : GVal) : Option Nat → List (GVal × GVal)
  | some i => kv.set i (x, v)
  | none => kv ++ [(x, v)]
theorem grown_set {w : World} {b : Nat} {es : Array MapEntry} {clock : Nat} (hw : w.heap[b]? = some (.map es clock)) (es' : Array MapEntry) (clock' : Nat) :
    w.grownBy { w with heap := w.heap.setIfInBounds b (.map es' clock') } (some b) ∧ { w with heap := w.heap.setIfInBounds b (.map es' clock') }.heap[b]? = some (.map es' clock') ∧ { w with heap := w.heap.setIfInBounds b (.map es' clock') }.heap.size = w.heap.size := by
  have hlt := (Array.getElem?_eq_some_iff.1 hw).1
  refine ⟨⟨rfl, rfl, rfl, by simp, fun k _ hk => ?_⟩, ?_, by simp⟩
  · show (w.heap.setIfInBounds b _)[k]? = _
    rw [Array.getElem?_setIfInBounds, if_neg (fun e => hk (by rw [e]))]
  · show (w.heap.setIfInBounds b _)[b]? = _
    rw [Array.getElem?_setIfInBounds, if_pos rfl, if_pos hlt]
theorem mapEntry_hid {t : TypeId} {k : KT} {et : TypeId} {z x : GVal} {rx : Value} {r : Option Nat} {b clock : Nat} {es : Array MapEntry} {kv : List (GVal × GVal)} (hkt : keyT P t = some (k, et)) (hz : zeroG P et = some z) (hko : keyOk k x) (hx : VR E rx x)
    (hm : MapAt E w b es clock kv) (hr : kfind k x kv = some r) :
    ∃ (rv0 : Value) (stamp : Nat) (es1 : Array MapEntry) (clock1 : Nat) (w1 : World), (Instr.mapEntry t (.map (some b)) rx).run P w = .ok (.tuple #[rv0, goInt stamp]) w1 ∧ w.grownBy w1 (some b) ∧ w1.heap[b]? = some (.map es1 clock1) ∧ VR E rv0 (oldAt kv z r) ∧
      ∀ (E2 : Env) (w2 : World) (rv : Value) (gv : GVal), E.le E2 → w2.heap[b]? = some (.map es1 clock1) → VR E2 rv gv →
        ∃ (w3 : World) (es3 : Array MapEntry) (clock3 : Nat), (Instr.entryStore t (.map (some b)) (goInt stamp) rv).run P w2 = .ok () w3 ∧ w2.grownBy w3 (some b) ∧ MapAt E2 w3 b es3 clock3 (putAt kv x gv r) := by
  obtain ⟨kt, hu, hf, ht, hn⟩ := keyT_spec hkt
  have hchk : ∀ em, (Instr.checkKey em 10000 kt rx).run P w = .ok () w := fun em => by
    unfold keyOk at hko
    split at hko
    · rename_i cs hcs; exact checkKey_run hf ht hx hcs hko
    · exact hko.elim
  obtain ⟨hw, hl, he, hbo⟩ := hm
  have hl' : es.toList.length = kv.length := by simpa using hl
  have he' : ∀ (i : Nat) e p, es.toList[i]? = some e → kv[i]? = some p → EntryOK E e p := fun i e p h1 h2 => he i e p (by simpa using h1) h2
  have hfk := findKey_run (P := P) (w := w) hf ht hn hx hl' he' hr
  cases r with
  | some i =>
    obtain ⟨p, hp, hpe⟩ := kfind_eq hr
    have hlt : i < es.toList.length := by rw [hl']; exact (List.getElem?_eq_some_iff.1 hp).1
    have hei : es.toList[i]? = some (es.toList[i]) := List.getElem?_eq_getElem hlt
    obtain ⟨e, ee⟩ : ∃ e, es.toList[i] = e := ⟨_, rfl⟩
    rw [ee] at hei
    have hkey : (Instr.keyThatStays e.key rx).run P w = .ok rx w := by
      have h2 := (he' i _ p hei hp).1
      have h3 := keyEq_rigid hn hx h2 hpe
      have h4 : Instr.sameBits 10000 e.key rx = true := by
        have := sameBits_key hn hx h2 hpe
        rw [← h3] at this ⊢; exact this
      unfold Instr.keyThatStays
      rw [if_pos h4]; simp
    have hei' : es[i]? = some e := by simpa using hei
    obtain ⟨g1, g2, _⟩ := grown_set hw (es.modify i fun e => { e with key := rx }) clock
    have hb1 : BornOK (es.modify i fun e => { e with key := rx }) clock := hbo.modify i _ fun _ => rfl
    refine ⟨e.val, e.born, _, _, _, ?_, g1, g2, ?_, ?_⟩
    · unfold Instr.mapEntry
      simp only [Sem.run_bind, run_underlying hu, Result.andThen_ok, getMap hw, hchk, hfk, At, hei, Nat.zero_add, hei', Option.map_some, Option.getD_some, hkey]
      rw [setMap _ hw]
      rfl
    · simp only [oldAt, hp]
      exact (he' i _ p hei hp).2
    · intro E2 w2 rv gv hE hw2 hrv
      obtain ⟨g3, g4, _⟩ := grown_set hw2 ((es.modify i fun e => { e with key := rx }).modify i fun e => { e with val := rv }) clock
      have hidx : (es.modify i fun e => { e with key := rx }).findIdx? (fun e' => ((e'.born : Nat) : Int) == ((e.born : Nat) : Int)) = some i := by
        refine bornIdxA (e := { e with key := rx }) hb1 ?_
        rw [Array.getElem?_toList, Array.getElem?_modify, if_pos rfl, hei']
        rfl
      refine ⟨_, _, _, ?_, g3, g4, by simpa [putAt] using hl, fun j e' p' he2 hp' => ?_, hb1.modify i _ fun _ => rfl⟩
      · simp [Instr.entryStore, MapKept.run_getObj_map hw2, asInt, asIntOf, goInt, hidx, MapKept.run_setObj_map _ hw2, Result.andThen]
      · simp only [putAt] at hp'
        rw [Array.getElem?_modify] at he2
        rw [List.getElem?_set] at hp'
        by_cases hij : i = j
        · subst hij
          rw [if_pos rfl, Array.getElem?_modify, if_pos rfl, hei'] at he2
          simp only [Option.map_some, Option.some.injEq] at he2
          rw [if_pos rfl, if_pos (by rw [← hl']; exact hlt)] at hp'
          simp only [Option.some.injEq] at hp'
          subst he2; subst hp'
          exact ⟨hx.mono hE, hrv⟩
        · rw [if_neg hij] at he2 hp'
          rw [Array.getElem?_modify, if_neg hij] at he2
          exact ⟨(he j e' p' he2 hp').1.mono hE, (he j e' p' he2 hp').2.mono hE⟩
  | none =>
    obtain ⟨v0, hv0, hvz⟩ := zeroG_run hz w E
    have hv0' : ∀ u : World, (zeroValue et).run P u = .ok v0 u → True := fun _ _ => trivial
    obtain ⟨g1, g2, _⟩ := grown_set hw (es.push { key := rx, val := v0, born := clock }) (clock + 1)
    have hb1 : BornOK (es.push { key := rx, val := v0, born := clock }) (clock + 1) := hbo.push _ rfl
    refine ⟨v0, clock, _, _, _, ?_, g1, g2, hvz, ?_⟩
    · unfold Instr.mapEntry
      simp only [Sem.run_bind, run_underlying hu, Result.andThen_ok, getMap hw, hchk, hfk, At, hv0]
      rw [setMap _ hw]
      rfl
    · intro E2 w2 rv gv hE hw2 hrv
      obtain ⟨g3, g4, _⟩ := grown_set hw2 ((es.push { key := rx, val := v0, born := clock }).modify es.size fun e => { e with val := rv }) (clock + 1)
      have hidx : (es.push { key := rx, val := v0, born := clock }).findIdx? (fun e' => ((e'.born : Nat) : Int) == ((clock : Nat) : Int)) = some es.size := by
        exact bornIdxA (e := { key := rx, val := v0, born := clock }) hb1 (by simp)
      refine ⟨_, _, _, ?_, g3, g4, by simpa [putAt] using hl, fun j e' p' he2 hp' => ?_, hb1.modify _ _ fun _ => rfl⟩
      · simp [Instr.entryStore, MapKept.run_getObj_map hw2, asInt, asIntOf, goInt, hidx, MapKept.run_setObj_map _ hw2, Result.andThen]
      · simp only [putAt] at hp'
        rw [Array.getElem?_modify, Array.getElem?_push] at he2
        by_cases hj : j = es.size
        · subst hj
          rw [if_pos rfl, if_pos rfl] at he2
          simp only [Option.map_some, Option.some.injEq] at he2
          rw [List.getElem?_append_right (by omega)] at hp'
          rw [show es.size - kv.length = 0 by omega] at hp'
          simp at hp'
          subst he2; subst hp'
          exact ⟨hx.mono hE, hrv⟩
        · rw [if_neg (fun e => hj e.symm), if_neg hj] at he2
          have hjlt := (Array.getElem?_eq_some_iff.1 he2).1
          rw [List.getElem?_append_left (by omega)] at hp'
          exact ⟨(he j e' p' he2 hp').1.mono hE, (he j e' p' he2 hp').2.mono hE⟩
end Gv
/- A walk in parts: some by conditions, some by hand. -/
set_option linter.unusedVariables false
namespace Gv
open Go Go.MapKept Go.ChangeMaps Go.Maps
variable {P : Program} {all : Array Oper} {QQ : Exit → Act → World → Prop} {E : Env} {st : GSt} {a : Act} {w : World} {o : Oper} {rest : List Oper}
@[reducible] def cfgOf {P : Program} {f : FuncId} {C : Cfg} {n : Nat} {rs : List ResultVar} {s : SCode} (_ : FnS P f C n rs s) : Cfg := C
def vcN (N : GSt → Prop) : Ex → GSt → Prop
  | .normal, s => N s
  | _, _ => False
def NW (s : List GVal) (O : List GObj) (st : GSt) : Prop := st.o = O ∧ WL st.s s
theorem wp_part {C : Cfg} (hmix : P.follows .mixedOrders = true) {c : Code} {s : SCode} (hs : slim C c = some s) (hc : codeOk C c = true) (h : HSim E st.o w) (ha : SlotsR E a st.s) {N : GSt → Prop} (hv : vcS P C.ro s (vcN N) st) {Q : Exit → Act → World → Prop}
    (hn : ∀ st' E' a' w', HSim E' st'.o w' → Keep E st.o w E' st'.o w' → SlotsR E' a' st'.s → N st' → Q .normal a' w') : c.wp P Q a w := by
  refine wp_mono (vc_sound hmix c (vcN N) st E a w hc h ha (vcS_ok c s (vcN N) (vcN N) st hs (fun _ _ h => h) hv)) ?_
  rintro e a' w' ⟨ex, st', E', hx, h1, h2, h3, h4⟩
  cases e <;> cases ex <;> first
    | exact hx.elim
    | exact h4.elim
    | exact hn st' E' a' w' h1 h2 h3 h4
theorem Post.trans {E0 E : Env} {O0 O : List GObj} {w0 w : World} {Q : Ex → GSt → Prop} {e : Exit} {a' : Act} {w' : World} (k : Keep E0 O0 w0 E O w) (h : Post E O w Q e a' w') : Post E0 O0 w0 Q e a' w' := by
  obtain ⟨ex, st', E', hx, h1, h2, h3, h4⟩ := h
  exact ⟨ex, st', E', hx, h1, k.trans h2, h3, h4⟩
theorem wpList_run (hg : o.guard = none) {v : Value} {w' : World} (hr : (execOp a.eval o).run P w = .ok (.value v) w') (h : wpList P all QQ rest (a.put o.dst v) w') : wpList P all QQ (o :: rest) a w :=
  wpList_plain hg fun K' hK' => by
    unfold Oper.wp
    rw [hr]
    simp only [Oper.upon_value]
    exact hK' _ _ h
theorem wpList_skip (hg : o.guard = none) {w' : World} (hr : (execOp a.eval o).run P w = .ok .skip w') (h : wpList P all QQ rest (a.put o.dst undef) w') : wpList P all QQ (o :: rest) a w :=
  wpList_plain hg fun K' hK' => by
    unfold Oper.wp
    rw [hr]
    exact hK' _ _ h
theorem op_step (hg : o.guard = none) (h : HSim E st.o w) (ha : SlotsR E a st.s) {R : List Nat} {N : GSt → Prop} (hk : opv P R st o (fun g O' => N (st.put o.dst g O')))
    (hq : ∀ st' E' a' w', HSim E' st'.o w' → Keep E st.o w E' st'.o w' → SlotsR E' a' st'.s → N st' → wpList P all QQ rest a' w') : wpList P all QQ (o :: rest) a w :=
  wpList_plain hg fun K' hK' => Oper.wp_mono (fun a w h => hK' a w h) (op_sound h ha hk (fun v w' E' O' g h1 h2 h3 h4 =>
    hq (st.put o.dst g O') E' _ w' (by rw [GSt.put_o]; exact h1) (by rw [GSt.put_o]; exact h2) (ha.put h2.ext h3 O') h4))
theorem ops_seg {R : List Nat} : ∀ (k : Nat) {ops : List Oper} {l : List SOp} {st : GSt} {E : Env} {a : Act} {w : World} (hl : (ops.take k).map (fun o => (⟨o.dst, o.op, none⟩ : SOp)) = l) (hg : (ops.take k).all (fun o => o.guard.isNone) = true)
    (h : HSim E st.o w) (ha : SlotsR E a st.s) {N : GSt → Prop} (hv : opsS P R l N st)
    (hq : ∀ st' E' a' w', HSim E' st'.o w' → Keep E st.o w E' st'.o w' → SlotsR E' a' st'.s → N st' → wpList P all QQ (ops.drop k) a' w'), wpList P all QQ ops a w
  | 0, ops, l, st, E, a, w, hl, hg, h, ha, N, hv, hq => by
    simp only [List.take_zero, List.map_nil] at hl
    subst hl
    rw [opsS_nil] at hv
    exact hq st E a w h (.refl _ _ _) ha hv
  | k + 1, [], l, st, E, a, w, hl, hg, h, ha, N, hv, hq => by
    simp only [List.take_nil, List.map_nil] at hl
    subst hl
    rw [opsS_nil] at hv
    exact hq st E a w h (.refl _ _ _) ha hv
  | k + 1, o :: r, l, st, E, a, w, hl, hg, h, ha, N, hv, hq => by
    simp only [List.take_succ_cons, List.map_cons] at hl
    subst hl
    simp only [List.take_succ_cons, List.all_cons, Bool.and_eq_true, Option.isNone_iff_eq_none] at hg
    rw [opsS_one, ← opS_eq] at hv
    refine op_step (N := fun s => opsS P R ((r.take k).map (fun o => (⟨o.dst, o.op, none⟩ : SOp))) N s) hg.1 h ha hv (fun st' E' a' w' h1 h2 h3 h4 => ?_)
    exact ops_seg k rfl hg.2 h1 h3 h4 (fun st2 E2 a2 w2 q1 q2 q3 q4 => hq st2 E2 a2 w2 q1 (h2.trans q2) q3 q4)
theorem range_step (hg : o.guard = none) {m : Operand} {t k e : TypeId} (hop : o.op = Op.range t m) (ht : P.underlying t = some (.map k e)) {b clock : Nat} {es : Array MapEntry}
    (hm : a.eval m = .map (some b)) (hb : w.heap[b]? = some (.map es clock)) (hbo : Gv.BornOK es clock)
    (hK : ∀ w', WalkAt w' b w.heap.size es clock #[] → w.grownBy w' none → w'.heap.size = w.heap.size + 1 → wpList P all QQ rest (a.put o.dst (.pointer (some ⟨w.heap.size, 0, none⟩))) w') :
    wpList P all QQ (o :: rest) a w := by
  have hrun := run_range_map w t k e b es clock ht hb
  have hlt := (Array.getElem?_eq_some_iff.1 hb).1
  refine wpList_run (v := .pointer (some ⟨w.heap.size, 0, none⟩)) (w' := w.alloc (.mapIter (some b) clock #[] clock)) hg (by simp [execOp, hop, hm, hrun, Result.andThen]) ?_
  exact hK _ ⟨clock, clock, ((MapKept.heap_alloc w _).2 b hlt).trans hb, (MapKept.heap_alloc w _).1, hbo.1, Nat.le_refl _, Nat.le_refl _⟩ (World.grownBy_alloc w _ none) (by simp)
theorem next_step (hg : o.guard = none) {it : Operand} (hop : o.op = Op.next it false) {b r clock : Nat} {es : Array MapEntry} (hbo : Gv.BornOK es clock) {seen : Array Nat} {xs : List MapEntry} (hx : Came es seen xs)
    (hit : a.eval it = .pointer (some ⟨r, 0, none⟩)) (h : WalkAt w b r es clock seen)
    (hDone : xs.Perm es.toList → wpList P all QQ rest (a.put o.dst (.tuple #[.bool false])) w)
    (hMore : ∀ (e : MapEntry) (w' : World), e ∈ es.toList → Came es (seen.push e.born) (xs ++ [e]) → xs.length < es.size → WalkAt w' b r es clock (seen.push e.born) → w'.rangeLeft b r < w.rangeLeft b r →
      w.grownBy w' (some r) → (∀ w2 : World, w2.heap[b]? = w'.heap[b]? → w2.heap[r]? = w'.heap[r]? → (Instr.entry (.pointer (some ⟨r, 0, none⟩))).run P w2 = .ok (.tuple #[e.key, e.val]) w2) → wpList P all QQ rest (a.put o.dst (.tuple #[.bool true, e.key, e.val])) w') :
    wpList P all QQ (o :: rest) a w := by
  have hle := h.left_eq
  obtain ⟨since, c0, hb, hr, hold, hsc, hsk⟩ := h
  obtain ⟨hse, hxn, hxm⟩ := hx
  have hne : r ≠ b := fun e => by rw [e, hb] at hr; cases hr
  have hnd : es.toList.Nodup := hbo.2.imp fun h e => h (congrArg _ e)
  have hbn : (es.toList.map (·.born)).Nodup := List.pairwise_map.2 hbo.2
  rcases run_next_at (P := P) w o.type r b since c0 seen es clock hr hb hold hsc with ⟨h0, hrun⟩ | ⟨e, he, w1, hal, hrun⟩
  · refine wpList_run hg (by simp [execOp, hop, hit, hrun, Result.andThen]) (hDone ?_)
    refine (List.perm_ext_iff_of_nodup hxn hnd).2 fun x => ⟨fun q => hxm x q, fun q => ?_⟩
    have hs := all_seen es seen h0 x q
    rw [hse] at hs
    have hm : x.born ∈ xs.map MapEntry.born := by simpa using hs
    obtain ⟨y, hy, ey⟩ := List.mem_map.1 hm
    rwa [← born_inj hbn (hxm y hy) q ey]
  · have hr1 : w1.heap[r]? = some (.mapIter (some b) since seen c0) := by rcases hal with rfl | rfl <;> exact hr
    have hb1 : w1.heap[b]? = some (.map es clock) := by rcases hal with rfl | rfl <;> exact hb
    have hset := heap_set (o' := .mapIter (some b) since (seen.push e.born) clock) hr1
    have hb' : (ChangeMaps.setBlock w1 r (.mapIter (some b) since (seen.push e.born) clock)).heap[b]? = some (.map es clock) := (hset.2 b (fun e1 => hne e1.symm)).trans hb1
    obtain ⟨hem, hes⟩ := mem_left he
    have hc : Came es (seen.push e.born) (xs ++ [e]) := by
      refine ⟨by rw [hse]; simp, List.nodup_append.2 ⟨hxn, by simp, fun y hy z hz => ?_⟩, fun y hy => ?_⟩
      · rw [List.mem_singleton.1 hz]
        intro q
        have : e.born ∈ xs.map MapEntry.born := List.mem_map_of_mem (q ▸ hy)
        rw [hse] at hes
        have h3 : (xs.map MapEntry.born).toArray.contains e.born = true := by simpa using this
        rw [h3] at hes; cases hes
      · rcases List.mem_append.1 hy with q | q
        · exact hxm y q
        · rw [List.mem_singleton.1 q]; exact hem
    have hlen : (xs ++ [e]).length ≤ es.toList.length := nodup_le _ _ hc.2.1 hc.2.2
    have hw : WalkAt (ChangeMaps.setBlock w1 r (.mapIter (some b) since (seen.push e.born) clock)) b r es clock (seen.push e.born) := ⟨since, clock, hb', hset.1, hold, hsk, hsk⟩
    refine wpList_run hg (by simp [execOp, hop, hit, hrun, Result.andThen]) (hMore e _ hem hc (by simp at hlen; omega) hw ?_ ?_ (fun w2 e1 e2 => run_entry_at w2 r b since seen es clock e (e2.trans hset.1) (e1.trans hb') hem hbn))
    · rw [hle, hw.left_eq]
      exact left_shrinks es _ e he
    · rcases hal with rfl | rfl <;> exact ⟨rfl, rfl, rfl, by simp [ChangeMaps.setBlock], fun i _ hi => hset.2 i (fun e1 => hi (by rw [e1]))⟩
theorem entry_step (hg : o.guard = none) {it : Operand} (hop : o.op = Op.entry it) {r : Nat} {v : Value} (hit : a.eval it = .pointer (some ⟨r, 0, none⟩)) (he : (Instr.entry (.pointer (some ⟨r, 0, none⟩))).run P w = .ok v w)
    (h : wpList P all QQ rest (a.put o.dst v) w) : wpList P all QQ (o :: rest) a w :=
  wpList_run hg (by simp [execOp, hop, hit, he, Result.andThen]) h
theorem mapEntry_step (hg : o.guard = none) {m x : Operand} {t : TypeId} (hop : o.op = Op.mapEntry t m x) {v : Value} {w' : World} (hr : (Instr.mapEntry t (a.eval m) (a.eval x)).run P w = .ok v w')
    (h : wpList P all QQ rest (a.put o.dst v) w') : wpList P all QQ (o :: rest) a w :=
  wpList_run hg (by simp [execOp, hop, hr, Result.andThen]) h
theorem entryStore_step (hg : o.guard = none) {m x y : Operand} {t : TypeId} (hop : o.op = Op.entryStore t m x y) {w' : World} (hr : (Instr.entryStore t (a.eval m) (a.eval x) (a.eval y)).run P w = .ok () w')
    (h : wpList P all QQ rest (a.put o.dst undef) w') : wpList P all QQ (o :: rest) a w :=
  wpList_skip hg (by simp [execOp, hop, hr, Result.andThen]) h
theorem map_val {v : Value} {i s b : Nat} {l : GLoc} (h : VR E v (.map i s)) (hl : E.loc s = some l) (hb : l.block = some b) : v = .map (some b) := by
  cases h with
  | map r o st l' hl' hb' =>
    rw [hl] at hl'; cases hl'
    rw [hb] at hb'; cases hb'
    rfl
theorem HSim.meltBox {O : List GObj} {t sz : Nat} {cs cs' : List GVal} (h : HSim E (O ++ [.row t sz [cs]]) w) {s : List GVal} (ha : SlotsR E a s) (i n : Nat) (hx : s.getD i .any = .ptr O.length t 0 0) (hsz : cs.length = sz)
    (hf : frzL (Gv.frz [.row t sz [cs]] n) cs = some cs') (hne : cs ≠ []) :
    HSim (E.frz [.row t sz [cs]] w) O w ∧ Keep E (O ++ [.row t sz [cs]]) w (E.frz [.row t sz [cs]] w) O w ∧ SlotsR (E.frz [.row t sz [cs]] w) a (s.set i (.ref cs')) := by
  obtain ⟨h0, h1, h2⟩ := h.melt
  refine ⟨h1, h2, by simp [ha.size], ha.defers, fun k g hg => ?_⟩
  rw [List.getElem?_set] at hg
  by_cases hk : i = k
  · subst hk
    rw [if_pos rfl] at hg
    split at hg
    · rename_i hlt
      simp only [Option.some.injEq] at hg
      subst hg
      have := ha.at_ i _ (getD_of (d := GVal.any) hlt)
      rw [hx] at this
      revert this
      generalize a.tmps.getD i undef = tv
      intro this
      cases this with
      | ptr b off o st i j l hl hb ho =>
        have hreal := h0.real 0 _ rfl
        obtain ⟨l', hl', hsz', hxs, hr⟩ := hreal
        rw [hl] at hl'; cases hl'
        rw [hb] at hr
        obtain ⟨cur, el, hcw, hcs, hct, hrows, hsn⟩ := hr
        have hrow : ∀ j g, [cs].flatten[j]? = some g → ∃ v, (E.frz [.row t sz [cs]] w).snap b (off + j) = some v ∧ VR E v g := fun j g hj => by
          have := row_frz h0 (i := 0) rfl hl hb hj
          obtain ⟨v, hv1, hv2⟩ := this
          refine ⟨v, ?_, ?_⟩
          · rw [ho]; simpa using hv1
          · first | exact hv2 | exact hv2.2 | exact hv2.1
        have hl2 := frzL_len hf
        refine .ref b off cs' (fun j => ((E.frz [.row t sz [cs]] w).snap b (off + j)).getD undef) (fun j hj => ?_) (fun j g hg => ?_)
        · obtain ⟨v, hv, _⟩ := hrow j (cs[j]'(by omega)) (by simp)
          rw [hv]; rfl
        · obtain ⟨x, hx1, hx2⟩ := frzL_at hf j g hg
          obtain ⟨v, hv, hvr⟩ := hrow j x (by simpa using hx1)
          rw [hv]
          exact frz_sound h0 n _ _ _ hvr hx2
    · cases hg
  · rw [if_neg hk] at hg
    exact (ha.at_ k g hg).mono h2.ext
theorem HSim.meltBox1 {O : List GObj} {t sz : Nat} {cs : List GVal} (h : HSim E (O ++ [.row t sz [cs]]) w) {s : List GVal} (ha : SlotsR E a s) (i : Nat) (hx : s.getD i .any = .ptr O.length t 0 0) (hsz : cs.length = sz) :
    HSim (E.frz [.row t sz [cs]] w) O w ∧ Keep E (O ++ [.row t sz [cs]]) w (E.frz [.row t sz [cs]] w) O w ∧ SlotsR (E.frz [.row t sz [cs]] w) a (s.set i (.ref cs)) := by
  obtain ⟨h0, h1, h2⟩ := h.melt
  refine ⟨h1, h2, by simp [ha.size], ha.defers, fun k g hg => ?_⟩
  rw [List.getElem?_set] at hg
  by_cases hk : i = k
  · subst hk
    rw [if_pos rfl] at hg
    split at hg
    · rename_i hlt
      simp only [Option.some.injEq] at hg
      subst hg
      have := ha.at_ i _ (getD_of (d := GVal.any) hlt)
      rw [hx] at this
      revert this
      generalize a.tmps.getD i undef = tv
      intro this
      cases this with
      | ptr b off o st i j l hl hb ho =>
        have hreal := h0.real 0 _ rfl
        obtain ⟨l', hl', hsz', hxs, hr⟩ := hreal
        rw [hl] at hl'; cases hl'
        rw [hb] at hr
        obtain ⟨cur, el, hcw, hcs, hct, hrows, hsn⟩ := hr
        have hrow : ∀ j g, [cs].flatten[j]? = some g → ∃ v, (E.frz [.row t sz [cs]] w).snap b (off + j) = some v ∧ VR E v g := fun j g hj => by
          have := row_frz h0 (i := 0) rfl hl hb hj
          obtain ⟨v, hv1, hv2⟩ := this
          refine ⟨v, ?_, ?_⟩
          · rw [ho]; simpa using hv1
          · first | exact hv2 | exact hv2.2 | exact hv2.1
        refine .ref b off cs (fun j => ((E.frz [.row t sz [cs]] w).snap b (off + j)).getD undef) (fun j hj => ?_) (fun j g hg => ?_)
        · obtain ⟨v, hv, _⟩ := hrow j (cs[j]'(by omega)) (by simp)
          rw [hv]; rfl
        · obtain ⟨v, hv, hvr⟩ := hrow j g (by simpa using hg)
          rw [hv]
          exact hvr.mono h2.ext
    · cases hg
  · rw [if_neg hk] at hg
    exact (ha.at_ k g hg).mono h2.ext
end Gv
/- Some of the objects, in another order. -/
set_option linter.unusedVariables false
namespace Gv
open Go
theorem HSim.pick {E : Env} {O X : List GObj} {w : World} (h : HSim E O w) (pl : List Nat) (hX : Fits O pl X) (hnd : pl.Nodup) (hc : clockOf X = none) : HSim E X w ∧ Keep E O w E X w := by
  have hpl : ∀ {i j k : Nat}, pl[i]? = some k → pl[j]? = some k → i = j := fun {i j k} hi hj => by
    obtain ⟨h1, e1⟩ := List.getElem?_eq_some_iff.1 hi
    obtain ⟨h2, e2⟩ := List.getElem?_eq_some_iff.1 hj
    have hp := List.pairwise_iff_getElem.1 hnd
    rcases Nat.lt_trichotomy i j with q | q | q
    · exact absurd (e1.trans e2.symm) (hp i j h1 h2 q)
    · exact q
    · exact absurd (e2.trans e1.symm) (hp j i h2 h1 q)
  refine ⟨⟨?_, h.sealed, h.one, fun i x hx => ?_, fun i j oi oj b hij hi hj hbi hbj => ?_, h.glob⟩, ⟨.refl E, rfl, rfl, Nat.le_refl _, fun _ _ _ => rfl, fun _ _ _ hv => .inl hv, fun b ⟨i, x, hx, hb⟩ => ?_, trivial⟩⟩
  · obtain ⟨n, _, q⟩ := h.fin
    exact ⟨n, (fun c e => by rw [hc] at e; cases e), q⟩
  · obtain ⟨j, y, _, hy, hle⟩ := hX.at_ i x hx
    exact hle.real E w (h.real j y hy)
  · obtain ⟨i', yi, pi, hyi, li⟩ := hX.at_ i oi hi
    obtain ⟨j', yj, pj, hyj, lj⟩ := hX.at_ j oj hj
    rw [li.blk] at hbi
    rw [lj.blk] at hbj
    refine h.sep i' j' yi yj b (fun e => hij ?_) hyi hyj hbi hbj
    rw [e] at pi
    exact hpl pi pj
  · obtain ⟨j, y, _, hy, hle⟩ := hX.at_ i x hx
    exact .inl ⟨j, y, hy, by rw [← hle.blk]; exact hb⟩
end Gv
