/- ids' Update: the ghost parts. -/
import Derived.Test.YtnenmmdpclglhaaP11
import Derived.Test.YtnenmmdpclglhaaP10
import Derived.Test.YtnenmmdpclglhaaP9
import Derived.Test.YtnenmmdpclglhaaP7
set_option linter.unusedVariables false
set_option linter.unusedSimpArgs false
set_option maxRecDepth 20000
set_option maxHeartbeats 4000000
namespace Gv.Try
open Go Gv Go.Proofs
abbrev uS (ti st : Nat) (x5 x7 x8 x10 x11 x63 x64 x65 : GVal) : List GVal := [.ptr 2 ti 0 0, .ptr 0 st 0 0, .any, .any, .any, x5, .any, x7, x8, .any, x10, x11, .any, .any, .any, .any, .any, .any, .any, .any, .any, .any, .any, .any, .any, .any, .any, .any, .any, .any, .any, .any, .any, .any, .any, .any, .any, .any, .any, .any, .any, .any, .any, .any, .any, .any, .any, .any, .any, .any, .any, .any, .any, .any, .any, .any, .any, .any, .any, .any, .any, .any, .any, x63, x64, x65, .any, .any, .any, .any, .any, .any, .any, .any, .any, .any, .any, .any, .any, .any, .any, .any, .any, .any, .any, .any]
abbrev C10 : Cfg := cfgOf h10
theorem u0 (ti st : Nat) (R : List GVal) (hR : R.length = 3) (hs : allSolid R = True) (O : List GObj) : VCs Try.prog [5] s10_0 (vcN (NW (uS ti st (.ref R) .any .any .any .any .any .any .any) O)) (gstart 86 [.ptr 2 ti 0 0, .ptr 0 st 0 0, .agg R] O) := by
  refine ⟨?_⟩
  simp only [gstart, List.cons_append, List.nil_append, List.length_cons, List.length_nil, Nat.reduceAdd, Nat.reduceSub, List.replicate_succ, List.replicate_zero]
  skip
  simp +contextual -implicitDefEqProofs (maxSteps := 2000000) (disch := omega) only [drawC, drawK, keepT, ↓lenV, binV, ↓loadV, ↓storeV, ↓fieldAddrV, ↓indexAddrV, ↓allocV, ↓boxV, ↓buildV, ↓buildSliceV, ↓nilV, ↓ifaceV, ↓appendV, ↓srcV, fillG, fillE, place, GVal.cells, grp, GVal.ofConst, ↓resV, resG, List.map, List.headD, List.take, List.drop, ↓reduceIte, Nat.reduceEqDiff, Nat.reduceAdd, Nat.reduceSub, Nat.reduceLeDiff, reduceCtorEq, implies_true, ne_eq, ↓asrcV, aggV, Tag.cap, List.replicate, allSolid, GVal.solid, Nat.reduceBEq, Nat.reduceMul, Nat.reduceLT, List.length_map, List.length_range, splice, vcA, ↓vcB, vcC, fbFe, e10, vcN, NW, leG_any, leG_self, and_true, true_and, hR, hs]
theorem u1 (ti st : Nat) (x5 : GVal) (O : List GObj) : VCs Try.prog [5] (.seq s10_1 s10_3) (vcN (NW (uS ti st x5 .any .any .any .any .any .any .any) O)) ⟨uS ti st x5 .any .any .any .any .any .any .any, O⟩ := by
  refine ⟨?_⟩
  skip
  simp +contextual -implicitDefEqProofs (maxSteps := 2000000) (disch := omega) only [drawC, drawK, keepT, ↓lenV, binV, ↓loadV, ↓storeV, ↓fieldAddrV, ↓indexAddrV, ↓allocV, ↓boxV, ↓buildV, ↓buildSliceV, ↓nilV, ↓ifaceV, ↓appendV, ↓srcV, fillG, fillE, place, GVal.cells, grp, GVal.ofConst, ↓resV, resG, List.map, List.headD, List.take, List.drop, ↓reduceIte, Nat.reduceEqDiff, Nat.reduceAdd, Nat.reduceSub, Nat.reduceLeDiff, reduceCtorEq, implies_true, ne_eq, ↓asrcV, aggV, Tag.cap, List.replicate, allSolid, GVal.solid, Nat.reduceBEq, Nat.reduceMul, Nat.reduceLT, List.length_map, List.length_range, splice, vcA, ↓vcB, vcC, fbFe, e10, uS, vcN, NW, leG_any, leG_self, and_true, true_and]
theorem u4 (ti st so : Nat) (x5 : GVal) (n : Int) (M O : List Hs) (g1 g2 : GObj) : VCs Try.prog [5] s10_4 (vcN (NW (uS ti st x5 (.slice (hsG M) .none) (.slice (hsG O) .none) .any .any .any .any .any) (g1 :: g2 :: idO2 ti so n M O))) ⟨uS ti st x5 .any .any .any .any .any .any .any, g1 :: g2 :: idO2 ti so n M O⟩ := by
  refine ⟨?_⟩
  skip
  simp +contextual -implicitDefEqProofs (maxSteps := 2000000) (disch := omega) only [drawC, drawK, keepT, ↓lenV, binV, ↓loadV, ↓storeV, ↓fieldAddrV, ↓indexAddrV, ↓allocV, ↓boxV, ↓buildV, ↓buildSliceV, ↓nilV, ↓ifaceV, ↓appendV, ↓srcV, fillG, fillE, place, GVal.cells, grp, GVal.ofConst, ↓resV, resG, List.map, List.headD, List.take, List.drop, ↓reduceIte, Nat.reduceEqDiff, Nat.reduceAdd, Nat.reduceSub, Nat.reduceLeDiff, reduceCtorEq, implies_true, ne_eq, ↓asrcV, aggV, Tag.cap, List.replicate, allSolid, GVal.solid, Nat.reduceBEq, Nat.reduceMul, Nat.reduceLT, List.length_map, List.length_range, splice, vcA, ↓vcB, vcC, fbFe, e10, uS, vcN, NW, leG_any, leG_self, and_true, true_and]
theorem u12n (ti st : Nat) (cs : List Cm) (hs : List Hs) (th : Tag) (gr : Int) (hg : gr ≠ 1) (x7 x8 : GVal) (O : List GObj) : VCs Try.prog [5] s10_12 (vcN (NW (uS ti st (.ref (reqG cs hs th gr)) x7 x8 .any .any .any .any .any) O)) ⟨uS ti st (.ref (reqG cs hs th gr)) x7 x8 .any .any .any .any .any, O⟩ := by
  refine ⟨?_⟩
  have d0 : (gr = 1) = False := eq_false hg
  skip
  simp +contextual -implicitDefEqProofs (maxSteps := 2000000) (disch := omega) only [drawC, drawK, keepT, ↓lenV, binV, ↓loadV, ↓storeV, ↓fieldAddrV, ↓indexAddrV, ↓allocV, ↓boxV, ↓buildV, ↓buildSliceV, ↓nilV, ↓ifaceV, ↓appendV, ↓srcV, fillG, fillE, place, GVal.cells, grp, GVal.ofConst, ↓resV, resG, List.map, List.headD, List.take, List.drop, ↓reduceIte, Nat.reduceEqDiff, Nat.reduceAdd, Nat.reduceSub, Nat.reduceLeDiff, reduceCtorEq, implies_true, ne_eq, ↓asrcV, aggV, Tag.cap, List.replicate, allSolid, GVal.solid, Nat.reduceBEq, Nat.reduceMul, Nat.reduceLT, List.length_map, List.length_range, splice, vcA, ↓vcB, vcC, fbFe, e10, uS, vcN, NW, leG_any, leG_self, and_true, true_and, d0]
theorem u12m (m : GM) (hm : GMOK m) (ti st s so : Nat) (cs : List Cm) (hs : List Hs) (th : Tag) (n : Int) (M O : List Hs) (T : WSt) (hT : VisL m (masterB (ofM M O)) hs ([], []) T) (hl : hs.length ≤ 1000000) (hM : M.length ≤ 1000000) (hO : O.length ≤ 1000000) (hTl : T.2.length ≤ 1000000) (hn : (M.length : Int) + T.2.length ≤ n) :
    VCs Try.prog [5] s10_12 (vcN (NW (uS ti st (.ref (reqG cs hs th 1)) (.slice (hsG (M ++ T.2)) .none) (.slice (hsG (woL O T.2)) .none) .any .any .any .any .any) (gObj st s m ++ idO2 ti so n M O))) ⟨uS ti st (.ref (reqG cs hs th 1)) (.slice (hsG M) .none) (.slice (hsG O) .none) .any .any .any .any .any, gObj st s m ++ idO2 ti so n M O⟩ := by
  refine ⟨?_⟩
  have cW := iWalkM m hm hs th st s ti so n M O T hT hl
  have d0 : (n < (M.length : Int) + T.2.length) = False := eq_false (by omega)
  have cC := iConcat M T.2 .none .none .full (by omega)
  have cO := iWithout O T.2 hO hTl
  skip
  simp +contextual -implicitDefEqProofs (maxSteps := 2000000) (disch := omega) only [drawC, drawK, keepT, ↓lenV, binV, ↓loadV, ↓storeV, ↓fieldAddrV, ↓indexAddrV, ↓allocV, ↓boxV, ↓buildV, ↓buildSliceV, ↓nilV, ↓ifaceV, ↓appendV, ↓srcV, fillG, fillE, place, GVal.cells, grp, GVal.ofConst, ↓resV, resG, List.map, List.headD, List.take, List.drop, ↓reduceIte, Nat.reduceEqDiff, Nat.reduceAdd, Nat.reduceSub, Nat.reduceLeDiff, reduceCtorEq, implies_true, ne_eq, ↓asrcV, aggV, Tag.cap, List.replicate, allSolid, GVal.solid, Nat.reduceBEq, Nat.reduceMul, Nat.reduceLT, List.length_map, List.length_range, splice, vcA, ↓vcB, vcC, fbFe, e10, uS]
  refine cW.mono ?_
  rintro g O' ⟨rfl, rfl⟩
  simp +contextual -implicitDefEqProofs (maxSteps := 2000000) (disch := omega) only [drawC, drawK, keepT, ↓lenV, binV, ↓loadV, ↓storeV, ↓fieldAddrV, ↓indexAddrV, ↓allocV, ↓boxV, ↓buildV, ↓buildSliceV, ↓nilV, ↓ifaceV, ↓appendV, ↓srcV, fillG, fillE, place, GVal.cells, grp, GVal.ofConst, ↓resV, resG, List.map, List.headD, List.take, List.drop, ↓reduceIte, Nat.reduceEqDiff, Nat.reduceAdd, Nat.reduceSub, Nat.reduceLeDiff, reduceCtorEq, implies_true, ne_eq, ↓asrcV, aggV, Tag.cap, List.replicate, allSolid, GVal.solid, Nat.reduceBEq, Nat.reduceMul, Nat.reduceLT, List.length_map, List.length_range, splice, vcA, ↓vcB, vcC, fbFe, e10, hsG_len, d0]
  refine cC.then ?_ (by rfl)
  simp +contextual -implicitDefEqProofs (maxSteps := 2000000) (disch := omega) only [drawC, drawK, keepT, ↓lenV, binV, ↓loadV, ↓storeV, ↓fieldAddrV, ↓indexAddrV, ↓allocV, ↓boxV, ↓buildV, ↓buildSliceV, ↓nilV, ↓ifaceV, ↓appendV, ↓srcV, fillG, fillE, place, GVal.cells, grp, GVal.ofConst, ↓resV, resG, List.map, List.headD, List.take, List.drop, ↓reduceIte, Nat.reduceEqDiff, Nat.reduceAdd, Nat.reduceSub, Nat.reduceLeDiff, reduceCtorEq, implies_true, ne_eq, ↓asrcV, aggV, Tag.cap, List.replicate, allSolid, GVal.solid, Nat.reduceBEq, Nat.reduceMul, Nat.reduceLT, List.length_map, List.length_range, splice, vcA, ↓vcB, vcC, fbFe, e10]
  refine cO.then ?_ (by rfl)
  simp +contextual -implicitDefEqProofs (maxSteps := 2000000) (disch := omega) only [drawC, drawK, keepT, ↓lenV, binV, ↓loadV, ↓storeV, ↓fieldAddrV, ↓indexAddrV, ↓allocV, ↓boxV, ↓buildV, ↓buildSliceV, ↓nilV, ↓ifaceV, ↓appendV, ↓srcV, fillG, fillE, place, GVal.cells, grp, GVal.ofConst, ↓resV, resG, List.map, List.headD, List.take, List.drop, ↓reduceIte, Nat.reduceEqDiff, Nat.reduceAdd, Nat.reduceSub, Nat.reduceLeDiff, reduceCtorEq, implies_true, ne_eq, ↓asrcV, aggV, Tag.cap, List.replicate, allSolid, GVal.solid, Nat.reduceBEq, Nat.reduceMul, Nat.reduceLT, List.length_map, List.length_range, splice, vcA, ↓vcB, vcC, fbFe, e10, vcN, NW, leG_any, leG_self, and_true, true_and]
theorem u13 (ti st s so : Nat) (x5 x7 x8 : GVal) (n : Int) (m : GM) (M O : List Hs) : VCs Try.prog [5] s10_13 (vcN fun st' => ∃ tn tb, NW (uS ti st x5 x7 x8 (.ptr 5 tb 0 0) .any .any .any .any) (gObj st s m ++ idO2 ti so n M O ++ [.row tn 4 [[.int .i64 0, .slice [] .nil, .slice [] .nil, .lit (.map none)]], .row tb 1 [[.ptr 4 tn 0 0]]]) st') ⟨uS ti st x5 x7 x8 .any .any .any .any .any, gObj st s m ++ idO2 ti so n M O⟩ := by
  refine ⟨?_⟩
  skip
  simp +contextual -implicitDefEqProofs (maxSteps := 2000000) (disch := omega) only [drawC, drawK, keepT, ↓lenV, binV, ↓loadV, ↓storeV, ↓fieldAddrV, ↓indexAddrV, ↓allocV, ↓boxV, ↓buildV, ↓buildSliceV, ↓nilV, ↓ifaceV, ↓appendV, ↓srcV, fillG, fillE, place, GVal.cells, grp, GVal.ofConst, ↓resV, resG, List.map, List.headD, List.take, List.drop, ↓reduceIte, Nat.reduceEqDiff, Nat.reduceAdd, Nat.reduceSub, Nat.reduceLeDiff, reduceCtorEq, implies_true, ne_eq, ↓asrcV, aggV, Tag.cap, List.replicate, allSolid, GVal.solid, Nat.reduceBEq, Nat.reduceMul, Nat.reduceLT, List.length_map, List.length_range, splice, vcA, ↓vcB, vcC, fbFe, e10, uS, vcN, NW, leG_any, leG_self, and_true, true_and]
  exact ⟨rfl, rfl, fun tn => ⟨rfl, fun tb => ⟨tn, tb, rfl, by simp [leG_self]⟩⟩⟩
abbrev nxO (tn sn : Nat) (M O : List Hs) : List GObj := [.row tn 4 [[.int .i64 0, .slice (hsG M) .none, .slice (hsG O) .none, .map 5 sn]], .map sn (kvG encI (ofM M O))]
theorem u14 (ti st s so tn : Nat) (x5 : GVal) (n : Int) (m : GM) (M O M1 O1 : List Hs) (hM : M1.length ≤ 1000000) (hO : O1.length ≤ 1000000) : VCs Try.prog [5] s10_14 (vcN fun st' => ∃ sn, NW (uS ti st x5 (.slice (hsG M1) .none) (.slice (hsG O1) .none) (.ref [.ptr 4 tn 0 0]) .any .any .any .any) (gObj st s m ++ idO2 ti so n M O ++ nxO tn sn M1 O1) st') ⟨uS ti st x5 (.slice (hsG M1) .none) (.slice (hsG O1) .none) (.ref [.ptr 4 tn 0 0]) .any .any .any .any, gObj st s m ++ idO2 ti so n M O ++ [.row tn 4 [[.int .i64 0, .slice [] .nil, .slice [] .nil, .lit (.map none)]]]⟩ := by
  refine ⟨?_⟩
  have cN := GCalls.oneNew (z1 := fun sn => .row tn 4 [[.int .i64 0, .slice (hsG M1) .none, .slice (hsG O1) .none, .map 5 sn]]) (args' := [.ptr 4 tn 0 0, .slice (hsG M1) .none, .slice (hsG O1) .none]) (iNumber tn (.int .i64 0) (.slice [] .nil) (.slice [] .nil) (.lit (.map none)) M1 O1 hM hO) (O := gObj st s m ++ idO2 ti so n M O ++ [.row tn 4 [[.int .i64 0, .slice [] .nil, .slice [] .nil, .lit (.map none)]]]) 4 rfl (.refl _) (fun so => OLe.row ⟨⟨GLe.refl _, GLe.refl _, GLe.refl _, GLe.map _ _ _, trivial⟩, trivial⟩) ⟨GLe.ptr _ _ _ _ _, GLe.refl _, GLe.refl _, trivial⟩ rfl rfl (fun _ => rfl) (fun _ => rfl)
  skip
  simp +contextual -implicitDefEqProofs (maxSteps := 2000000) (disch := omega) only [drawC, drawK, keepT, ↓lenV, binV, ↓loadV, ↓storeV, ↓fieldAddrV, ↓indexAddrV, ↓allocV, ↓boxV, ↓buildV, ↓buildSliceV, ↓nilV, ↓ifaceV, ↓appendV, ↓srcV, fillG, fillE, place, GVal.cells, grp, GVal.ofConst, ↓resV, resG, List.map, List.headD, List.take, List.drop, ↓reduceIte, Nat.reduceEqDiff, Nat.reduceAdd, Nat.reduceSub, Nat.reduceLeDiff, reduceCtorEq, implies_true, ne_eq, ↓asrcV, aggV, Tag.cap, List.replicate, allSolid, GVal.solid, Nat.reduceBEq, Nat.reduceMul, Nat.reduceLT, List.length_map, List.length_range, splice, vcA, ↓vcB, vcC, fbFe, e10, uS]
  refine cN.mono ?_
  rintro g O' ⟨sn, rfl, rfl⟩
  simp +contextual -implicitDefEqProofs (maxSteps := 2000000) (disch := omega) only [drawC, drawK, keepT, ↓lenV, binV, ↓loadV, ↓storeV, ↓fieldAddrV, ↓indexAddrV, ↓allocV, ↓boxV, ↓buildV, ↓buildSliceV, ↓nilV, ↓ifaceV, ↓appendV, ↓srcV, fillG, fillE, place, GVal.cells, grp, GVal.ofConst, ↓resV, resG, List.map, List.headD, List.take, List.drop, ↓reduceIte, Nat.reduceEqDiff, Nat.reduceAdd, Nat.reduceSub, Nat.reduceLeDiff, reduceCtorEq, implies_true, ne_eq, ↓asrcV, aggV, Tag.cap, List.replicate, allSolid, GVal.solid, Nat.reduceBEq, Nat.reduceMul, Nat.reduceLT, List.length_map, List.length_range, splice, vcA, ↓vcB, vcC, fbFe, e10, vcN, NW, leG_any, leG_self, and_true, true_and]
  exact ⟨sn, rfl⟩
theorem u15 (ti st : Nat) (x7 x8 x10 : GVal) (cs : List Cm) (hs : List Hs) (th : Tag) (ht : th = .nil → hs = []) (hl : hs.length ≤ 1000000) (gr : Int) (O : List GObj) (hc : clockOf O = none) : VCs Try.prog [5] s10_15 (vcN fun st' => (hs = [] ∧ NW (uS ti st (.ref (reqG cs hs th gr)) x7 x8 x10 (.slice [] .nil) .any .any .any) O st') ∨ ∃ v, NW (uS ti st (.ref (reqG cs hs th gr)) x7 x8 x10 (.own O.length v 0 hs.length) .any .any .any) (O ++ [.row v 32 (hsG hs)]) st') ⟨uS ti st (.ref (reqG cs hs th gr)) x7 x8 x10 .any .any .any .any, O⟩ := by
  refine ⟨?_⟩
  have cC := GCalls.newUp (hClone hs th (by omega) ht) (O := O) hc (by rintro g O' (⟨_, rfl, rfl⟩ | ⟨st, rfl, rfl⟩) <;> rfl)
  skip
  simp +contextual -implicitDefEqProofs (maxSteps := 2000000) (disch := omega) only [drawC, drawK, keepT, ↓lenV, binV, ↓loadV, ↓storeV, ↓fieldAddrV, ↓indexAddrV, ↓allocV, ↓boxV, ↓buildV, ↓buildSliceV, ↓nilV, ↓ifaceV, ↓appendV, ↓srcV, fillG, fillE, place, GVal.cells, grp, GVal.ofConst, ↓resV, resG, List.map, List.headD, List.take, List.drop, ↓reduceIte, Nat.reduceEqDiff, Nat.reduceAdd, Nat.reduceSub, Nat.reduceLeDiff, reduceCtorEq, implies_true, ne_eq, ↓asrcV, aggV, Tag.cap, List.replicate, allSolid, GVal.solid, Nat.reduceBEq, Nat.reduceMul, Nat.reduceLT, List.length_map, List.length_range, splice, vcA, ↓vcB, vcC, fbFe, e10, uS]
  refine cC.mono ?_
  rintro g O' ⟨g0, O1, (⟨rfl, rfl, rfl⟩ | ⟨v, rfl, rfl⟩), rfl, rfl⟩
  · simp +contextual -implicitDefEqProofs (maxSteps := 2000000) (disch := omega) only [drawC, drawK, keepT, ↓lenV, binV, ↓loadV, ↓storeV, ↓fieldAddrV, ↓indexAddrV, ↓allocV, ↓boxV, ↓buildV, ↓buildSliceV, ↓nilV, ↓ifaceV, ↓appendV, ↓srcV, fillG, fillE, place, GVal.cells, grp, GVal.ofConst, ↓resV, resG, List.map, List.headD, List.take, List.drop, ↓reduceIte, Nat.reduceEqDiff, Nat.reduceAdd, Nat.reduceSub, Nat.reduceLeDiff, reduceCtorEq, implies_true, ne_eq, ↓asrcV, aggV, Tag.cap, List.replicate, allSolid, GVal.solid, Nat.reduceBEq, Nat.reduceMul, Nat.reduceLT, List.length_map, List.length_range, splice, vcA, ↓vcB, vcC, fbFe, e10, vcN, NW, leG_any, leG_self, and_true, true_and, GVal.up]
    exact .inl trivial
  · simp +contextual -implicitDefEqProofs (maxSteps := 2000000) (disch := omega) only [drawC, drawK, keepT, ↓lenV, binV, ↓loadV, ↓storeV, ↓fieldAddrV, ↓indexAddrV, ↓allocV, ↓boxV, ↓buildV, ↓buildSliceV, ↓nilV, ↓ifaceV, ↓appendV, ↓srcV, fillG, fillE, place, GVal.cells, grp, GVal.ofConst, ↓resV, resG, List.map, List.headD, List.take, List.drop, ↓reduceIte, Nat.reduceEqDiff, Nat.reduceAdd, Nat.reduceSub, Nat.reduceLeDiff, reduceCtorEq, implies_true, ne_eq, ↓asrcV, aggV, Tag.cap, List.replicate, allSolid, GVal.solid, Nat.reduceBEq, Nat.reduceMul, Nat.reduceLT, List.length_map, List.length_range, splice, vcA, ↓vcB, vcC, fbFe, e10, vcN, NW, leG_any, leG_self, and_true, true_and, GVal.up]
    exact .inr ⟨v, rfl, by rw [leG_self]; trivial⟩
abbrev uO (ti st s so tn sn : Nat) (n : Int) (m : GM) (M O M1 O1 : List Hs) : List GObj := gObj st s m ++ idO2 ti so n M O ++ nxO tn sn M1 O1
theorem u23 (ti st s so tn sn : Nat) (n : Int) (m : GM) (M O M1 O1 : List Hs) (x7 x8 x10 x11 : GVal) (X : List GObj) (cs : List Cm) (hs : List Hs) (th : Tag) (gr : Int) (hl : hs.length ≤ 1000000) (hc : cs.length ≤ 1000000)
    (hx : (hs = [] ∧ x11 = .slice [] .nil ∧ X = []) ∨ ∃ v, x11 = .own 6 v 0 hs.length ∧ X = [.row v 32 (hsG hs)]) :
    VCs Try.prog [5] s10_23 (vcN fun st' => ∃ v, NW (uS ti st (.ref (reqG cs hs th gr)) x7 x8 x10 (.own 6 v 0 (hs ++ cs.map (·.1)).length) .any .any .any) (uO ti st s so tn sn n m M O M1 O1 ++ [.row v 32 (hsG (hs ++ cs.map (·.1)))]) st') ⟨uS ti st (.ref (reqG cs hs th gr)) x7 x8 x10 x11 .any .any .any, uO ti st s so tn sn n m M O M1 O1 ++ X⟩ := by
  refine ⟨?_⟩
  skip
  simp +contextual -implicitDefEqProofs (maxSteps := 2000000) (disch := omega) only [drawC, drawK, keepT, ↓lenV, binV, ↓loadV, ↓storeV, ↓fieldAddrV, ↓indexAddrV, ↓allocV, ↓boxV, ↓buildV, ↓buildSliceV, ↓nilV, ↓ifaceV, ↓appendV, ↓srcV, fillG, fillE, place, GVal.cells, grp, GVal.ofConst, ↓resV, resG, List.map, List.headD, List.take, List.drop, ↓reduceIte, Nat.reduceEqDiff, Nat.reduceAdd, Nat.reduceSub, Nat.reduceLeDiff, reduceCtorEq, implies_true, ne_eq, ↓asrcV, aggV, Tag.cap, List.replicate, allSolid, GVal.solid, Nat.reduceBEq, Nat.reduceMul, Nat.reduceLT, List.length_map, List.length_range, splice, vcA, ↓vcB, vcC, fbFe, e10, uS, csG_len]
  refine vcSLoop_by (ι := { p : Nat × Nat // p.1 ≤ cs.length }) (fun p => ⟨uS ti st (.ref (reqG cs hs th gr)) x7 x8 x10 (.own 6 p.1.2 0 (hs ++ (cs.map (·.1)).take p.1.1).length) (.slice (csG cs) .none) (.int .i64 cs.length) (.int .i64 (p.1.1 : Nat)), uO ti st s so tn sn n m M O M1 O1 ++ [.row p.1.2 32 (hsG (hs ++ (cs.map (·.1)).take p.1.1))]⟩) (fun p => cs.length - p.1.1) ?_ ?_
  · rcases hx with ⟨rfl, rfl, rfl⟩ | ⟨v, rfl, rfl⟩
    · refine Into.row 11 32 rfl rfl ?_
      simp +contextual -implicitDefEqProofs (maxSteps := 2000000) (disch := omega) only [drawC, drawK, keepT, ↓lenV, binV, ↓loadV, ↓storeV, ↓fieldAddrV, ↓indexAddrV, ↓allocV, ↓boxV, ↓buildV, ↓buildSliceV, ↓nilV, ↓ifaceV, ↓appendV, ↓srcV, fillG, fillE, place, GVal.cells, grp, GVal.ofConst, ↓resV, resG, List.map, List.headD, List.take, List.drop, ↓reduceIte, Nat.reduceEqDiff, Nat.reduceAdd, Nat.reduceSub, Nat.reduceLeDiff, reduceCtorEq, implies_true, ne_eq, ↓asrcV, aggV, Tag.cap, List.replicate, allSolid, GVal.solid, Nat.reduceBEq, Nat.reduceMul, Nat.reduceLT, List.length_map, List.length_range, splice, vcA, ↓vcB, vcC, fbFe, e10]
      intro v
      exact Into.first ⟨(0, v), Nat.zero_le _⟩ ⟨[], rfl⟩ (by simp [WL, leG_self, leG_any, csG_len])
    · exact Into.first ⟨(0, v), Nat.zero_le _⟩ ⟨[], by simp⟩ (by simp [WL, leG_self, leG_any, csG_len])
  · rintro ⟨⟨k, v⟩, hk⟩
    change k ≤ cs.length at hk
    by_cases h : k < cs.length
    · have d0 : ((k : Int) < (cs.length : Int)) = True := eq_true (by omega)
      have eC := csG_at cs k h
      have eT : hs ++ (cs.map (·.1)).take (k + 1) = (hs ++ (cs.map (·.1)).take k) ++ [(cs.getD k default).1] := by
        rw [List.take_add_one]; simp [List.getD, h]
      have lT : (hs ++ (cs.map (·.1)).take k).length ≤ 2000000 := by
        have := List.length_take_le k (cs.map (·.1))
        rw [List.length_append]
        have h2 : (cs.map (·.1)).length = cs.length := List.length_map ..
        omega
      generalize cs.getD k default = c at *
      generalize hs ++ (cs.map (·.1)).take k = L at *
      have l33 : (comG c).length = 33 := comG_len c
      have t32 : List.take 32 (comG c) = bytesG c.1.1 := take32a c.1 _
      have t33 : List.take 33 (comG c) = comG c := List.take_of_length_le (by rw [l33]; exact Nat.le_refl _)
      have dz : List.drop 33 ([.int .u8 0, .int .u8 0, .int .u8 0, .int .u8 0, .int .u8 0, .int .u8 0, .int .u8 0, .int .u8 0, .int .u8 0, .int .u8 0, .int .u8 0, .int .u8 0, .int .u8 0, .int .u8 0, .int .u8 0, .int .u8 0, .int .u8 0, .int .u8 0, .int .u8 0, .int .u8 0, .int .u8 0, .int .u8 0, .int .u8 0, .int .u8 0, .int .u8 0, .int .u8 0, .int .u8 0, .int .u8 0, .int .u8 0, .int .u8 0, .int .u8 0, .int .u8 0, .slice [] .nil] : List GVal) = [] := rfl
      have s33 : allSolid (comG c) = True := by rw [show comG c = bytesG c.1.1 ++ [.slice (hsG c.2) .none] from rfl, solid33]; simp [GVal.solid]
      have eL : List.take L.length (hsG L) = hsG L := List.take_of_length_le (by rw [hsG_len]; exact Nat.le_refl _)
      simp +contextual -implicitDefEqProofs (maxSteps := 2000000) (disch := omega) only [drawC, drawK, keepT, ↓lenV, binV, ↓loadV, ↓storeV, ↓fieldAddrV, ↓indexAddrV, ↓allocV, ↓boxV, ↓buildV, ↓buildSliceV, ↓nilV, ↓ifaceV, ↓appendV, ↓srcV, fillG, fillE, place, GVal.cells, grp, GVal.ofConst, ↓resV, resG, List.map, List.headD, List.take, List.drop, ↓reduceIte, Nat.reduceEqDiff, Nat.reduceAdd, Nat.reduceSub, Nat.reduceLeDiff, reduceCtorEq, implies_true, ne_eq, ↓asrcV, aggV, Tag.cap, List.replicate, allSolid, GVal.solid, Nat.reduceBEq, Nat.reduceMul, Nat.reduceLT, List.length_map, List.length_range, splice, vcA, ↓vcB, vcC, fbFe, e10, eL, t33, dz, s33, List.append_nil, uS, uO, nxO, idO2, List.cons_append, List.nil_append, d0, csG_len, eC, l33, t32, hsG_len, all_hsG, take32, len32, solidH, setO_3, setO_4, setO_5, setO_6, setO_7, setO_8]
      refine ⟨by omega, fun sc => ⟨by omega, by omega, by omega, fun v2 => ?_⟩⟩
      have eLen : (hs ++ (cs.map (·.1)).take (k + 1)).length = L.length + 1 := by rw [eT]; simp
      refine Into.at ⟨(k + 1, v2), h⟩ (by show _ < _; simp; omega) ⟨[.row sc 33 [comG c]], ?_⟩ ?_
      · show _ = (uO ti st s so tn sn n m M O M1 O1 ++ [.row v2 32 (hsG (hs ++ (cs.map (·.1)).take (k + 1)))]) ++ [.row sc 33 [comG c]]
        rw [eT, hsG_app]
        rfl
      · show WL _ (uS ti st (.ref (reqG cs hs th gr)) x7 x8 x10 (.own 6 v2 0 (hs ++ (cs.map (·.1)).take (k + 1)).length) (.slice (csG cs) .none) (.int .i64 cs.length) (.int .i64 (k + 1 : Nat)))
        rw [eLen]
        simp [WL, leG_self, leG_any, leG_int]
    · have d0 : ((k : Int) < (cs.length : Int)) = False := eq_false (by omega)
      have ek : (cs.map (·.1)).take k = cs.map (·.1) := List.take_of_length_le (by rw [List.length_map]; omega)
      rw [ek]
      simp +contextual -implicitDefEqProofs (maxSteps := 2000000) (disch := omega) only [drawC, drawK, keepT, ↓lenV, binV, ↓loadV, ↓storeV, ↓fieldAddrV, ↓indexAddrV, ↓allocV, ↓boxV, ↓buildV, ↓buildSliceV, ↓nilV, ↓ifaceV, ↓appendV, ↓srcV, fillG, fillE, place, GVal.cells, grp, GVal.ofConst, ↓resV, resG, List.map, List.headD, List.take, List.drop, ↓reduceIte, Nat.reduceEqDiff, Nat.reduceAdd, Nat.reduceSub, Nat.reduceLeDiff, reduceCtorEq, implies_true, ne_eq, ↓asrcV, aggV, Tag.cap, List.replicate, allSolid, GVal.solid, Nat.reduceBEq, Nat.reduceMul, Nat.reduceLT, List.length_map, List.length_range, splice, vcA, ↓vcB, vcC, fbFe, e10, uS, d0, vcN, NW, leG_any, leG_self, and_true, true_and]
      exact ⟨v, rfl, by rw [leG_self]; trivial⟩
theorem u27 (m : GM) (hm : GMOK m) (ti st s so tn sn : Nat) (n : Int) (M O M1 O1 : List Hs) (x5 : GVal) (L : List Hs) (hL : L.length ≤ 1000000) (T : WSt) (hT : VisL m (fun h => (look (ofM M1 O1) h).isSome) L ([], []) T) (hM : M1.length ≤ 1000000) (hO : O1.length + T.2.length ≤ 1000000) :
    VCs Try.prog [5] s10_27 (retQ Try.prog [.tmp 6] fun g O' => ∃ so', g = .lit .nilIface ∧ O' = (uO ti st s so tn sn n m M O M1 O1).set 2 (.row ti 4 [[.int .i64 n, .slice (hsG M1) .none, .slice (hsG (O1 ++ T.2)) .none, .map 6 so']]) ++ [.map so' (kvG encI (ofM M1 (O1 ++ T.2)))]) ⟨uS ti st x5 (.slice (hsG M1) .none) (.slice (hsG O1) .none) (.ref [.ptr 4 tn 0 0]) (.slice (hsG L) .none) .any .any .any, uO ti st s so tn sn n m M O M1 O1⟩ := by
  refine ⟨?_⟩
  have cW := GCalls.readAt (args' := [.ptr 0 st 0 0, .slice (hsG L) .none, (.func (.func 31) [] [.ref [.ptr 4 tn 0 0]])]) (iWalkD m hm L .none st s tn sn (.int .i64 0) M1 O1 T hT hL) (O := uO ti st s so tn sn n m M O M1 O1) [0, 1, 4, 5]
    ⟨⟨_, rfl, .refl _⟩, ⟨_, rfl, .refl _⟩, ⟨_, rfl, OLe.row ⟨⟨GLe.refl _, GLe.refl _, GLe.refl _, GLe.map _ _ _, trivial⟩, trivial⟩⟩, ⟨_, rfl, .refl _⟩, trivial⟩
    ⟨⟨_, rfl, .refl _⟩, ⟨_, rfl, .refl _⟩, ⟨_, rfl, OLe.row ⟨⟨GLe.refl _, GLe.refl _, GLe.refl _, GLe.map _ _ _, trivial⟩, trivial⟩⟩, ⟨_, rfl, .refl _⟩, trivial⟩
    (by decide) ⟨GLe.refl _, GLe.refl _, GLe.func _ trivial ⟨GLe.ref ⟨GLe.ptr _ _ _ _ _, trivial⟩, trivial⟩, trivial⟩ rfl rfl
  have cC := iConcat O1 T.2 .none .none .full (by omega)
  have cN := GCalls.oneNew (z1 := fun so' => .row ti 4 [[.int .i64 n, .slice (hsG M1) .none, .slice (hsG (O1 ++ T.2)) .none, .map 6 so']]) (args' := [.ptr 2 ti 0 0, .slice (hsG M1) .none, .slice (hsG (O1 ++ T.2)) .none]) (iNumber ti (.int .i64 n) (.slice (hsG M) .none) (.slice (hsG O) .none) (.map 3 so) M1 (O1 ++ T.2) hM (by rw [List.length_append]; omega)) (O := uO ti st s so tn sn n m M O M1 O1) 2 rfl (.refl _) (fun so => OLe.row ⟨⟨GLe.refl _, GLe.refl _, GLe.refl _, GLe.map _ _ _, trivial⟩, trivial⟩) ⟨GLe.ptr _ _ _ _ _, GLe.refl _, GLe.refl _, trivial⟩ rfl rfl (fun _ => rfl) (fun _ => rfl)
  skip
  simp +contextual -implicitDefEqProofs (maxSteps := 2000000) (disch := omega) only [drawC, drawK, keepT, ↓lenV, binV, ↓loadV, ↓storeV, ↓fieldAddrV, ↓indexAddrV, ↓allocV, ↓boxV, ↓buildV, ↓buildSliceV, ↓nilV, ↓ifaceV, ↓appendV, ↓srcV, fillG, fillE, place, GVal.cells, grp, GVal.ofConst, ↓resV, resG, List.map, List.headD, List.take, List.drop, ↓reduceIte, Nat.reduceEqDiff, Nat.reduceAdd, Nat.reduceSub, Nat.reduceLeDiff, reduceCtorEq, implies_true, ne_eq, ↓asrcV, aggV, Tag.cap, List.replicate, allSolid, GVal.solid, Nat.reduceBEq, Nat.reduceMul, Nat.reduceLT, List.length_map, List.length_range, splice, vcA, ↓vcB, vcC, fbFe, e10, uS]
  refine cW.mono ?_
  rintro g O' ⟨rfl, rfl⟩
  simp +contextual -implicitDefEqProofs (maxSteps := 2000000) (disch := omega) only [drawC, drawK, keepT, ↓lenV, binV, ↓loadV, ↓storeV, ↓fieldAddrV, ↓indexAddrV, ↓allocV, ↓boxV, ↓buildV, ↓buildSliceV, ↓nilV, ↓ifaceV, ↓appendV, ↓srcV, fillG, fillE, place, GVal.cells, grp, GVal.ofConst, ↓resV, resG, List.map, List.headD, List.take, List.drop, ↓reduceIte, Nat.reduceEqDiff, Nat.reduceAdd, Nat.reduceSub, Nat.reduceLeDiff, reduceCtorEq, implies_true, ne_eq, ↓asrcV, aggV, Tag.cap, List.replicate, allSolid, GVal.solid, Nat.reduceBEq, Nat.reduceMul, Nat.reduceLT, List.length_map, List.length_range, splice, vcA, ↓vcB, vcC, fbFe, e10]
  refine cC.then ?_ (by rfl)
  simp +contextual -implicitDefEqProofs (maxSteps := 2000000) (disch := omega) only [drawC, drawK, keepT, ↓lenV, binV, ↓loadV, ↓storeV, ↓fieldAddrV, ↓indexAddrV, ↓allocV, ↓boxV, ↓buildV, ↓buildSliceV, ↓nilV, ↓ifaceV, ↓appendV, ↓srcV, fillG, fillE, place, GVal.cells, grp, GVal.ofConst, ↓resV, resG, List.map, List.headD, List.take, List.drop, ↓reduceIte, Nat.reduceEqDiff, Nat.reduceAdd, Nat.reduceSub, Nat.reduceLeDiff, reduceCtorEq, implies_true, ne_eq, ↓asrcV, aggV, Tag.cap, List.replicate, allSolid, GVal.solid, Nat.reduceBEq, Nat.reduceMul, Nat.reduceLT, List.length_map, List.length_range, splice, vcA, ↓vcB, vcC, fbFe, e10]
  refine cN.mono ?_
  rintro g O' ⟨so', rfl, rfl⟩
  simp +contextual -implicitDefEqProofs (maxSteps := 2000000) (disch := omega) only [drawC, drawK, keepT, ↓lenV, binV, ↓loadV, ↓storeV, ↓fieldAddrV, ↓indexAddrV, ↓allocV, ↓boxV, ↓buildV, ↓buildSliceV, ↓nilV, ↓ifaceV, ↓appendV, ↓srcV, fillG, fillE, place, GVal.cells, grp, GVal.ofConst, ↓resV, resG, List.map, List.headD, List.take, List.drop, ↓reduceIte, Nat.reduceEqDiff, Nat.reduceAdd, Nat.reduceSub, Nat.reduceLeDiff, reduceCtorEq, implies_true, ne_eq, ↓asrcV, aggV, Tag.cap, List.replicate, allSolid, GVal.solid, Nat.reduceBEq, Nat.reduceMul, Nat.reduceLT, List.length_map, List.length_range, splice, vcA, ↓vcB, vcC, fbFe, e10]
  exact ⟨so', rfl⟩
end Gv.Try
/- ids' Update: put together. -/
set_option linter.unusedVariables false
set_option linter.unusedSimpArgs false
set_option maxRecDepth 20000
set_option maxHeartbeats 1000000
namespace Gv.Try
open Go Gv Go.Proofs
theorem req_solid (cs : List Cm) (hs : List Hs) (th : Tag) (gr : Int) : allSolid (reqG cs hs th gr) = True := by simp [reqG, allSolid, GVal.solid]
theorem iUpdateRaw (m : GM) (hm : GMOK m) (ti st s so : Nat) (cs : List Cm) (hs : List Hs) (th : Tag) (ht : th = .nil → hs = []) (gr n : Int) (M O M1 O1 : List Hs)
    (hcase : (gr ≠ 1 ∧ M1 = M ∧ O1 = O) ∨ (gr = 1 ∧ ∃ T1 : WSt, VisL m (masterB (ofM M O)) hs ([], []) T1 ∧ M1 = M ++ T1.2 ∧ O1 = woL O T1.2 ∧ (M.length : Int) + T1.2.length ≤ n ∧ T1.2.length ≤ 100000))
    (T2 : WSt) (hT2 : VisL m (fun h => (look (ofM M1 O1) h).isSome) (hs ++ cs.map (·.1)) ([], []) T2) (hc : cs.length ≤ 100000) (hh : hs.length ≤ 100000) (hM : M.length ≤ 100000) (hO : O.length ≤ 100000) (hM1 : M1.length ≤ 1000000) (hO1 : O1.length + T2.2.length ≤ 1000000) :
    GCalls Try.prog 10 [.ptr 2 ti 0 0, .ptr 0 st 0 0, .agg (reqG cs hs th gr)] (gObj st s m ++ idO2 ti so n M O) (fun g O' => ∃ so' tn sn, g = .lit .nilIface ∧ O' = (uO ti st s so tn sn n m M O M1 O1).set 2 (.row ti 4 [[.int .i64 n, .slice (hsG M1) .none, .slice (hsG (O1 ++ T2.2)) .none, .map 6 so']]) ++ [.map so' (kvG encI (ofM M1 (O1 ++ T2.2)))]) := by
  refine gcalls_of_wp (hf := Try.func10) (hb := rfl) (hn := Try.ntmps10) (hr := Try.results10) (hen := by kernel_rfl) (hargs := by simp) ?_
  intro E a w hs0 ha
  refine wp_seq (wp_partV (st := ⟨(gstart 86 [.ptr 2 ti 0 0, .ptr 0 st 0 0, .agg (reqG cs hs th gr)] []).s, gObj st s m ++ idO2 ti so n M O⟩) mixS (s := s10_0) (C := C10) (by kernel_rfl) (by kernel_rfl) hs0 ha (u0 ti st _ rfl (req_solid _ _ _ _) _) ?_)
  rintro ⟨t1, O1'⟩ E1 a1 w1 q1 k1 s1R ⟨e1, hw1⟩
  change O1' = gObj st s m ++ idO2 ti so n M O at e1
  subst e1
  have s1 := s1R.weak hw1
  show (Code.seq _ _).wp _ _ _ _
  refine wp_seq (wp_partV (st := ⟨uS ti st (.ref (reqG cs hs th gr)) .any .any .any .any .any .any .any, gObj st s m ++ idO2 ti so n M O⟩) mixS (s := .seq s10_1 s10_3) (C := C10) (by kernel_rfl) (by kernel_rfl) q1 s1 (u1 ti st _ _) ?_)
  rintro ⟨t2, O2'⟩ E2 a2 w2 q2 k2 s2R ⟨e2, hw2⟩
  change O2' = gObj st s m ++ idO2 ti so n M O at e2
  subst e2
  have s2 := s2R.weak hw2
  show (Code.seq _ _).wp _ _ _ _
  refine wp_seq (wp_partV (st := ⟨uS ti st (.ref (reqG cs hs th gr)) .any .any .any .any .any .any .any, gObj st s m ++ idO2 ti so n M O⟩) mixS (s := s10_4) (C := C10) (by kernel_rfl) (by kernel_rfl) q2 s2 (u4 ti st so _ n M O _ _) ?_)
  rintro ⟨t3, O3'⟩ E3 a3 w3 q3 k3 s3R ⟨e3, hw3⟩
  change O3' = gObj st s m ++ idO2 ti so n M O at e3
  subst e3
  have s3 := s3R.weak hw3
  have c12 : VCs Try.prog [5] s10_12 (vcN (NW (uS ti st (.ref (reqG cs hs th gr)) (.slice (hsG M1) .none) (.slice (hsG O1) .none) .any .any .any .any .any) (gObj st s m ++ idO2 ti so n M O))) ⟨uS ti st (.ref (reqG cs hs th gr)) (.slice (hsG M) .none) (.slice (hsG O) .none) .any .any .any .any .any, gObj st s m ++ idO2 ti so n M O⟩ := by
    rcases hcase with ⟨h1, rfl, rfl⟩ | ⟨rfl, T1, h1, rfl, rfl, h2, h3⟩
    · exact u12n ti st cs hs th gr h1 _ _ _
    · exact u12m m hm ti st s so cs hs th n M O T1 h1 (by omega) (by omega) (by omega) (by omega) h2
  show (Code.seq _ _).wp _ _ _ _
  refine wp_seq (wp_partV (st := ⟨uS ti st (.ref (reqG cs hs th gr)) (.slice (hsG M) .none) (.slice (hsG O) .none) .any .any .any .any .any, gObj st s m ++ idO2 ti so n M O⟩) mixS (s := s10_12) (C := C10) (by kernel_rfl) (by kernel_rfl) q3 s3 c12 ?_)
  rintro ⟨t4, O4'⟩ E4 a4 w4 q4 k4 s4R ⟨e4, hw4⟩
  change O4' = gObj st s m ++ idO2 ti so n M O at e4
  subst e4
  have s4 := s4R.weak hw4
  have k04 := ((k1.trans k2).trans k3).trans k4
  show (Code.seq _ _).wp _ _ _ _
  refine wp_seq (wp_partV (st := ⟨uS ti st (.ref (reqG cs hs th gr)) (.slice (hsG M1) .none) (.slice (hsG O1) .none) .any .any .any .any .any, gObj st s m ++ idO2 ti so n M O⟩) mixS (s := s10_13) (C := C10) (by kernel_rfl) (by kernel_rfl) q4 s4 (u13 ti st s so _ _ _ n m M O) ?_)
  rintro ⟨t5, O5'⟩ E5 a5 w5 q5 k5 s5R ⟨tn, tb, e5, hw5⟩
  change O5' = (gObj st s m ++ idO2 ti so n M O ++ [.row tn 4 [[.int .i64 0, .slice [] .nil, .slice [] .nil, .lit (.map none)]]]) ++ [.row tb 1 [[.ptr 4 tn 0 0]]] at e5
  subst e5
  obtain ⟨q6, k6, s6⟩ := q5.meltBox1 (s5R.weak hw5) 10 rfl rfl
  show (Code.seq _ _).wp _ _ _ _
  refine wp_seq (wp_partV (st := ⟨uS ti st (.ref (reqG cs hs th gr)) (.slice (hsG M1) .none) (.slice (hsG O1) .none) (.ref [.ptr 4 tn 0 0]) .any .any .any .any, gObj st s m ++ idO2 ti so n M O ++ [.row tn 4 [[.int .i64 0, .slice [] .nil, .slice [] .nil, .lit (.map none)]]]⟩) mixS (s := s10_14) (C := C10) (by kernel_rfl) (by kernel_rfl) q6 (s6.weak (by simp [WL, leG_self, leG_any])) (u14 ti st s so tn _ n m M O M1 O1 hM1 (by omega)) ?_)
  rintro ⟨t7, O7'⟩ E7 a7 w7 q7 k7 s7R ⟨sn, e7, hw7⟩
  change O7' = uO ti st s so tn sn n m M O M1 O1 at e7
  subst e7
  have s7 := s7R.weak hw7
  have k07 := ((k04.trans k5).trans k6).trans k7
  show (Code.seq _ _).wp _ _ _ _
  refine wp_seq (wp_partV (st := ⟨uS ti st (.ref (reqG cs hs th gr)) (.slice (hsG M1) .none) (.slice (hsG O1) .none) (.ref [.ptr 4 tn 0 0]) .any .any .any .any, uO ti st s so tn sn n m M O M1 O1⟩) mixS (s := s10_15) (C := C10) (by kernel_rfl) (by kernel_rfl) q7 s7 (u15 ti st _ _ _ cs hs th ht (by omega) gr _ rfl) ?_)
  rintro ⟨t8, O8'⟩ E8 a8 w8 q8 k8 s8R h8
  obtain ⟨x11, X, hx, e8, s8⟩ : ∃ x11 X, ((hs = [] ∧ x11 = .slice [] .nil ∧ X = []) ∨ ∃ v, x11 = .own 6 v 0 hs.length ∧ X = [.row v 32 (hsG hs)]) ∧ O8' = uO ti st s so tn sn n m M O M1 O1 ++ X ∧ SlotsR E8 a8 (uS ti st (.ref (reqG cs hs th gr)) (.slice (hsG M1) .none) (.slice (hsG O1) .none) (.ref [.ptr 4 tn 0 0]) x11 .any .any .any) := by
    rcases h8 with ⟨h1, e, hw⟩ | ⟨v, e, hw⟩
    · exact ⟨_, [], .inl ⟨h1, rfl, rfl⟩, by rw [List.append_nil]; exact e, s8R.weak hw⟩
    · exact ⟨_, _, .inr ⟨v, rfl, rfl⟩, e, s8R.weak hw⟩
  subst e8
  show (Code.seq _ _).wp _ _ _ _
  refine wp_seq (wp_partV (st := ⟨uS ti st (.ref (reqG cs hs th gr)) (.slice (hsG M1) .none) (.slice (hsG O1) .none) (.ref [.ptr 4 tn 0 0]) x11 .any .any .any, uO ti st s so tn sn n m M O M1 O1 ++ X⟩) mixS (s := s10_23) (C := C10) (by kernel_rfl) (by kernel_rfl) q8 s8 (u23 ti st s so tn sn n m M O M1 O1 _ _ _ x11 X cs hs th gr (by omega) (by omega) hx) ?_)
  rintro ⟨t9, O9'⟩ E9 a9 w9 q9 k9 s9R ⟨v, e9, hw9⟩
  change O9' = uO ti st s so tn sn n m M O M1 O1 ++ [.row v 32 (hsG (hs ++ cs.map (·.1)))] at e9
  subst e9
  have s9 := s9R.weak hw9
  obtain ⟨st', Ex, e10, q10, k10, s10⟩ := (Into.melt (st := ⟨uS ti st (.ref (reqG cs hs th gr)) (.slice (hsG M1) .none) (.slice (hsG O1) .none) (.ref [.ptr 4 tn 0 0]) (.own 6 v 0 (hs ++ cs.map (·.1)).length) .any .any .any, uO ti st s so tn sn n m M O M1 O1 ++ [.row v 32 (hsG (hs ++ cs.map (·.1)))]⟩) (N := fun st' => st' = ⟨uS ti st (.ref (reqG cs hs th gr)) (.slice (hsG M1) .none) (.slice (hsG O1) .none) (.ref [.ptr 4 tn 0 0]) (.slice (hsG (hs ++ cs.map (·.1))) .none) .any .any .any, uO ti st s so tn sn n m M O M1 O1⟩) 11 2 rfl rfl (hsG_len _).symm (frz_hs _ 1 _) (Into.here rfl)) E9 a9 w9 q9 s9
  subst e10
  have K10 := ((k07.trans k8).trans k9).trans k10
  refine wp_mono (vc_sound mixS _ (retQ Try.prog [.tmp 6] _) ⟨_, _⟩ _ a9 w9 (C := C10) (by kernel_rfl) q10 s10 (vcS_ok (C := C10) _ _ _ _ _ (by kernel_rfl) ?_ (u27 m hm ti st s so tn sn n M O M1 O1 _ _ (by rw [List.length_append, List.length_map]; omega) T2 hT2 hM1 hO1).ok)) (fun e a' w' hpost => Post.trans K10 hpost)
  intro e s h
  cases e with
  | normal => obtain ⟨so', h1, h2⟩ := h; exact ⟨so', tn, sn, h1, h2⟩
  | ret => obtain ⟨so', h1, h2⟩ := h; exact ⟨so', tn, sn, h1, h2⟩
  | exit k => exact h.elim
theorem iUpdate (m : GM) (hm : GMOK m) (ti st s so : Nat) (cs : List Cm) (hs : List Hs) (th : Tag) (ht : th = .nil → hs = []) (gr n : Int) (M O M1 O1 : List Hs)
    (hcase : (gr ≠ 1 ∧ M1 = M ∧ O1 = O) ∨ (gr = 1 ∧ ∃ T1 : WSt, VisL m (masterB (ofM M O)) hs ([], []) T1 ∧ M1 = M ++ T1.2 ∧ O1 = woL O T1.2 ∧ (M.length : Int) + T1.2.length ≤ n ∧ T1.2.length ≤ 100000))
    (T2 : WSt) (hT2 : VisL m (fun h => (look (ofM M1 O1) h).isSome) (hs ++ cs.map (·.1)) ([], []) T2) (hc : cs.length ≤ 100000) (hh : hs.length ≤ 100000) (hM : M.length ≤ 100000) (hO : O.length ≤ 100000) (hM1 : M1.length ≤ 1000000) (hO1 : O1.length + T2.2.length ≤ 1000000) :
    GCalls Try.prog 10 [.ptr 2 ti 0 0, .ptr 0 st 0 0, .agg (reqG cs hs th gr)] (gObj st s m ++ idO2 ti so n M O) (fun g O' => ∃ so', g = .lit .nilIface ∧ O' = gObj st s m ++ idO2 ti so' n M1 (O1 ++ T2.2)) := by
  refine GCalls.into ((iUpdateRaw m hm ti st s so cs hs th ht gr n M O M1 O1 hcase T2 hT2 hc hh hM hO hM1 hO1).mono ?_)
  rintro g O' ⟨so', tn, sn, rfl, rfl⟩
  exact GInto.pick (X := gObj st s m ++ idO2 ti so' n M1 (O1 ++ T2.2)) [0, 1, 2, 6] ⟨⟨_, rfl, .refl _⟩, ⟨_, rfl, .refl _⟩, ⟨_, rfl, OLe.row ⟨⟨GLe.refl _, GLe.refl _, GLe.refl _, GLe.map _ _ _, trivial⟩, trivial⟩⟩, ⟨_, rfl, .refl _⟩, trivial⟩ (by decide) rfl ⟨so', rfl, rfl⟩
end Gv.Try
/- The law's listed: all hashes by their numbers. -/
set_option linter.unusedVariables false
set_option linter.unusedSimpArgs false
set_option maxRecDepth 20000
set_option maxHeartbeats 4000000
namespace Gv.Try
open Go Gv Go.Proofs
theorem iListed (ti so : Nat) (n : Int) (M O : List Hs) (hM : M.length ≤ 100000) (hO : O.length ≤ 100000) : GCalls Try.prog 20 [.ptr 0 ti 0 0] (idO ti so n M O) (fun g O' => g = .slice (hsG (M ++ O)) .none ∧ O' = idO ti so n M O) := by
  have cM := fun X => (iMasters ti so n M O).keep2 rfl X
  have cO := fun X => (iOthers ti so n M O).keep2 rfl X
  refine GCalls.dropTo ?_
  refine h20.calls mixS (by simp) ?_
  simp only [gstart, s20, List.cons_append, List.nil_append, List.length_cons, List.length_nil, Nat.reduceAdd, Nat.reduceSub, List.replicate_succ, List.replicate_zero]
  simp +contextual -implicitDefEqProofs (maxSteps := 2000000) (disch := omega) only [binV, optV, ↓loadV, ↓storeV, ↓allocV, ↓buildSliceV, ↓sliceV, ↓appendV, ↓srcV, bound, cutTag, hiTag, fillE, GVal.cells, grp, GVal.ofConst, ↓resV, resG, List.map, List.headD, List.take, List.drop, ↓reduceIte, Nat.reduceEqDiff, Nat.reduceAdd, Nat.reduceSub, Nat.reduceLeDiff, reduceCtorEq, implies_true, ne_eq, ↓asrcV, Tag.cap, List.replicate, allSolid, GVal.solid, Nat.reduceBEq, Nat.reduceMul, Nat.reduceLT, List.length_map, List.length_range, splice, vcA, ↓vcB, vcC, fbFe, e20]
  refine vcSLoop_by (ι := { p : Nat × Nat // p.1 ≤ M.length }) (fun p => ⟨[.ptr 0 ti 0 0, .any, .any, .slice (hsG (M.take p.1.1)) (.tok 2 p.1.2), .int .i64 (p.1.1 : Nat)] ++ List.replicate 39 .any, idO ti so n M O ++ [.tok p.1.2 32]⟩) (fun p => M.length - p.1.1) ?_ ?_
  · refine Into.tok 3 32 [] rfl rfl ?_
    simp +contextual -implicitDefEqProofs (maxSteps := 2000000) (disch := omega) only [binV, optV, ↓loadV, ↓storeV, ↓allocV, ↓buildSliceV, ↓sliceV, ↓appendV, ↓srcV, bound, cutTag, hiTag, fillE, GVal.cells, grp, GVal.ofConst, ↓resV, resG, List.map, List.headD, List.take, List.drop, ↓reduceIte, Nat.reduceEqDiff, Nat.reduceAdd, Nat.reduceSub, Nat.reduceLeDiff, reduceCtorEq, implies_true, ne_eq, ↓asrcV, Tag.cap, List.replicate, allSolid, GVal.solid, Nat.reduceBEq, Nat.reduceMul, Nat.reduceLT, List.length_map, List.length_range, splice, vcA, ↓vcB, vcC, fbFe, e20]
    intro v
    exact Into.first ⟨(0, v), Nat.zero_le _⟩ ⟨[], by simp⟩ (by simp [WL, leG_self, leG_any, hsG])
  · rintro ⟨⟨k, v⟩, hk⟩
    change k ≤ M.length at hk
    by_cases h : k < M.length
    · have d0 : ((k : Int) < (M.length : Int)) = True := eq_true (by omega)
      have cH := fun X => (iHashM ti so n M O k (by omega) (by omega)).keep2 rfl X
      have eT := takeH h
      have lT : (M.take k).length ≤ 100000 := by rw [List.length_take]; omega
      simp only [decide_eq_true h] at cH
      generalize M.getD k h0 = x at *
      generalize M.take k = L at *
      simp +contextual -implicitDefEqProofs (maxSteps := 2000000) (disch := omega) only [binV, optV, ↓loadV, ↓storeV, ↓allocV, ↓buildSliceV, ↓sliceV, ↓appendV, ↓srcV, bound, cutTag, hiTag, fillE, GVal.cells, grp, GVal.ofConst, ↓resV, resG, List.map, List.headD, List.take, List.drop, ↓reduceIte, Nat.reduceEqDiff, Nat.reduceAdd, Nat.reduceSub, Nat.reduceLeDiff, reduceCtorEq, implies_true, ne_eq, ↓asrcV, Tag.cap, List.replicate, allSolid, GVal.solid, Nat.reduceBEq, Nat.reduceMul, Nat.reduceLT, List.length_map, List.length_range, splice, vcA, ↓vcB, vcC, fbFe, e20]
      refine (cM _).mono ?_
      rintro g O' ⟨rfl, rfl⟩
      simp +contextual -implicitDefEqProofs (maxSteps := 2000000) (disch := omega) only [binV, optV, ↓loadV, ↓storeV, ↓allocV, ↓buildSliceV, ↓sliceV, ↓appendV, ↓srcV, bound, cutTag, hiTag, fillE, GVal.cells, grp, GVal.ofConst, ↓resV, resG, List.map, List.headD, List.take, List.drop, ↓reduceIte, Nat.reduceEqDiff, Nat.reduceAdd, Nat.reduceSub, Nat.reduceLeDiff, reduceCtorEq, implies_true, ne_eq, ↓asrcV, Tag.cap, List.replicate, allSolid, GVal.solid, Nat.reduceBEq, Nat.reduceMul, Nat.reduceLT, List.length_map, List.length_range, splice, vcA, ↓vcB, vcC, fbFe, e20, d0]
      refine (cH _).mono ?_
      rintro g O' ⟨rfl, rfl⟩
      simp +contextual -implicitDefEqProofs (maxSteps := 2000000) (disch := omega) only [binV, optV, ↓loadV, ↓storeV, ↓allocV, ↓buildSliceV, ↓sliceV, ↓appendV, ↓srcV, bound, cutTag, hiTag, fillE, GVal.cells, grp, GVal.ofConst, ↓resV, resG, List.map, List.headD, List.take, List.drop, ↓reduceIte, Nat.reduceEqDiff, Nat.reduceAdd, Nat.reduceSub, Nat.reduceLeDiff, reduceCtorEq, implies_true, ne_eq, ↓asrcV, Tag.cap, List.replicate, allSolid, GVal.solid, Nat.reduceBEq, Nat.reduceMul, Nat.reduceLT, List.length_map, List.length_range, splice, vcA, ↓vcB, vcC, fbFe, e20, hsG_len, all_hsG, take32, len32, solidH]
      refine fun sc => ⟨by omega, by omega, fun v2 => ?_⟩
      have e2 : hsG L ++ [bytesG x.1] = hsG (M.take (k + 1)) := by rw [eT, hsG_app]; rfl
      rw [e2]
      exact Into.at ⟨(k + 1, v2), h⟩ (by show _ < _; simp; omega) ⟨[.row sc 32 [bytesG x.1]], by simp⟩ (by simp [WL, leG_self, leG_any, leG_int])
    · have d0 : ((k : Int) < (M.length : Int)) = False := eq_false (by omega)
      have ek : k = M.length := by omega
      subst ek
      rw [List.take_length]
      simp +contextual -implicitDefEqProofs (maxSteps := 2000000) (disch := omega) only [binV, optV, ↓loadV, ↓storeV, ↓allocV, ↓buildSliceV, ↓sliceV, ↓appendV, ↓srcV, bound, cutTag, hiTag, fillE, GVal.cells, grp, GVal.ofConst, ↓resV, resG, List.map, List.headD, List.take, List.drop, ↓reduceIte, Nat.reduceEqDiff, Nat.reduceAdd, Nat.reduceSub, Nat.reduceLeDiff, reduceCtorEq, implies_true, ne_eq, ↓asrcV, Tag.cap, List.replicate, allSolid, GVal.solid, Nat.reduceBEq, Nat.reduceMul, Nat.reduceLT, List.length_map, List.length_range, splice, vcA, ↓vcB, vcC, fbFe, e20]
      refine (cM _).mono ?_
      rintro g O' ⟨rfl, rfl⟩
      simp +contextual -implicitDefEqProofs (maxSteps := 2000000) (disch := omega) only [binV, optV, ↓loadV, ↓storeV, ↓allocV, ↓buildSliceV, ↓sliceV, ↓appendV, ↓srcV, bound, cutTag, hiTag, fillE, GVal.cells, grp, GVal.ofConst, ↓resV, resG, List.map, List.headD, List.take, List.drop, ↓reduceIte, Nat.reduceEqDiff, Nat.reduceAdd, Nat.reduceSub, Nat.reduceLeDiff, reduceCtorEq, implies_true, ne_eq, ↓asrcV, Tag.cap, List.replicate, allSolid, GVal.solid, Nat.reduceBEq, Nat.reduceMul, Nat.reduceLT, List.length_map, List.length_range, splice, vcA, ↓vcB, vcC, fbFe, e20, d0]
      refine vcSLoop_by (ι := { p : Nat × Nat // p.1 ≤ O.length }) (fun p => ⟨[.ptr 0 ti 0 0, .any, .any, .slice (hsG (M ++ O.take p.1.1)) (.tok 2 p.1.2), .any, .any, .any, .int .i64 (p.1.1 : Nat)] ++ List.replicate 36 .any, idO ti so n M O ++ [.tok p.1.2 32]⟩) (fun p => O.length - p.1.1) ?_ ?_
      · exact Into.first ⟨(0, v), Nat.zero_le _⟩ ⟨[], by simp⟩ (by simp [WL, leG_self, leG_any])
      · clear cM hk h d0
        clear v
        rintro ⟨⟨k, v⟩, hk⟩
        change k ≤ O.length at hk
        by_cases h : k < O.length
        · have d0 : ((k : Int) < (O.length : Int)) = True := eq_true (by omega)
          have cH := fun X => (iHashO ti so n M O k (by omega) (by omega)).keep2 rfl X
          have eT : M ++ O.take (k + 1) = (M ++ O.take k) ++ [O.getD k h0] := by rw [takeH h, List.append_assoc]
          have lT : (M ++ O.take k).length ≤ 200000 := by rw [List.length_append, List.length_take]; omega
          simp only [decide_eq_true h] at cH
          generalize O.getD k h0 = x at *
          generalize M ++ O.take k = L at *
          simp +contextual -implicitDefEqProofs (maxSteps := 2000000) (disch := omega) only [binV, optV, ↓loadV, ↓storeV, ↓allocV, ↓buildSliceV, ↓sliceV, ↓appendV, ↓srcV, bound, cutTag, hiTag, fillE, GVal.cells, grp, GVal.ofConst, ↓resV, resG, List.map, List.headD, List.take, List.drop, ↓reduceIte, Nat.reduceEqDiff, Nat.reduceAdd, Nat.reduceSub, Nat.reduceLeDiff, reduceCtorEq, implies_true, ne_eq, ↓asrcV, Tag.cap, List.replicate, allSolid, GVal.solid, Nat.reduceBEq, Nat.reduceMul, Nat.reduceLT, List.length_map, List.length_range, splice, vcA, ↓vcB, vcC, fbFe, e20]
          refine (cO _).mono ?_
          rintro g O' ⟨rfl, rfl⟩
          simp +contextual -implicitDefEqProofs (maxSteps := 2000000) (disch := omega) only [binV, optV, ↓loadV, ↓storeV, ↓allocV, ↓buildSliceV, ↓sliceV, ↓appendV, ↓srcV, bound, cutTag, hiTag, fillE, GVal.cells, grp, GVal.ofConst, ↓resV, resG, List.map, List.headD, List.take, List.drop, ↓reduceIte, Nat.reduceEqDiff, Nat.reduceAdd, Nat.reduceSub, Nat.reduceLeDiff, reduceCtorEq, implies_true, ne_eq, ↓asrcV, Tag.cap, List.replicate, allSolid, GVal.solid, Nat.reduceBEq, Nat.reduceMul, Nat.reduceLT, List.length_map, List.length_range, splice, vcA, ↓vcB, vcC, fbFe, e20, d0]
          refine (cH _).mono ?_
          rintro g O' ⟨rfl, rfl⟩
          simp +contextual -implicitDefEqProofs (maxSteps := 2000000) (disch := omega) only [binV, optV, ↓loadV, ↓storeV, ↓allocV, ↓buildSliceV, ↓sliceV, ↓appendV, ↓srcV, bound, cutTag, hiTag, fillE, GVal.cells, grp, GVal.ofConst, ↓resV, resG, List.map, List.headD, List.take, List.drop, ↓reduceIte, Nat.reduceEqDiff, Nat.reduceAdd, Nat.reduceSub, Nat.reduceLeDiff, reduceCtorEq, implies_true, ne_eq, ↓asrcV, Tag.cap, List.replicate, allSolid, GVal.solid, Nat.reduceBEq, Nat.reduceMul, Nat.reduceLT, List.length_map, List.length_range, splice, vcA, ↓vcB, vcC, fbFe, e20, hsG_len, all_hsG, take32, len32, solidH]
          refine fun sc => ⟨by omega, by omega, fun v2 => ?_⟩
          have e2 : hsG L ++ [bytesG x.1] = hsG (M ++ O.take (k + 1)) := by rw [eT, hsG_app]; rfl
          rw [e2]
          exact Into.at ⟨(k + 1, v2), h⟩ (by show _ < _; simp; omega) ⟨[.row sc 32 [bytesG x.1]], by simp⟩ (by simp [WL, leG_self, leG_any, leG_int])
        · have d0 : ((k : Int) < (O.length : Int)) = False := eq_false (by omega)
          have ek : k = O.length := by omega
          subst ek
          rw [List.take_length]
          simp +contextual -implicitDefEqProofs (maxSteps := 2000000) (disch := omega) only [binV, optV, ↓loadV, ↓storeV, ↓allocV, ↓buildSliceV, ↓sliceV, ↓appendV, ↓srcV, bound, cutTag, hiTag, fillE, GVal.cells, grp, GVal.ofConst, ↓resV, resG, List.map, List.headD, List.take, List.drop, ↓reduceIte, Nat.reduceEqDiff, Nat.reduceAdd, Nat.reduceSub, Nat.reduceLeDiff, reduceCtorEq, implies_true, ne_eq, ↓asrcV, Tag.cap, List.replicate, allSolid, GVal.solid, Nat.reduceBEq, Nat.reduceMul, Nat.reduceLT, List.length_map, List.length_range, splice, vcA, ↓vcB, vcC, fbFe, e20]
          refine (cO _).mono ?_
          rintro g O' ⟨rfl, rfl⟩
          simp +contextual -implicitDefEqProofs (maxSteps := 2000000) (disch := omega) only [binV, optV, ↓loadV, ↓storeV, ↓allocV, ↓buildSliceV, ↓sliceV, ↓appendV, ↓srcV, bound, cutTag, hiTag, fillE, GVal.cells, grp, GVal.ofConst, ↓resV, resG, List.map, List.headD, List.take, List.drop, ↓reduceIte, Nat.reduceEqDiff, Nat.reduceAdd, Nat.reduceSub, Nat.reduceLeDiff, reduceCtorEq, implies_true, ne_eq, ↓asrcV, Tag.cap, List.replicate, allSolid, GVal.solid, Nat.reduceBEq, Nat.reduceMul, Nat.reduceLT, List.length_map, List.length_range, splice, vcA, ↓vcB, vcC, fbFe, e20, d0]
          exact ⟨.slice (hsG (M ++ O)) .none, idO ti so n M O, [.tok v 32], rfl, by rw [leA_slice], rfl, rfl⟩
end Gv.Try
/- Contracts: graph's Ancestors. -/
set_option linter.unusedVariables false
set_option linter.unusedSimpArgs false
set_option maxRecDepth 20000
set_option maxHeartbeats 4000000
namespace Gv.Try
open Go Gv Go.Proofs
theorem gAnc1 (m : GM) (h : Hs) (st s : Nat) (l : List Hs) (el : look m h = some l) : GCalls Try.prog 38 [.agg (bytesG h.1), .ref [.ptr 0 st 0 0]] (gObj st s m) (fun g O' => g = .slice (hsG l) .none ∧ O' = gObj st s m) := by
  obtain ⟨i, hi, hv, _⟩ := look_idx encL m h l el
  refine h38.calls mixS (by simp) ?_
  simp only [gstart, s38, List.cons_append, List.nil_append, List.length_cons, List.length_nil, Nat.reduceAdd, Nat.reduceSub, List.replicate_succ, List.replicate_zero]
  simp +contextual -implicitDefEqProofs (maxSteps := 2000000) (disch := omega) only [drawC, drawK, keepT, optV, ↓loadV, ↓fieldAddrV, ↓boxV, ↓sliceV, ↓nilV, bound, cutTag, hiTag, GVal.cells, grp, GVal.ofConst, ↓resV, resG, List.map, List.headD, List.take, List.drop, ↓reduceIte, Nat.reduceEqDiff, Nat.reduceAdd, Nat.reduceSub, Nat.reduceLeDiff, reduceCtorEq, implies_true, ne_eq, ↓lookupV, keyOk, keyCells, pairG, Tag.cap, List.replicate, allSolid, GVal.solid, Nat.reduceBEq, Nat.reduceMul, Nat.reduceLT, List.length_map, List.length_range, splice, vcA, ↓vcB, vcC, fbFe, e38, kfind_h, hi, hv, solidH, len32, take32]
theorem gAnc0 (m : GM) (h : Hs) (st s : Nat) (el : look m h = none) : GCalls Try.prog 38 [.agg (bytesG h.1), .ref [.ptr 0 st 0 0]] (gObj st s m) (fun g O' => g = .slice [] .nil ∧ O' = gObj st s m) := by
  obtain ⟨hi, _⟩ := look_none encL m h el
  refine h38.calls mixS (by simp) ?_
  simp only [gstart, s38, List.cons_append, List.nil_append, List.length_cons, List.length_nil, Nat.reduceAdd, Nat.reduceSub, List.replicate_succ, List.replicate_zero]
  simp +contextual -implicitDefEqProofs (maxSteps := 2000000) (disch := omega) only [drawC, drawK, keepT, optV, ↓loadV, ↓fieldAddrV, ↓boxV, ↓sliceV, ↓nilV, bound, cutTag, hiTag, GVal.cells, grp, GVal.ofConst, ↓resV, resG, List.map, List.headD, List.take, List.drop, ↓reduceIte, Nat.reduceEqDiff, Nat.reduceAdd, Nat.reduceSub, Nat.reduceLeDiff, reduceCtorEq, implies_true, ne_eq, ↓lookupV, keyOk, keyCells, pairG, Tag.cap, List.replicate, allSolid, GVal.solid, Nat.reduceBEq, Nat.reduceMul, Nat.reduceLT, List.length_map, List.length_range, splice, vcA, ↓vcB, vcC, fbFe, e38, kfind_h, hi, solidH, len32, take32]
theorem gAncN (m : GM) (h : Hs) (st s : Nat) : GCalls Try.prog 38 [.agg (bytesG h.1), .ref [.ptr 0 st 0 0]] (gObj st s m) (fun g O' => g = .slice (hsG (parsM m h)) .none ∧ O' = gObj st s m) := by
  cases el : look m h with
  | some l => rw [parsM_some el]; exact gAnc1 m h st s l el
  | none =>
    rw [parsM_none el]
    refine GCalls.into ((gAnc0 m h st s el).mono ?_)
    rintro g O' ⟨rfl, rfl⟩
    exact GInto.weak (O := gObj st s m) (X := []) (by rw [leG_none]; rfl) (.here ⟨rfl, rfl⟩)
def inM (m : GM) (l : List Hs) : List Hs := l.filter fun h => (look m h).isSome
noncomputable def ancL (m : GM) (l : List Hs) : List Hs := by
  classical exact sortR ((l ++ hashesM m).filter fun x => decide (Reach (parsM m) (inM m l) x))
theorem ancL_ss (m : GM) (l : List Hs) : SS (ancL m l) := sortR_ss _
theorem ancL_mem (m : GM) (l : List Hs) (x : Hs) : x ∈ ancL m l ↔ Reach (parsM m) (inM m l) x := by
  classical
  unfold ancL
  rw [sortR_mem, List.mem_filter, decide_eq_true_eq]
  refine ⟨fun h => h.2, fun h => ⟨?_, h⟩⟩
  cases h with
  | base x hx => exact List.mem_append_left _ (List.mem_filter.1 hx).1
  | step x y _ hy => exact List.mem_append_right _ (pars_in hy)
theorem gAncestors (m : GM) (hm : GMOK m) (st s : Nat) (l : List Hs) (t : Tag) (ht : t = .nil → l = []) (hl : l.length ≤ 10000) : GCalls Try.prog 12 [.ptr 0 st 0 0, .slice (hsG l) t] (gObj st s m) (fun g O' => g = .slice (hsG (ancL m l)) .none ∧ O' = gObj st s m) := by
  have hfl : (inM m l).length ≤ l.length := List.length_filter_le _ _
  have cT := gThere m st s l t ht (by omega)
  have cR := gReached (caps := [.ref [.ptr 0 st 0 0]]) (parsM m) (fun h => gAncN m h st s) rfl (inM m l) .none (by simp) (inM m l ++ hashesM m) (fun x hx => List.mem_append_left _ hx) (fun x _ y hy => List.mem_append_right _ (pars_in hy)) 4 (fun x _ => hm.pars x) (by have := hm.hashes; rw [List.length_append]; omega) (by omega) (by omega)
  refine GCalls.dropTo ?_
  refine h12.calls mixS (by simp) ?_
  simp only [gstart, s12, List.cons_append, List.nil_append, List.length_cons, List.length_nil, Nat.reduceAdd, Nat.reduceSub, List.replicate_succ, List.replicate_zero]
  simp +contextual -implicitDefEqProofs (maxSteps := 2000000) (disch := omega) only [optV, ↓loadV, ↓boxV, ↓sliceV, bound, cutTag, hiTag, GVal.cells, grp, GVal.ofConst, ↓resV, resG, List.map, List.headD, List.take, List.drop, ↓reduceIte, Nat.reduceEqDiff, Nat.reduceAdd, Nat.reduceSub, Nat.reduceLeDiff, reduceCtorEq, implies_true, ne_eq, Tag.cap, List.replicate, allSolid, GVal.solid, Nat.reduceBEq, Nat.reduceMul, Nat.reduceLT, List.length_map, List.length_range, splice, vcA, ↓vcB, vcC, fbFe, e12]
  refine cT.mono ?_
  rintro g O' ⟨rfl, rfl⟩
  simp +contextual -implicitDefEqProofs (maxSteps := 2000000) (disch := omega) only [optV, ↓loadV, ↓boxV, ↓sliceV, bound, cutTag, hiTag, GVal.cells, grp, GVal.ofConst, ↓resV, resG, List.map, List.headD, List.take, List.drop, ↓reduceIte, Nat.reduceEqDiff, Nat.reduceAdd, Nat.reduceSub, Nat.reduceLeDiff, reduceCtorEq, implies_true, ne_eq, Tag.cap, List.replicate, allSolid, GVal.solid, Nat.reduceBEq, Nat.reduceMul, Nat.reduceLT, List.length_map, List.length_range, splice, vcA, ↓vcB, vcC, fbFe, e12]
  refine cR.mono ?_
  rintro g O' ⟨s2, S, rfl, rfl, hS, hR, hSl⟩
  have hh := hm.hashes
  rw [List.length_append] at hSl
  have eA : sortR ((setM S).map (·.1)) = ancL m l := ss_eq (sortR_ss _) (ancL_ss m l) fun z => by
    rw [sortR_mem, ancL_mem, ← hR z]; simp [setM]
  have cS := gSorted encB (setM S) (by simp [setM]; omega) s2
  rw [eA] at cS
  have cS2 : GCalls Try.prog 35 [.map 0 s2] [.map s2 (kvG encB (setM S))] (fun g O' => ∃ x', O' = [x'] ∧ (g = .slice (hsG (ancL m l)) .none ∧ x' = .map s2 (kvG encB (setM S)))) := cS.mono (by rintro g O' ⟨rfl, rfl⟩; exact ⟨_, rfl, rfl, rfl⟩)
  have cS3 := GCalls.keep1 (args' := [.map 2 s2]) cS2 (O := gObj st s m ++ [.map s2 (kvG encB (setM S))]) 2 rfl rfl rfl rfl
  simp +contextual -implicitDefEqProofs (maxSteps := 2000000) (disch := omega) only [optV, ↓loadV, ↓boxV, ↓sliceV, bound, cutTag, hiTag, GVal.cells, grp, GVal.ofConst, ↓resV, resG, List.map, List.headD, List.take, List.drop, ↓reduceIte, Nat.reduceEqDiff, Nat.reduceAdd, Nat.reduceSub, Nat.reduceLeDiff, reduceCtorEq, implies_true, ne_eq, Tag.cap, List.replicate, allSolid, GVal.solid, Nat.reduceBEq, Nat.reduceMul, Nat.reduceLT, List.length_map, List.length_range, splice, vcA, ↓vcB, vcC, fbFe, e12]
  refine cS3.mono ?_
  rintro g O' ⟨rfl, rfl⟩
  simp +contextual -implicitDefEqProofs (maxSteps := 2000000) (disch := omega) only [optV, ↓loadV, ↓boxV, ↓sliceV, bound, cutTag, hiTag, GVal.cells, grp, GVal.ofConst, ↓resV, resG, List.map, List.headD, List.take, List.drop, ↓reduceIte, Nat.reduceEqDiff, Nat.reduceAdd, Nat.reduceSub, Nat.reduceLeDiff, reduceCtorEq, implies_true, ne_eq, Tag.cap, List.replicate, allSolid, GVal.solid, Nat.reduceBEq, Nat.reduceMul, Nat.reduceLT, List.length_map, List.length_range, splice, vcA, ↓vcB, vcC, fbFe, e12]
  exact ⟨_, gObj st s m, [.map s2 (kvG encB (setM S))], rfl, leA_refl _, rfl, rfl⟩
end Gv.Try
/- Contracts: order's Rising. -/
set_option linter.unusedVariables false
set_option linter.unusedSimpArgs false
set_option maxRecDepth 20000
set_option maxHeartbeats 4000000
namespace Gv.Try
open Go Gv Go.Proofs
def plM : List Hs → Int → List (Hs × Int)
  | [], _ => []
  | h :: r, n => (h, n) :: plM r (n + 1)
theorem plM_app (a : List Hs) (x : Hs) : ∀ n : Int, plM (a ++ [x]) n = plM a n ++ [(x, n + (a.length : Nat))] := by
  induction a with
  | nil => intro n; simp [plM]
  | cons h r ih =>
    intro n
    rw [List.cons_append, plM, ih, plM, List.cons_append, List.length_cons, show n + 1 + ((r.length : Nat) : Int) = n + ((r.length + 1 : Nat) : Int) by omega]
theorem look_pl (l : List Hs) (x : Hs) : ∀ n : Int, x ∉ l → look (plM l n) x = none := by
  induction l with
  | nil => intro n _; rfl
  | cons h r ih => intro n hx; rw [plM, look, if_neg (fun e => hx (by rw [show x = h from e]; simp)), ih _ (fun q => hx (by simp [q]))]
theorem look_pl_at (l : List Hs) (x : Hs) : ∀ (n : Int) (j : Nat), l.Nodup → l[j]? = some x → look (plM l n) x = some (n + (j : Nat)) := by
  induction l with
  | nil => intro n j _ h; simp at h
  | cons h r ih =>
    intro n j hn hj
    obtain ⟨h1, h2⟩ := List.nodup_cons.1 hn
    cases j with
    | zero =>
      have e : h = x := by simpa using hj
      rw [plM, look, if_pos e.symm]; simp
    | succ j =>
      have hj : r[j]? = some x := by simpa using hj
      have hm := List.mem_of_getElem? hj
      rw [plM, look, if_neg (fun e => h1 (by rw [← show x = h from e]; exact hm)), ih _ j h2 hj]
      congr 1; omega
theorem mset_pl (l : List Hs) (x : Hs) (n : Int) (hx : x ∉ l) : mset (plM l n) x (n + (l.length : Nat)) = plM (l ++ [x]) n := by
  have key : ∀ (m : List (Hs × Int)) (v : Int), look m x = none → mset m x v = m ++ [(x, v)] := by
    intro m v
    induction m with
    | nil => intro _; rfl
    | cons p r ih =>
      intro h
      rw [look] at h
      by_cases e : x = p.1
      · rw [if_pos e] at h; cases h
      · rw [if_neg e] at h; rw [mset, if_neg e, ih h]; rfl
  rw [key _ _ (look_pl l x n hx), plM_app]
theorem ss_nodup {a : List Hs} (h : SS a) : a.Nodup := h.imp fun {x y} q e => by rw [e] at q; exact LT.irrefl _ q
theorem ancL_len (m : GM) (hm : GMOK m) (l : List Hs) : (ancL m l).length ≤ l.length + 50000 := by
  have := nodup_lenH (ancL m l) (l ++ hashesM m) (ss_nodup (ancL_ss m l)) fun x hx => by
    have h := (ancL_mem m l x).1 hx
    cases h with
    | base x hx => exact List.mem_append_left _ (List.mem_filter.1 hx).1
    | step x y _ hy => exact List.mem_append_right _ (pars_in hy)
  have h2 := hm.hashes
  rw [List.length_append] at this
  omega
def RisingP (m : GM) (l : List Hs) : Prop := l.Nodup ∧ (∀ h ∈ l, (look m h).isSome = true) ∧ ∀ (k : Nat) h x, l[k]? = some h → x ∈ ancL m [h] → ∀ j : Nat, l[j]? = some x → j ≤ k
noncomputable def risingB (m : GM) (l : List Hs) : Bool := by classical exact if RisingP m l then true else false
theorem risingB_no {m : GM} {l : List Hs} (h : ¬ RisingP m l) : risingB m l = false := by unfold risingB; exact if_neg h
theorem risingB_yes {m : GM} {l : List Hs} (h : RisingP m l) : risingB m l = true := by unfold risingB; exact if_pos h
theorem gRising (m : GM) (hm : GMOK m) (st s : Nat) (l : List Hs) (t : Tag) (hl : l.length ≤ 10000) : GCalls Try.prog 19 [.ptr 0 st 0 0, .slice (hsG l) t] (gObj st s m) (fun g O' => g = .bool (risingB m l) ∧ O' = gObj st s m) := by
  refine GCalls.dropTo ?_
  refine h19.calls mixS (by simp) ?_
  simp only [gstart, s19, List.cons_append, List.nil_append, List.length_cons, List.length_nil, Nat.reduceAdd, Nat.reduceSub, List.replicate_succ, List.replicate_zero]
  simp +contextual -implicitDefEqProofs (maxSteps := 2000000) (disch := omega) only [↓lenV, binV, ↓unV, ↓loadV, ↓storeV, ↓indexAddrV, ↓allocV, ↓buildSliceV, fillE, GVal.cells, grp, GVal.ofConst, ↓resV, resG, List.map, List.headD, List.take, List.drop, ↓reduceIte, Nat.reduceEqDiff, Nat.reduceAdd, Nat.reduceSub, Nat.reduceLeDiff, reduceCtorEq, implies_true, ne_eq, ↓lookupV, ↓mapUpdateV, ↓makeMapV, keyOk, keyCells, pairG, aggV, Tag.cap, List.replicate, allSolid, GVal.solid, Nat.reduceBEq, Nat.reduceMul, Nat.reduceLT, List.length_map, List.length_range, splice, vcA, ↓vcB, vcC, fbFe, e19, hsG_len]
  intro s3
  refine vcSLoop_by (ι := { k : Nat // k ≤ l.length ∧ (l.take k).Nodup ∧ ∀ h ∈ l.take k, (look m h).isSome = true }) (fun k => ⟨[.ptr 0 st 0 0, .slice (hsG l) t, .any, .any, .any, .map 2 s3] ++ List.replicate 13 .any ++ [.slice (hsG l) t, .int .i64 l.length, .int .i64 (k.1 : Nat)] ++ List.replicate 51 .any, [.row st 1 [[.map 1 s]], .map s (kvG encL m), .map s3 (kvG encI (plM (l.take k.1) 0))]⟩) (fun k => l.length - k.1) ?_ ?_
  · exact Into.first ⟨0, by omega, by simp, by simp⟩ ⟨[], by simp [plM, kvG]⟩ (by simp [WL, leG_self, leG_any])
  · rintro ⟨k, hk, hnd, hth⟩
    change k ≤ l.length at hk
    have hnd : (l.take k).Nodup := hnd
    have hth : ∀ h ∈ l.take k, (look m h).isSome = true := hth
    by_cases h : k < l.length
    · have d0 : ((k : Int) < (l.length : Int)) = True := eq_true (by omega)
      have eS := hsG_at l k h
      have eg : l.getD k h0 = l[k] := by simp [List.getD, h]
      rw [eg] at eS
      have ht : l.take (k + 1) = l.take k ++ [l[k]] := List.take_succ_eq_append_getElem h
      have hat : l[k]? = some l[k] := List.getElem?_eq_getElem h
      have hesp : l = l.take k ++ l[k] :: l.drop (k + 1) := by
        have := List.take_append_drop k l
        rw [List.drop_eq_getElem_cons h] at this
        exact this.symm
      generalize l[k] = x at eS ht hat hesp
      by_cases hx : x ∈ l.take k
      · have hno : ¬ RisingP m l := by
          rintro ⟨q, _⟩
          rw [hesp] at q
          exact (List.nodup_append.1 q).2.2 x hx x (by simp) rfl
        have eR := risingB_no hno
        obtain ⟨j, hj⟩ := List.getElem?_of_mem hx
        obtain ⟨i, hi, hv, _⟩ := look_idx encI _ x _ (look_pl_at (l.take k) x 0 j hnd hj)
        simp +contextual -implicitDefEqProofs (maxSteps := 2000000) (disch := omega) only [↓lenV, binV, ↓unV, ↓loadV, ↓storeV, ↓indexAddrV, ↓allocV, ↓buildSliceV, fillE, GVal.cells, grp, GVal.ofConst, ↓resV, resG, List.map, List.headD, List.take, List.drop, ↓reduceIte, Nat.reduceEqDiff, Nat.reduceAdd, Nat.reduceSub, Nat.reduceLeDiff, reduceCtorEq, implies_true, ne_eq, ↓lookupV, ↓mapUpdateV, ↓makeMapV, keyOk, keyCells, pairG, aggV, Tag.cap, List.replicate, allSolid, GVal.solid, Nat.reduceBEq, Nat.reduceMul, Nat.reduceLT, List.length_map, List.length_range, splice, vcA, ↓vcB, vcC, fbFe, e19, hsG_len, toNat0, Nat.sub_zero, d0, eS, kfind_h, hi, hv, len32, take32, solidH, true_imp_iff, eR]
        exact ⟨by omega, fun u => ⟨_, gObj st s m, [.map s3 (kvG encI (plM (l.take k) 0)), .row u 32 [bytesG x.1]], rfl, leA_refl _, rfl, rfl⟩⟩
      · obtain ⟨hi, hw⟩ := look_none encI _ x (look_pl (l.take k) x 0 hx)
        have hw := hw (k : Int)
        have hms : mset (plM (l.take k) 0) x (k : Int) = plM (l.take (k + 1)) 0 := by
          have := mset_pl (l.take k) x 0 hx
          rw [List.length_take, Nat.min_eq_left hk, Int.zero_add] at this
          rw [this, ht]
        rw [hms] at hw
        have cH := (gHas m x st s).keep2 rfl
        cases hlk : look m x with
        | none =>
          have hno : ¬ RisingP m l := fun q => by
            have := q.2.1 x (List.mem_of_getElem? hat)
            rw [hlk] at this; cases this
          have eR := risingB_no hno
          rw [hlk] at cH
          simp +contextual -implicitDefEqProofs (maxSteps := 2000000) (disch := omega) only [↓lenV, binV, ↓unV, ↓loadV, ↓storeV, ↓indexAddrV, ↓allocV, ↓buildSliceV, fillE, GVal.cells, grp, GVal.ofConst, ↓resV, resG, List.map, List.headD, List.take, List.drop, ↓reduceIte, Nat.reduceEqDiff, Nat.reduceAdd, Nat.reduceSub, Nat.reduceLeDiff, reduceCtorEq, implies_true, ne_eq, ↓lookupV, ↓mapUpdateV, ↓makeMapV, keyOk, keyCells, pairG, aggV, Tag.cap, List.replicate, allSolid, GVal.solid, Nat.reduceBEq, Nat.reduceMul, Nat.reduceLT, List.length_map, List.length_range, splice, vcA, ↓vcB, vcC, fbFe, e19, hsG_len, toNat0, Nat.sub_zero, d0, eS, kfind_h, hi, len32, take32, solidH, true_imp_iff, eR]
          refine ⟨by omega, fun u => (cH _).mono ?_⟩
          rintro g O' ⟨rfl, rfl⟩
          simp +contextual -implicitDefEqProofs (maxSteps := 2000000) (disch := omega) only [↓lenV, binV, ↓unV, ↓loadV, ↓storeV, ↓indexAddrV, ↓allocV, ↓buildSliceV, fillE, GVal.cells, grp, GVal.ofConst, ↓resV, resG, List.map, List.headD, List.take, List.drop, ↓reduceIte, Nat.reduceEqDiff, Nat.reduceAdd, Nat.reduceSub, Nat.reduceLeDiff, reduceCtorEq, implies_true, ne_eq, ↓lookupV, ↓mapUpdateV, ↓makeMapV, keyOk, keyCells, pairG, aggV, Tag.cap, List.replicate, allSolid, GVal.solid, Nat.reduceBEq, Nat.reduceMul, Nat.reduceLT, List.length_map, List.length_range, splice, vcA, ↓vcB, vcC, fbFe, e19, eR, Option.isSome_none]
          exact ⟨_, gObj st s m, [.map s3 (kvG encI (plM (l.take k) 0)), .row u 32 [bytesG x.1]], rfl, leA_refl _, rfl, rfl⟩
        | some v =>
          rw [hlk] at cH
          simp +contextual -implicitDefEqProofs (maxSteps := 2000000) (disch := omega) only [↓lenV, binV, ↓unV, ↓loadV, ↓storeV, ↓indexAddrV, ↓allocV, ↓buildSliceV, fillE, GVal.cells, grp, GVal.ofConst, ↓resV, resG, List.map, List.headD, List.take, List.drop, ↓reduceIte, Nat.reduceEqDiff, Nat.reduceAdd, Nat.reduceSub, Nat.reduceLeDiff, reduceCtorEq, implies_true, ne_eq, ↓lookupV, ↓mapUpdateV, ↓makeMapV, keyOk, keyCells, pairG, aggV, Tag.cap, List.replicate, allSolid, GVal.solid, Nat.reduceBEq, Nat.reduceMul, Nat.reduceLT, List.length_map, List.length_range, splice, vcA, ↓vcB, vcC, fbFe, e19, hsG_len, toNat0, Nat.sub_zero, d0, eS, kfind_h, hi, hw, len32, take32, solidH, true_imp_iff]
          refine ⟨by omega, fun u => (cH _).mono ?_⟩
          rintro g O' ⟨rfl, rfl⟩
          simp +contextual -implicitDefEqProofs (maxSteps := 2000000) (disch := omega) only [↓lenV, binV, ↓unV, ↓loadV, ↓storeV, ↓indexAddrV, ↓allocV, ↓buildSliceV, fillE, GVal.cells, grp, GVal.ofConst, ↓resV, resG, List.map, List.headD, List.take, List.drop, ↓reduceIte, Nat.reduceEqDiff, Nat.reduceAdd, Nat.reduceSub, Nat.reduceLeDiff, reduceCtorEq, implies_true, ne_eq, ↓lookupV, ↓mapUpdateV, ↓makeMapV, keyOk, keyCells, pairG, aggV, Tag.cap, List.replicate, allSolid, GVal.solid, Nat.reduceBEq, Nat.reduceMul, Nat.reduceLT, List.length_map, List.length_range, splice, vcA, ↓vcB, vcC, fbFe, e19, Option.isSome_some, kfind_h, hi, hw, len32, take32, solidH]
          refine Into.at ⟨k + 1, by show k + 1 ≤ l.length; omega, ?_, ?_⟩ (by show l.length - (k + 1) < l.length - k; omega) ⟨[.row u 32 [bytesG x.1]], by simp⟩ (by simp [WL, leG_self, leG_any, leG_int])
          · rw [ht]
            exact List.nodup_append.2 ⟨hnd, by simp, fun a ha b hb => by rw [List.mem_singleton.1 hb]; exact fun e => hx (e ▸ ha)⟩
          · rw [ht]
            intro y hy
            rcases List.mem_append.1 hy with q | q
            · exact hth y q
            · rw [List.mem_singleton.1 q, hlk]; rfl
    · have d0 : ((k : Int) < (l.length : Int)) = False := eq_false (by omega)
      have htl : l.take k = l := List.take_of_length_le (by omega)
      rw [htl] at hnd hth
      simp +contextual -implicitDefEqProofs (maxSteps := 2000000) (disch := omega) only [↓lenV, binV, ↓unV, ↓loadV, ↓storeV, ↓indexAddrV, ↓allocV, ↓buildSliceV, fillE, GVal.cells, grp, GVal.ofConst, ↓resV, resG, List.map, List.headD, List.take, List.drop, ↓reduceIte, Nat.reduceEqDiff, Nat.reduceAdd, Nat.reduceSub, Nat.reduceLeDiff, reduceCtorEq, implies_true, ne_eq, ↓lookupV, ↓mapUpdateV, ↓makeMapV, keyOk, keyCells, pairG, aggV, Tag.cap, List.replicate, allSolid, GVal.solid, Nat.reduceBEq, Nat.reduceMul, Nat.reduceLT, List.length_map, List.length_range, splice, vcA, ↓vcB, vcC, fbFe, e19, d0, htl, hsG_len]
      refine vcSLoop_by (ι := { k : Nat // k ≤ l.length ∧ ∀ k' : Nat, k' < k → ∀ h x, l[k']? = some h → x ∈ ancL m [h] → ∀ j : Nat, l[j]? = some x → j ≤ k' }) (fun k => ⟨[.ptr 0 st 0 0, .slice (hsG l) t, .any, .any, .any, .map 2 s3] ++ List.replicate 37 .any ++ [.slice (hsG l) t, .int .i64 l.length, .int .i64 (k.1 : Nat)] ++ List.replicate 27 .any, [.row st 1 [[.map 1 s]], .map s (kvG encL m), .map s3 (kvG encI (plM l 0))]⟩) (fun k => l.length - k.1) ?_ ?_
      · exact Into.first ⟨0, by omega, by intro k' h; omega⟩ ⟨[], by simp⟩ (by simp [WL, leG_self, leG_any])
      · rintro ⟨k2, hk2, hgood⟩
        change k2 ≤ l.length at hk2
        have hgood : ∀ k' : Nat, k' < k2 → ∀ h x, l[k']? = some h → x ∈ ancL m [h] → ∀ j : Nat, l[j]? = some x → j ≤ k' := hgood
        by_cases h2 : k2 < l.length
        · have d2 : ((k2 : Int) < (l.length : Int)) = True := eq_true (by omega)
          have eS := hsG_at l k2 h2
          have eg : l.getD k2 h0 = l[k2] := by simp [List.getD, h2]
          rw [eg] at eS
          have hat : l[k2]? = some l[k2] := List.getElem?_eq_getElem h2
          generalize l[k2] = x at eS hat
          have cA := (gAncestors m hm st s [x] .full (by simp) (by simp)).keep2 rfl
          have hAl := ancL_len m hm [x]
          obtain ⟨A, hA⟩ : ∃ A, ancL m [x] = A := ⟨_, rfl⟩
          rw [hA] at cA hAl
          rw [List.length_singleton] at hAl
          simp +contextual -implicitDefEqProofs (maxSteps := 2000000) (disch := omega) only [↓lenV, binV, ↓unV, ↓loadV, ↓storeV, ↓indexAddrV, ↓allocV, ↓buildSliceV, fillE, GVal.cells, grp, GVal.ofConst, ↓resV, resG, List.map, List.headD, List.take, List.drop, ↓reduceIte, Nat.reduceEqDiff, Nat.reduceAdd, Nat.reduceSub, Nat.reduceLeDiff, reduceCtorEq, implies_true, ne_eq, ↓lookupV, ↓mapUpdateV, ↓makeMapV, keyOk, keyCells, pairG, aggV, Tag.cap, List.replicate, allSolid, GVal.solid, Nat.reduceBEq, Nat.reduceMul, Nat.reduceLT, List.length_map, List.length_range, splice, vcA, ↓vcB, vcC, fbFe, e19, hsG_len, toNat0, Nat.sub_zero, d2, eS, len32, take32, solidH, true_imp_iff]
          refine ⟨by omega, fun u => (cA _).mono ?_⟩
          rintro g O' ⟨rfl, rfl⟩
          simp +contextual -implicitDefEqProofs (maxSteps := 2000000) (disch := omega) only [↓lenV, binV, ↓unV, ↓loadV, ↓storeV, ↓indexAddrV, ↓allocV, ↓buildSliceV, fillE, GVal.cells, grp, GVal.ofConst, ↓resV, resG, List.map, List.headD, List.take, List.drop, ↓reduceIte, Nat.reduceEqDiff, Nat.reduceAdd, Nat.reduceSub, Nat.reduceLeDiff, reduceCtorEq, implies_true, ne_eq, ↓lookupV, ↓mapUpdateV, ↓makeMapV, keyOk, keyCells, pairG, aggV, Tag.cap, List.replicate, allSolid, GVal.solid, Nat.reduceBEq, Nat.reduceMul, Nat.reduceLT, List.length_map, List.length_range, splice, vcA, ↓vcB, vcC, fbFe, e19, hsG_len]
          refine vcSLoop_by (ι := { i : Nat // i ≤ A.length ∧ ∀ y ∈ A.take i, ∀ j : Nat, l[j]? = some y → j ≤ k2 }) (fun i => ⟨[.ptr 0 st 0 0, .slice (hsG l) t, .any, .any, .any, .map 2 s3] ++ List.replicate 4 .any ++ [.int .i64 (k2 : Nat)] ++ List.replicate 32 .any ++ [.slice (hsG l) t, .int .i64 l.length, .int .i64 (k2 : Nat)] ++ List.replicate 7 .any ++ [.slice (hsG A) .none, .int .i64 A.length, .int .i64 (i.1 : Nat)] ++ List.replicate 17 .any, [.row st 1 [[.map 1 s]], .map s (kvG encL m), .map s3 (kvG encI (plM l 0))]⟩) (fun i => A.length - i.1) ?_ ?_
          · exact Into.first ⟨0, by omega, by simp⟩ ⟨[.row u 32 [bytesG x.1]], by simp⟩ (by simp [WL, leG_self, leG_any])
          · rintro ⟨i, hi2, hin⟩
            change i ≤ A.length at hi2
            have hin : ∀ y ∈ A.take i, ∀ j : Nat, l[j]? = some y → j ≤ k2 := hin
            by_cases h3 : i < A.length
            · have d3 : ((i : Int) < (A.length : Int)) = True := eq_true (by omega)
              have eS3 := hsG_at A i h3
              have eg3 : A.getD i h0 = A[i] := by simp [List.getD, h3]
              rw [eg3] at eS3
              have ht3 : A.take (i + 1) = A.take i ++ [A[i]] := List.take_succ_eq_append_getElem h3
              have hyA : A[i] ∈ A := List.getElem_mem h3
              generalize A[i] = y at eS3 ht3 hyA
              by_cases hy : y ∈ l
              · obtain ⟨j, hj⟩ := List.getElem?_of_mem hy
                have hjl := (List.getElem?_eq_some_iff.1 hj).1
                have hlo := look_pl_at l y 0 j hnd hj
                rw [Int.zero_add] at hlo
                obtain ⟨ix, hi, hv, _⟩ := look_idx encI _ y _ hlo
                by_cases hjk : j ≤ k2
                · have d4 : ((k2 : Int) < (j : Int)) = False := eq_false (by omega)
                  simp +contextual -implicitDefEqProofs (maxSteps := 2000000) (disch := omega) only [↓lenV, binV, ↓unV, ↓loadV, ↓storeV, ↓indexAddrV, ↓allocV, ↓buildSliceV, fillE, GVal.cells, grp, GVal.ofConst, ↓resV, resG, List.map, List.headD, List.take, List.drop, ↓reduceIte, Nat.reduceEqDiff, Nat.reduceAdd, Nat.reduceSub, Nat.reduceLeDiff, reduceCtorEq, implies_true, ne_eq, ↓lookupV, ↓mapUpdateV, ↓makeMapV, keyOk, keyCells, pairG, aggV, Tag.cap, List.replicate, allSolid, GVal.solid, Nat.reduceBEq, Nat.reduceMul, Nat.reduceLT, List.length_map, List.length_range, splice, vcA, ↓vcB, vcC, fbFe, e19, hsG_len, toNat0, Nat.sub_zero, d3, d4, eS3, kfind_h, hi, hv, len32, take32, solidH, true_imp_iff]
                  refine ⟨by omega, fun u2 => Into.at ⟨i + 1, by show i + 1 ≤ A.length; omega, ?_⟩ (by show A.length - (i + 1) < A.length - i; omega) ⟨[.row u2 32 [bytesG y.1]], by simp⟩ (by simp [WL, leG_self, leG_any, leG_int])⟩
                  rw [ht3]
                  intro z hz j2 hj2
                  rcases List.mem_append.1 hz with q | q
                  · exact hin z q j2 hj2
                  · rw [List.mem_singleton.1 q] at hj2
                    have h5 := look_pl_at l y 0 j2 hnd hj2
                    rw [hlo, Int.zero_add] at h5
                    have h6 : (j : Int) = (j2 : Int) := by injection h5
                    omega
                · have d4 : ((k2 : Int) < (j : Int)) = True := eq_true (by omega)
                  have eR : risingB m l = false := risingB_no fun q => hjk (q.2.2 k2 x y hat (by rw [hA]; exact hyA) j hj)
                  simp +contextual -implicitDefEqProofs (maxSteps := 2000000) (disch := omega) only [↓lenV, binV, ↓unV, ↓loadV, ↓storeV, ↓indexAddrV, ↓allocV, ↓buildSliceV, fillE, GVal.cells, grp, GVal.ofConst, ↓resV, resG, List.map, List.headD, List.take, List.drop, ↓reduceIte, Nat.reduceEqDiff, Nat.reduceAdd, Nat.reduceSub, Nat.reduceLeDiff, reduceCtorEq, implies_true, ne_eq, ↓lookupV, ↓mapUpdateV, ↓makeMapV, keyOk, keyCells, pairG, aggV, Tag.cap, List.replicate, allSolid, GVal.solid, Nat.reduceBEq, Nat.reduceMul, Nat.reduceLT, List.length_map, List.length_range, splice, vcA, ↓vcB, vcC, fbFe, e19, hsG_len, toNat0, Nat.sub_zero, d3, d4, eS3, kfind_h, hi, hv, len32, take32, solidH, true_imp_iff, eR]
                  exact ⟨by omega, fun u2 => ⟨_, gObj st s m, [.map s3 (kvG encI (plM l 0)), .row u2 32 [bytesG y.1]], rfl, leA_refl _, rfl, rfl⟩⟩
              · obtain ⟨hi, _⟩ := look_none encI _ y (look_pl l y 0 hy)
                simp +contextual -implicitDefEqProofs (maxSteps := 2000000) (disch := omega) only [↓lenV, binV, ↓unV, ↓loadV, ↓storeV, ↓indexAddrV, ↓allocV, ↓buildSliceV, fillE, GVal.cells, grp, GVal.ofConst, ↓resV, resG, List.map, List.headD, List.take, List.drop, ↓reduceIte, Nat.reduceEqDiff, Nat.reduceAdd, Nat.reduceSub, Nat.reduceLeDiff, reduceCtorEq, implies_true, ne_eq, ↓lookupV, ↓mapUpdateV, ↓makeMapV, keyOk, keyCells, pairG, aggV, Tag.cap, List.replicate, allSolid, GVal.solid, Nat.reduceBEq, Nat.reduceMul, Nat.reduceLT, List.length_map, List.length_range, splice, vcA, ↓vcB, vcC, fbFe, e19, hsG_len, toNat0, Nat.sub_zero, d3, eS3, kfind_h, hi, len32, take32, solidH, true_imp_iff]
                refine ⟨by omega, fun u2 => Into.at ⟨i + 1, by show i + 1 ≤ A.length; omega, ?_⟩ (by show A.length - (i + 1) < A.length - i; omega) ⟨[.row u2 32 [bytesG y.1]], by simp⟩ (by simp [WL, leG_self, leG_any, leG_int])⟩
                rw [ht3]
                intro z hz j2 hj2
                rcases List.mem_append.1 hz with q | q
                · exact hin z q j2 hj2
                · rw [List.mem_singleton.1 q] at hj2
                  exact absurd (List.mem_of_getElem? hj2) hy
            · have d3 : ((i : Int) < (A.length : Int)) = False := eq_false (by omega)
              have hall : ∀ y ∈ A, ∀ j : Nat, l[j]? = some y → j ≤ k2 := by
                rw [List.take_of_length_le (by omega)] at hin
                exact hin
              simp +contextual -implicitDefEqProofs (maxSteps := 2000000) (disch := omega) only [↓lenV, binV, ↓unV, ↓loadV, ↓storeV, ↓indexAddrV, ↓allocV, ↓buildSliceV, fillE, GVal.cells, grp, GVal.ofConst, ↓resV, resG, List.map, List.headD, List.take, List.drop, ↓reduceIte, Nat.reduceEqDiff, Nat.reduceAdd, Nat.reduceSub, Nat.reduceLeDiff, reduceCtorEq, implies_true, ne_eq, ↓lookupV, ↓mapUpdateV, ↓makeMapV, keyOk, keyCells, pairG, aggV, Tag.cap, List.replicate, allSolid, GVal.solid, Nat.reduceBEq, Nat.reduceMul, Nat.reduceLT, List.length_map, List.length_range, splice, vcA, ↓vcB, vcC, fbFe, e19, d3]
              refine Into.at ⟨k2 + 1, by show k2 + 1 ≤ l.length; omega, ?_⟩ (by show l.length - (k2 + 1) < l.length - k2; omega) ⟨[], by simp⟩ (by simp [WL, leG_self, leG_any, leG_int])
              intro k' hk' h' z e1 e2 j e3
              by_cases hq : k' = k2
              · subst hq
                rw [hat] at e1
                cases e1
                rw [hA] at e2
                exact hall z e2 j e3
              · exact hgood k' (by omega) h' z e1 e2 j e3
        · have d2 : ((k2 : Int) < (l.length : Int)) = False := eq_false (by omega)
          have eR : risingB m l = true := risingB_yes ⟨hnd, hth, fun k' h x hk' hx j hj => hgood k' (by have := (List.getElem?_eq_some_iff.1 hk').1; omega) h x hk' hx j hj⟩
          simp +contextual -implicitDefEqProofs (maxSteps := 2000000) (disch := omega) only [↓lenV, binV, ↓unV, ↓loadV, ↓storeV, ↓indexAddrV, ↓allocV, ↓buildSliceV, fillE, GVal.cells, grp, GVal.ofConst, ↓resV, resG, List.map, List.headD, List.take, List.drop, ↓reduceIte, Nat.reduceEqDiff, Nat.reduceAdd, Nat.reduceSub, Nat.reduceLeDiff, reduceCtorEq, implies_true, ne_eq, ↓lookupV, ↓mapUpdateV, ↓makeMapV, keyOk, keyCells, pairG, aggV, Tag.cap, List.replicate, allSolid, GVal.solid, Nat.reduceBEq, Nat.reduceMul, Nat.reduceLT, List.length_map, List.length_range, splice, vcA, ↓vcB, vcC, fbFe, e19, d2, eR]
          exact ⟨_, gObj st s m, [.map s3 (kvG encI (plM l 0))], rfl, leA_refl _, rfl, rfl⟩
end Gv.Try
/- Graphs that may be: plain laws of walks. -/
set_option linter.unusedVariables false
set_option linter.unusedSimpArgs false
set_option maxRecDepth 20000
namespace Gv.Try
open Go Gv Go.Proofs
structure Good (m : GM) : Prop where
  ok : GOK m
  keys : (m.map (·.1)).Nodup
  closed : ∀ x y, y ∈ parsM m x → (look m y).isSome = true
  acyc : ∀ x, ¬ Reach (parsM m) (parsM m x) x
theorem Good.gm {m : GM} (h : Good m) : GMOK m := ⟨by have := h.ok.len; omega, h.ok.row⟩
theorem Reach.trans {nx : Hs → List Hs} {l l' : List Hs} {x : Hs} (h : Reach nx l' x) (hl : ∀ y ∈ l', Reach nx l y) : Reach nx l x := by
  induction h with
  | base x hx => exact hl x hx
  | step x y _ hy ih => exact .step x y ih hy
theorem Reach.sub {nx : Hs → List Hs} {l l' : List Hs} {x : Hs} (h : Reach nx l' x) (hl : ∀ y ∈ l', y ∈ l) : Reach nx l x := h.trans fun y hy => .base y (hl y hy)
theorem Reach.nil {nx : Hs → List Hs} {x : Hs} (h : Reach nx [] x) : False := by
  induction h with
  | base x hx => cases hx
  | step _ _ _ _ ih => exact ih
theorem pars_there {m : GM} {x y : Hs} (h : y ∈ parsM m x) : (look m x).isSome = true := by
  cases e : look m x with
  | some l => rfl
  | none => rw [parsM_none e] at h; cases h
theorem Reach.inM {m : GM} {l : List Hs} {x : Hs} (h : Reach (parsM m) l x) (hx : (look m x).isSome = true) : Reach (parsM m) (inM m l) x := by
  induction h with
  | base x h => exact .base x (List.mem_filter.2 ⟨h, hx⟩)
  | step x y _ hy ih => exact .step x y (ih (pars_there hy)) hy
theorem visL_ex (m : GM) (dn : Hs → Bool) : ∀ (n : Nat) (r S out : List Hs), S.Nodup → (∀ x ∈ S, (look m x).isSome = true) → m.length < S.length + n → ∃ T, VisL m dn r (S, out) T ∧ T.1.Nodup ∧ (∀ x ∈ T.1, (look m x).isSome = true) ∧ S.length ≤ T.1.length := by
  intro n
  induction n with
  | zero =>
    intro r S out h1 h2 h3
    have := nodup_lenH S (m.map (·.1)) h1 fun x hx => look_key (h2 x hx)
    rw [List.length_map] at this
    omega
  | succ n ihn =>
    intro r
    induction r with
    | nil => exact fun S out h1 h2 h3 => ⟨_, .nil _, h1, h2, Nat.le_refl _⟩
    | cons p r ih =>
      intro S out h1 h2 h3
      cases hp : pushed m dn S p with
      | false =>
        obtain ⟨T, a, b⟩ := ih S out h1 h2 h3
        exact ⟨T, .skip p r (S, out) T hp a, b⟩
      | true =>
        obtain ⟨p1, p2, _⟩ := pushed_iff hp
        obtain ⟨⟨S1, o1⟩, a1, a2, a3, a4⟩ := ihn (parsM m p) (S ++ [p]) out (by
          rw [List.nodup_append]
          exact ⟨h1, by simp, fun a ha b hb => by rw [List.mem_singleton.1 hb]; exact fun e => p2 (e ▸ ha)⟩) (fun x hx => by
          rcases List.mem_append.1 hx with q | q
          · exact h2 x q
          · rw [List.mem_singleton.1 q]; exact p1) (by rw [List.length_append, List.length_singleton]; omega)
        simp only [List.length_append, List.length_singleton] at a2 a3 a4
        obtain ⟨T, b1, b2, b3, b4⟩ := ih S1 (o1 ++ [p]) a2 a3 (by omega)
        exact ⟨T, .go p r (S, out) (S1, o1) T hp a1 b1, b2, b3, by omega⟩
theorem vis_spec {m : GM} {dn : Hs → Bool} (hg : ∀ x, ¬ Reach (parsM m) (parsM m x) x) {r : List Hs} {so T : WSt} (h : VisL m dn r so T) :
    (∀ x ∈ so.2, x ∈ so.1) → (∀ k ∈ so.1, k ∉ so.2 → ∀ p ∈ r, Reach (parsM m) (parsM m k) p) →
    ∃ new, T.2 = so.2 ++ new ∧ (∀ x, x ∈ T.1 ↔ x ∈ so.1 ∨ x ∈ new) ∧ new.Nodup ∧ (∀ x ∈ new, x ∉ so.1 ∧ (look m x).isSome = true ∧ dn x = false ∧ Reach (parsM m) r x) ∧
      (∀ p ∈ r, (look m p).isSome = true → dn p = false → p ∈ T.2) ∧ (∀ i x, new[i]? = some x → ∀ y ∈ parsM m x, (look m y).isSome = true → dn y = false → y ∈ so.2 ++ new.take i) := by
  induction h with
  | nil so => exact fun _ _ => ⟨[], by simp, by simp, List.nodup_nil, by simp, by simp, by simp⟩
  | skip p r so T hp _ ih =>
    intro hS hK
    obtain ⟨new, h1, h2, h3, h4, h5, h6⟩ := ih hS fun k hk hn q hq => hK k hk hn q (by simp [hq])
    refine ⟨new, h1, h2, h3, fun x hx => ?_, fun q hq hl hd => ?_, h6⟩
    · obtain ⟨a, b, c, d⟩ := h4 x hx
      exact ⟨a, b, c, d.sub fun y hy => by simp [hy]⟩
    · rcases List.mem_cons.1 hq with e | e
      · subst e
        have hin : q ∈ so.1 := by
          unfold pushed at hp
          rw [hl, hd] at hp
          simpa using hp
        by_cases ho : q ∈ so.2
        · rw [h1]; exact List.mem_append_left _ ho
        · exact absurd (hK q hin ho q (by simp)) (hg q)
      · exact h5 q e hl hd
  | go p r so so1 T hp _ _ ih1 ih2 =>
    intro hS hK
    obtain ⟨p1, p2, p3⟩ := pushed_iff hp
    obtain ⟨n1, a1, a2, a3, a4, a5, a6⟩ := ih1 (fun x hx => List.mem_append_left _ (hS x hx)) (fun k hk hn y hy => by
      rcases List.mem_append.1 hk with q | q
      · exact .step p y (hK k q hn p (by simp)) hy
      · rw [List.mem_singleton.1 q]; exact .base y hy)
    simp only at a1 a2 a4 a5 a6
    have hso1 : ∀ x ∈ so1.2 ++ [p], x ∈ so1.1 := fun x hx => by
      rw [a2]
      rw [a1] at hx
      simp only [List.mem_append, List.mem_singleton] at hx ⊢
      rcases hx with (q | q) | q
      · exact .inl (.inl (hS x q))
      · exact .inr q
      · exact .inl (.inr q)
    obtain ⟨n2, b1, b2, b3, b4, b5, b6⟩ := ih2 hso1 (fun k hk hn q hq => by
      simp only at hk hn
      rw [a2] at hk
      rw [a1] at hn
      simp only [List.mem_append, List.mem_singleton, not_or] at hk hn
      rcases hk with (e | e) | e
      · exact hK k e hn.1.1 q (by simp [hq])
      · exact absurd e hn.2
      · exact absurd e hn.1.2)
    simp only at b1 b2 b4 b5 b6
    have e2 : T.2 = so.2 ++ (n1 ++ [p] ++ n2) := by rw [b1, a1]; simp
    refine ⟨n1 ++ [p] ++ n2, e2, fun x => ?_, ?_, fun x hx => ?_, fun q hq hl hd => ?_, fun i x hi y hy hl hd => ?_⟩
    · rw [b2, a2]
      simp only [List.mem_append, List.mem_singleton]
      constructor
      · rintro (((h | h) | h) | h)
        · exact .inl h
        · exact .inr (.inl (.inr h))
        · exact .inr (.inl (.inl h))
        · exact .inr (.inr h)
      · rintro (h | (h | h) | h)
        · exact .inl (.inl (.inl h))
        · exact .inl (.inr h)
        · exact .inl (.inl (.inr h))
        · exact .inr h
    · rw [List.nodup_append, List.nodup_append]
      refine ⟨⟨a3, by simp, fun a ha b hb e => ?_⟩, b3, fun a ha b hb e => ?_⟩
      · rw [List.mem_singleton.1 hb] at e
        exact (a4 a ha).1 (by rw [e]; simp)
      · refine (b4 b hb).1 (hso1 b ?_)
        rw [← e, a1]
        simp only [List.mem_append, List.mem_singleton] at ha ⊢
        exact ha.imp .inr id
    · rcases List.mem_append.1 hx with q | q
      · rcases List.mem_append.1 q with q | q
        · obtain ⟨c1, c2, c3, c4⟩ := a4 x q
          exact ⟨fun e => c1 (List.mem_append_left _ e), c2, c3, c4.trans fun y hy => .step p y (.base p (by simp)) hy⟩
        · rw [List.mem_singleton.1 q]; exact ⟨p2, p1, p3, .base p (by simp)⟩
      · obtain ⟨c1, c2, c3, c4⟩ := b4 x q
        exact ⟨fun e => c1 (by rw [a2]; simp [e]), c2, c3, c4.sub fun y hy => by simp [hy]⟩
    · rcases List.mem_cons.1 hq with e | e
      · rw [e2, e]; simp
      · exact b5 q e hl hd
    · have hin : ∀ z, (z ∈ so.2 ++ n1 ++ [p] ∨ z ∈ so.2 ++ n1 ++ [p] ++ n2.take (i - n1.length - 1)) → n1.length < i → z ∈ so.2 ++ (n1 ++ [p] ++ n2).take i := fun z hz hi => by
        have et : (n1 ++ [p] ++ n2).take i = n1 ++ [p] ++ n2.take (i - n1.length - 1) := by
          rw [List.take_append, List.take_of_length_le (by simp; omega)]
          congr 2
          simp; omega
        rw [et]
        rcases hz with q | q
        · simp only [List.mem_append, List.mem_singleton] at q ⊢
          rcases q with (q | q) | q
          · exact .inl q
          · exact .inr (.inl (.inl q))
          · exact .inr (.inl (.inr q))
        · simp only [List.mem_append, List.mem_singleton] at q ⊢
          rcases q with ((q | q) | q) | q
          · exact .inl q
          · exact .inr (.inl (.inl q))
          · exact .inr (.inl (.inr q))
          · exact .inr (.inr q)
      by_cases h1 : i < n1.length
      · have e1 : n1[i]? = some x := by rw [List.append_assoc, List.getElem?_append_left h1] at hi; exact hi
        have := a6 i x e1 y hy hl hd
        have et : (n1 ++ [p] ++ n2).take i = n1.take i := by rw [List.append_assoc, List.take_append_of_le_length (by omega)]
        rw [et]; exact this
      · by_cases h2 : i = n1.length
        · subst h2
          have e1 : x = p := by
            rw [List.append_assoc, List.getElem?_append_right (Nat.le_refl _), Nat.sub_self] at hi
            simpa using hi.symm
          subst e1
          have := a5 y hy hl hd
          rw [a1] at this
          have et : (n1 ++ [x] ++ n2).take n1.length = n1 := by rw [List.append_assoc]; exact List.take_left
          rw [et]; exact this
        · have e1 : n2[i - n1.length - 1]? = some x := by
            rw [List.append_assoc, List.getElem?_append_right (by omega), List.singleton_append] at hi
            obtain ⟨j, hj⟩ : ∃ j, i - n1.length = j + 1 := ⟨i - n1.length - 1, by omega⟩
            rw [hj] at hi ⊢
            simpa using hi
          have := b6 _ x e1 y hy hl hd
          rw [a1] at this
          exact hin y (.inr this) (by omega)
theorem vis_spec0 {m : GM} {dn : Hs → Bool} (hg : ∀ x, ¬ Reach (parsM m) (parsM m x) x) {hs : List Hs} {T : WSt} (h : VisL m dn hs ([], []) T) :
    (∀ x, x ∈ T.1 ↔ x ∈ T.2) ∧ T.2.Nodup ∧ (∀ x ∈ T.2, (look m x).isSome = true ∧ dn x = false ∧ Reach (parsM m) hs x) ∧
      (∀ p ∈ hs, (look m p).isSome = true → dn p = false → p ∈ T.2) ∧ (∀ i x, T.2[i]? = some x → ∀ y ∈ parsM m x, (look m y).isSome = true → dn y = false → y ∈ T.2.take i) := by
  obtain ⟨new, h1, h2, h3, h4, h5, h6⟩ := vis_spec hg h (by simp) (by simp)
  simp only [List.nil_append] at h1 h6
  subst h1
  refine ⟨fun x => by rw [h2]; simp, h3, fun x hx => ?_, h5, h6⟩
  obtain ⟨_, b, c, d⟩ := h4 x hx
  exact ⟨b, c, d⟩
theorem nodup_at {l : List Hs} (h : l.Nodup) {i j : Nat} {x : Hs} (hi : l[i]? = some x) (hj : l[j]? = some x) : i = j := by
  obtain ⟨a, ha⟩ := List.getElem?_eq_some_iff.1 hi
  obtain ⟨b, hb⟩ := List.getElem?_eq_some_iff.1 hj
  exact (List.getElem_inj h).1 (by rw [ha, hb])
end Gv.Try
/- Adding commits: a graph that may be stays one; graphs that say alike. -/
set_option linter.unusedVariables false
set_option linter.unusedSimpArgs false
set_option maxRecDepth 20000
namespace Gv.Try
open Go Gv Go.Proofs
theorem mset_keys {α : Type} (m : List (Hs × α)) (h : Hs) (v : α) : (mset m h v).map (·.1) = if (look m h).isSome = true then m.map (·.1) else m.map (·.1) ++ [h] := by
  induction m with
  | nil => simp [mset, look]
  | cons p r ih =>
    rw [mset, look]
    by_cases e : h = p.1
    · rw [if_pos e, if_pos e]; simp [e]
    · rw [if_neg e, if_neg e, List.map_cons, ih]
      split <;> simp
theorem key_look {α : Type} {m : List (Hs × α)} {x : Hs} (h : x ∈ m.map (·.1)) : (look m x).isSome = true := by
  induction m with
  | nil => cases h
  | cons p r ih =>
    rw [look]
    by_cases e : x = p.1
    · rw [if_pos e]; rfl
    · rw [if_neg e]
      rw [List.map_cons] at h
      rcases List.mem_cons.1 h with q | q
      · exact absurd q e
      · exact ih q
theorem join_spec : ∀ {cs : List Cm} {m M : GM}, joinP m cs = .ok M → (m.map (·.1)).Nodup → (M.map (·.1)).Nodup ∧ (∀ h l, look m h = some l → look M h = some l) ∧ (∀ c ∈ cs, look M c.1 = some c.2) ∧ (∀ h l, look M h = some l → look m h = some l ∨ (h, l) ∈ cs)
  | [], m, M, h, hk => by
    rw [joinP] at h; cases h
    exact ⟨hk, fun _ _ h => h, by simp, fun _ _ h => .inl h⟩
  | c :: r, m, M, h, hk => by
    rw [joinP] at h
    unfold joinE at h
    cases el : look m c.1 with
    | some l =>
      simp only [el] at h
      split at h
      · rename_i m' e
        split at e
        · rename_i e2
          cases e
          obtain ⟨h1, h2, h3, h4⟩ := join_spec h hk
          refine ⟨h1, h2, fun d hd => ?_, fun x l hx => (h4 x l hx).imp id fun q => List.mem_cons_of_mem _ q⟩
          rcases List.mem_cons.1 hd with q | q
          · rw [q, h2 _ _ el, e2]
          · exact h3 d q
        · cases e
      · cases h
    | none =>
      simp only [el] at h
      have hk' : ((mset m c.1 c.2).map (·.1)).Nodup := by
        rw [mset_keys, el]
        simp only [Option.isSome_none, Bool.false_eq_true, if_false]
        rw [List.nodup_append]
        refine ⟨hk, by simp, fun a ha b hb e => ?_⟩
        rw [List.mem_singleton.1 hb] at e
        have := key_look ha
        rw [e, el] at this; cases this
      obtain ⟨h1, h2, h3, h4⟩ := join_spec h hk'
      refine ⟨h1, fun x l hx => h2 x l ?_, fun d hd => ?_, fun x l hx => ?_⟩
      · rw [look_mset, if_neg (fun e => by rw [e, el] at hx; cases hx)]; exact hx
      · rcases List.mem_cons.1 hd with q | q
        · rw [q]; exact h2 _ _ (by rw [look_mset, if_pos rfl])
        · exact h3 d q
      · rcases h4 x l hx with q | q
        · rw [look_mset] at q
          split at q
          · rename_i e
            cases q
            exact .inr (by rw [e]; simp)
          · exact .inl q
        · exact .inr (List.mem_cons_of_mem _ q)
theorem joined_ok {gr : Int} {m M : GM} {cs : List Cm} {hs : List Hs} (h : joinedP gr m cs hs = .ok M) : sizesP gr hs.length cs = none ∧ joinP m cs = .ok M ∧ lackP M cs hs = none ∧ roundP m M cs = none ∧ M.length ≤ 1000 := by
  unfold joinedP at h
  split at h
  · cases h
  · rename_i e1
    split at h
    · cases h
    · rename_i M' e2
      split at h
      · cases h
      · rename_i e3
        split at h
        · cases h
        · rename_i e4
          split at h
          · cases h
          · cases h
            exact ⟨e1, e2, e3, e4, by omega⟩
theorem lack_none {M : GM} {cs : List Cm} {hs : List Hs} (h : lackP M cs hs = none) : (∀ c ∈ cs, ∀ y ∈ c.2, (look M y).isSome = true) ∧ ∀ y ∈ hs, (look M y).isSome = true := by
  unfold lackP at h
  have hn : ∀ n y, nowhere M n y = none → (look M y).isSome = true := fun n y q => by
    unfold nowhere at q
    split at q
    · rename_i e; rw [e]; rfl
    · cases q
  split at h
  · cases h
  · rename_i e
    refine ⟨fun c hc y hy => ?_, fun y hy => hn 11 y (List.findSome?_eq_none_iff.1 h y hy)⟩
    exact hn 10 y (List.findSome?_eq_none_iff.1 (List.findSome?_eq_none_iff.1 e c hc) y hy)
theorem joined_good {gr : Int} {m M : GM} {cs : List Cm} {hs : List Hs} (hm : Good m) (h : joinedP gr m cs hs = .ok M) : Good M := by
  obtain ⟨e1, e2, e3, e4, e5⟩ := joined_ok h
  obtain ⟨_, _, _, n4⟩ := sizesP_none e1
  obtain ⟨_, r2⟩ := joinP_ok e2 hm.ok.row fun c hc => (n4 c hc).1
  obtain ⟨k1, k2, k3, k4⟩ := join_spec e2 hm.keys
  obtain ⟨l1, _⟩ := lack_none e3
  refine ⟨⟨e5, r2⟩, k1, fun x y hy => ?_, fun x hx => ?_⟩
  · cases el : look M x with
    | none => rw [parsM_none el] at hy; cases hy
    | some l =>
      rw [parsM_some el] at hy
      rcases k4 x l el with q | q
      · have := hm.closed x y (by rw [parsM_some q]; exact hy)
        obtain ⟨z, hz⟩ := Option.isSome_iff_exists.1 this
        rw [k2 y z hz]; rfl
      · exact l1 _ q y hy
  · cases el : look M x with
    | none => rw [parsM_none el] at hx; exact hx.nil
    | some l =>
      rw [parsM_some el] at hx
      cases eo : look m x with
      | some l' =>
        have e : l' = l := by
          have := k2 x l' eo
          rw [el] at this; cases this; rfl
        subst e
        have : ∀ z, Reach (parsM M) l' z → Reach (parsM m) l' z ∧ (look m z).isSome = true := fun z hz => by
          induction hz with
          | base z hz => exact ⟨.base z hz, hm.closed x z (by rw [parsM_some eo]; exact hz)⟩
          | step z y _ hy ih =>
            obtain ⟨lz, hlz⟩ := Option.isSome_iff_exists.1 ih.2
            rw [parsM_some (k2 z lz hlz)] at hy
            have hy' : y ∈ parsM m z := by rw [parsM_some hlz]; exact hy
            exact ⟨.step z y ih.1 hy', hm.closed z y hy'⟩
        exact hm.acyc x (by rw [parsM_some eo]; exact (this x hx).1)
      | none =>
        rcases k4 x l el with q | q
        · rw [eo] at q; cases q
        · unfold roundP at e4
          have := List.findSome?_eq_none_iff.1 e4 _ q
          unfold roundE at this
          rw [eo] at this
          simp only [Option.isSome_none, Bool.false_eq_true, if_false] at this
          split at this
          · cases this
          · rename_i hn; exact hn hx
def Alike (m m' : GM) : Prop := ∀ h, look m h = look m' h
theorem Alike.pars {m m' : GM} (h : Alike m m') : parsM m = parsM m' := funext fun x => by unfold parsM; rw [h x]
theorem Alike.len {m m' : GM} (h : Alike m m') (k : (m.map (·.1)).Nodup) (k' : (m'.map (·.1)).Nodup) : m.length = m'.length := by
  have a := nodup_lenH _ (m'.map (·.1)) k fun x hx => look_key (by rw [← h x]; exact key_look hx)
  have b := nodup_lenH _ (m.map (·.1)) k' fun x hx => look_key (by rw [h x]; exact key_look hx)
  simp only [List.length_map] at a b
  omega
theorem Alike.symm {m m' : GM} (h : Alike m m') : Alike m' m := fun x => (h x).symm
end Gv.Try
/- Contracts: the reference's graph: find, Has, Parents. -/
set_option linter.unusedVariables false
set_option linter.unusedSimpArgs false
set_option maxRecDepth 20000
set_option maxHeartbeats 4000000
namespace Gv.Try
open Go Gv Go.Proofs
theorem GLes_com (h : Hs) (l : List Hs) (t : Tag) : GLes (bytesG h.1 ++ [.slice (hsG l) t]) (comG (h, l)) := GLes.app (GLes.refl _) ⟨GLe.none, trivial⟩
end Gv.Try
/- OrderLong: a line of commits: plain laws. -/
set_option linter.unusedVariables false
set_option linter.unusedSimpArgs false
set_option maxRecDepth 20000
namespace Gv.Try
open Go Gv Go.Proofs
def hL (k : Nat) : Hs := hq (UInt8.ofNat (k / 256)) (UInt8.ofNat k) 1
def cL (k : Nat) : Cm := (hL k, if k = 0 then [] else [hL (k - 1)])
def seg (a j : Nat) : List Cm := (List.range j).map fun i => cL (a + i)
abbrev chain (n : Nat) : GM := seg 0 n
end Gv.Try
/- Commits put into a sorted list; a list with a hash twice. -/
set_option linter.unusedVariables false
set_option linter.unusedSimpArgs false
set_option maxRecDepth 20000
namespace Gv.Try
open Go Gv Go.Proofs
end Gv.Try
/- Plain laws of GraphUnion. -/
set_option linter.unusedVariables false
set_option linter.unusedSimpArgs false
namespace Gv.Try
open Go Gv Go.Proofs
def keysS (m : GM) : List Hs := sortR (m.map (·.1))
theorem keysS_mem (m : GM) (z : Hs) : z ∈ keysS m ↔ (look m z).isSome = true := by
  unfold keysS
  rw [sortR_mem]
  exact ⟨key_look, look_key⟩
end Gv.Try
