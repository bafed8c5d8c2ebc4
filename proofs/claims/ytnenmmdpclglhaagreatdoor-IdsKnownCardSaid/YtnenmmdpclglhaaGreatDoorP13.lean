/- A contract over some objects, used among others. -/
import Derived.Test.YtnenmmdpclglhaaGreatDoorP12
import Derived.Test.YtnenmmdpclglhaaGreatDoorP11
import Derived.Test.YtnenmmdpclglhaaGreatDoorP10
import Derived.Test.YtnenmmdpclglhaaGreatDoorP9
set_option linter.unusedVariables false
namespace Gv
open Go
def FitsR (O : List GObj) : List Nat → List GObj → Prop
  | [], [] => True
  | j :: pl, x :: r => (∃ y, O[j]? = some y ∧ OLe x y) ∧ FitsR O pl r
  | _, _ => False
theorem FitsR.at_ {O : List GObj} : ∀ {pl : List Nat} {X : List GObj}, FitsR O pl X → ∀ (i j : Nat), pl[i]? = some j → ∃ x y, X[i]? = some x ∧ O[j]? = some y ∧ OLe x y
  | [], [], _, i, j, h => by simp at h
  | j :: pl, x :: r, h, 0, k, hk => by simp at hk; subst hk; obtain ⟨y, h1, h2⟩ := h.1; exact ⟨x, y, rfl, h1, h2⟩
  | j :: pl, x :: r, h, i + 1, k, hk => by simpa using FitsR.at_ h.2 i k (by simpa using hk)
  | [], _ :: _, h, _, _, _ => h.elim
  | _ :: _, [], h, _, _, _ => h.elim
theorem idx_spec : ∀ (pl : List Nat) (k : Nat), (k ∉ pl ∧ pl.findIdx? (· == k) = none) ∨ ∃ i, pl.findIdx? (· == k) = some i ∧ pl[i]? = some k
  | [], k => .inl ⟨by simp, rfl⟩
  | j :: pl, k => by
    rw [List.findIdx?_cons]
    by_cases e : j = k
    · subst e
      exact .inr ⟨0, by simp, rfl⟩
    · have e' : (j == k) = false := by simpa using e
      rw [e']
      rcases idx_spec pl k with ⟨h1, h2⟩ | ⟨i, h1, h2⟩
      · exact .inl ⟨by simp [h1]; exact fun q => e q.symm, by rw [h2]; rfl⟩
      · exact .inr ⟨i + 1, by rw [h1]; rfl, by simpa using h2⟩
def pickS (pl : List Nat) (k : Nat) : Bool × Nat := match pl.findIdx? (· == k) with
  | some i => (false, i)
  | none => (true, k)
theorem pickS_inj {pl : List Nat} {a b : Nat} (h : pickS pl a = pickS pl b) : a = b := by
  unfold pickS at h
  rcases idx_spec pl a with ⟨_, ha⟩ | ⟨i, ha, ha2⟩ <;> rcases idx_spec pl b with ⟨_, hb⟩ | ⟨j, hb, hb2⟩ <;> rw [ha, hb] at h <;> simp at h
  · exact h
  · subst h; rw [ha2] at hb2; cases hb2; rfl
theorem GCalls.readAt {P : Program} {f : FuncId} {args args' : List GVal} {X O : List GObj} {r : GVal} (h : GCalls P f args X (fun g O' => g = r ∧ O' = X)) (pl : List Nat) (hX : Fits O pl X) (hR : FitsR O pl X) (hnd : pl.Nodup) (ha : GLes args' args) (hcX : clockOf X = none) (hc : clockOf O = none) :
    GCalls P f args' O (fun g O' => g = r ∧ O' = O) := by
  refine GCalls.frame h pl hX hnd ha hcX hc ?_
  rintro g O' ⟨rfl, rfl⟩
  refine ⟨g, O, (List.range O.length).map (pickS pl), ⟨rfl, rfl⟩, GLe.refl g, Comes.of (by simp) fun k z s hz hs => ?_, ?_, hc⟩
  · have hk : k < O.length := (List.getElem?_eq_some_iff.1 hz).1
    simp only [List.getElem?_map, List.getElem?_range hk, Option.map_some, Option.some.injEq] at hs
    subst hs
    unfold pickS
    rcases idx_spec pl k with ⟨h1, h2⟩ | ⟨i, h1, h2⟩
    · rw [h2]; exact ⟨h1, z, hz, .refl _⟩
    · rw [h1]
      obtain ⟨x, y, a1, a2, a3⟩ := hR.at_ i k h2
      rw [hz] at a2; cases a2
      exact ⟨x, a1, a3⟩
  · rw [List.nodup_iff_pairwise_ne, List.pairwise_map]
    exact (List.pairwise_lt_range (n := O.length)).imp fun {a b} hab e => by have := pickS_inj e; omega
theorem GCalls.oneNew {P : Program} {f : FuncId} {args args' : List GVal} {x : GObj} {O : List GObj} {r : GVal} {x1 z1 y1 : Nat → GObj} (h : GCalls P f args [x] (fun g O' => ∃ so, g = r ∧ O' = [x1 so, y1 so])) (i : Nat) {xi : GObj} (hi : O[i]? = some xi) (hx : OLe xi x) (hz : ∀ so, OLe (x1 so) (z1 so)) (ha : GLes args' args) (hcX : clockOf [x] = none) (hc : clockOf O = none) (hz1 : ∀ so, (z1 so).isClock = false) (hy1 : ∀ so, (y1 so).isClock = false) :
    GCalls P f args' O (fun g O' => ∃ so, g = r ∧ O' = O.set i (z1 so) ++ [y1 so]) := by
  have hil := (List.getElem?_eq_some_iff.1 hi).1
  refine GCalls.frame h [i] ⟨⟨xi, hi, hx⟩, trivial⟩ (by simp) ha hcX hc ?_
  rintro g O' ⟨so, rfl, rfl⟩
  refine ⟨g, _, (List.range (O.length + 1)).map (fun k => if k = i then (false, 0) else if k = O.length then (false, 1) else (true, k)), ⟨so, rfl, rfl⟩, GLe.refl g, Comes.of (by simp) fun k z s hz' hs => ?_, ?_, ?_⟩
  · have hk : k < O.length + 1 := by have := (List.getElem?_eq_some_iff.1 hz').1; simpa using this
    simp only [List.getElem?_map, List.getElem?_range hk, Option.map_some, Option.some.injEq] at hs
    subst hs
    by_cases e : k = i
    · subst e
      rw [List.getElem?_append_left (by simpa using hil), List.getElem?_set_self hil] at hz'
      cases hz'
      simp only [if_pos]
      exact ⟨x1 so, rfl, hz so⟩
    · by_cases e2 : k = O.length
      · subst e2
        rw [List.getElem?_append_right (by simp)] at hz'
        simp at hz'
        subst hz'
        simp only [if_neg e, if_pos]
        exact ⟨y1 so, rfl, .refl _⟩
      · rw [List.getElem?_append_left (by simp; omega), List.getElem?_set_ne (fun q => e q.symm)] at hz'
        simp only [if_neg e, if_neg e2]
        exact ⟨by simp [e], z, hz', .refl _⟩
  · rw [List.nodup_iff_pairwise_ne, List.pairwise_map]
    refine List.Pairwise.imp_of_mem ?_ (List.pairwise_lt_range (n := O.length + 1))
    intro a b _ _ hab
    by_cases a1 : a = i <;> by_cases b1 : b = i <;> by_cases a3 : a = O.length <;> by_cases b3 : b = O.length <;> simp_all <;> omega
  · match O, i with
    | [], _ => simp at hil
    | y :: r, 0 => 
      have := hz1 so
      show clockOf (z1 so :: _) = none
      cases hq : z1 so <;> first | rfl | (rw [hq] at this; cases this)
    | y :: r, k + 1 =>
      show clockOf (y :: _) = none
      cases y <;> first | rfl | cases hc
theorem GInto.pick {g : GVal} {O X : List GObj} {N : GVal → List GObj → Prop} (pl : List Nat) (hX : Fits O pl X) (hnd : pl.Nodup) (hc : clockOf X = none) (h : N g X) : GInto g O N := fun E v w hs hv => by
  obtain ⟨h1, h2⟩ := hs.pick pl hX hnd hc
  exact ⟨g, X, E, h, h1, h2, hv⟩
structure VCs (P : Program) (R : List Nat) (s : SCode) (Q : Ex → GSt → Prop) (st : GSt) : Prop where
  ok : vcS P R s Q st
theorem wp_partV {P : Program} {E : Env} {st : GSt} {a : Act} {w : World} {C : Cfg} (hmix : P.follows .mixedOrders = true) {c : Code} {s : SCode} (hs : slim C c = some s) (hc : codeOk C c = true) (h : HSim E st.o w) (ha : SlotsR E a st.s) {N : GSt → Prop} (hv : VCs P C.ro s (vcN N) st) {Q : Exit → Act → World → Prop}
    (hn : ∀ st' E' a' w', HSim E' st'.o w' → Keep E st.o w E' st'.o w' → SlotsR E' a' st'.s → N st' → Q .normal a' w') : c.wp P Q a w := wp_part hmix hs hc h ha hv.ok hn
end Gv
/- ids' Update: the ghost parts. -/
set_option linter.unusedVariables false
set_option linter.unusedSimpArgs false
set_option maxRecDepth 20000
set_option maxHeartbeats 4000000
namespace Gv.Tryz
open Go Gv Go.Proofs
open Nat (reduceEqDiff reduceAdd reduceSub reduceLeDiff reduceMul reduceLT)
abbrev uS (ti st : Nat) (x5 x7 x8 x10 x11 x63 x64 x65 : GVal) : List GVal := [.ptr 2 ti 0 0, .ptr 0 st 0 0, .any, .any, .any, x5, .any, x7, x8, .any, x10, x11, .any, .any, .any, .any, .any, .any, .any, .any, .any, .any, .any, .any, .any, .any, .any, .any, .any, .any, .any, .any, .any, .any, .any, .any, .any, .any, .any, .any, .any, .any, .any, .any, .any, .any, .any, .any, .any, .any, .any, .any, .any, .any, .any, .any, .any, .any, .any, .any, .any, .any, .any, x63, x64, x65, .any, .any, .any, .any, .any, .any, .any, .any, .any, .any, .any, .any, .any, .any, .any, .any, .any, .any, .any, .any]
abbrev C10 : Cfg := cfgOf h12
theorem u0 (ti st : Nat) (R : List GVal) (hR : R.length = 3) (hs : allSolid R = True) (O : List GObj) : VCs Tryz.prog [5] s12_0 (vcN (NW (uS ti st (.ref R) .any .any .any .any .any .any .any) O)) (gstart 86 [.ptr 2 ti 0 0, .ptr 0 st 0 0, .agg R] O) := by
  refine ⟨?_⟩
  simp only [gstart, List.cons_append, List.nil_append, List.length_cons, List.length_nil, reduceAdd, reduceSub, List.replicate_succ, List.replicate_zero]
  skip
  simp +contextual -implicitDefEqProofs (maxSteps := 2000000) (disch := omega) only [drawC, drawK, keepT, ↓lenV, binV, ↓loadV, ↓storeV, ↓fieldAddrV, ↓indexAddrV, ↓allocV, ↓boxV, ↓buildV, ↓buildSliceV, ↓nilV, ↓ifaceV, ↓appendV, ↓srcV, fillG, fillE, place, GVal.cells, GVal.ofConst, ↓resV, resG, ↓reduceIte, reduceEqDiff, reduceAdd, reduceSub, reduceLeDiff, reduceCtorEq, ↓asrcV, aggV, Tag.cap, GVal.solid, Nat.reduceBEq, reduceMul, reduceLT, vcA, ↓vcB, vcC, fbFy, e12, vcN, NW, leG_any, leG_self, and_true, true_and, hR, hs, vcD]
theorem u1 (ti st : Nat) (x5 : GVal) (O : List GObj) : VCs Tryz.prog [5] (.seq s12_1 s12_3) (vcN (NW (uS ti st x5 .any .any .any .any .any .any .any) O)) ⟨uS ti st x5 .any .any .any .any .any .any .any, O⟩ := by
  refine ⟨?_⟩
  skip
  simp +contextual -implicitDefEqProofs (maxSteps := 2000000) (disch := omega) only [drawC, drawK, keepT, ↓lenV, binV, ↓loadV, ↓storeV, ↓fieldAddrV, ↓indexAddrV, ↓allocV, ↓boxV, ↓buildV, ↓buildSliceV, ↓nilV, ↓ifaceV, ↓appendV, ↓srcV, fillG, fillE, place, GVal.cells, GVal.ofConst, ↓resV, resG, ↓reduceIte, reduceEqDiff, reduceAdd, reduceSub, reduceLeDiff, reduceCtorEq, ↓asrcV, aggV, Tag.cap, GVal.solid, Nat.reduceBEq, reduceMul, reduceLT, vcA, ↓vcB, vcC, fbFy, e12, uS, vcN, NW, leG_any, leG_self, and_true, true_and, vcD]
theorem u4 (ti st so : Nat) (x5 : GVal) (n : Int) (M O : List Hs) (g1 g2 : GObj) : VCs Tryz.prog [5] s12_4 (vcN (NW (uS ti st x5 (.slice (hsG M) .none) (.slice (hsG O) .none) .any .any .any .any .any) (g1 :: g2 :: idO2 ti so n M O))) ⟨uS ti st x5 .any .any .any .any .any .any .any, g1 :: g2 :: idO2 ti so n M O⟩ := by
  refine ⟨?_⟩
  skip
  simp +contextual -implicitDefEqProofs (maxSteps := 2000000) (disch := omega) only [drawC, drawK, keepT, ↓lenV, binV, ↓loadV, ↓storeV, ↓fieldAddrV, ↓indexAddrV, ↓allocV, ↓boxV, ↓buildV, ↓buildSliceV, ↓nilV, ↓ifaceV, ↓appendV, ↓srcV, fillG, fillE, place, GVal.cells, GVal.ofConst, ↓resV, resG, ↓reduceIte, reduceEqDiff, reduceAdd, reduceSub, reduceLeDiff, reduceCtorEq, ↓asrcV, aggV, Tag.cap, GVal.solid, Nat.reduceBEq, reduceMul, reduceLT, vcA, ↓vcB, vcC, fbFy, e12, uS, vcN, NW, leG_any, leG_self, and_true, true_and, vcD]
theorem u12n (ti st : Nat) (cs : List Cm) (hs : List Hs) (th : Tag) (gr : Int) (hg : gr ≠ 1) (x7 x8 : GVal) (O : List GObj) : VCs Tryz.prog [5] s12_12 (vcN (NW (uS ti st (.ref (reqG cs hs th gr)) x7 x8 .any .any .any .any .any) O)) ⟨uS ti st (.ref (reqG cs hs th gr)) x7 x8 .any .any .any .any .any, O⟩ := by
  refine ⟨?_⟩
  have d0 : (gr = 1) = False := eq_false hg
  skip
  simp +contextual -implicitDefEqProofs (maxSteps := 2000000) (disch := omega) only [drawC, drawK, keepT, ↓lenV, binV, ↓loadV, ↓storeV, ↓fieldAddrV, ↓indexAddrV, ↓allocV, ↓boxV, ↓buildV, ↓buildSliceV, ↓nilV, ↓ifaceV, ↓appendV, ↓srcV, fillG, fillE, place, GVal.cells, GVal.ofConst, ↓resV, resG, ↓reduceIte, reduceEqDiff, reduceAdd, reduceSub, reduceLeDiff, reduceCtorEq, ↓asrcV, aggV, Tag.cap, GVal.solid, Nat.reduceBEq, reduceMul, reduceLT, vcA, ↓vcB, vcC, fbFy, e12, uS, vcN, NW, leG_any, leG_self, and_true, true_and, d0, vcD]
theorem u12m (m : GM) (hm : GMOK m) (ti st s so : Nat) (cs : List Cm) (hs : List Hs) (th : Tag) (n : Int) (M O : List Hs) (T : WSt) (hT : VisL m (masterB (ofM M O)) hs ([], []) T) (hl : hs.length ≤ 1000000) (hM : M.length ≤ 1000000) (hO : O.length ≤ 1000000) (hTl : T.2.length ≤ 1000000) (hn : (M.length : Int) + T.2.length ≤ n) :
    VCs Tryz.prog [5] s12_12 (vcN (NW (uS ti st (.ref (reqG cs hs th 1)) (.slice (hsG (M ++ T.2)) .none) (.slice (hsG (woL O T.2)) .none) .any .any .any .any .any) (gObj st s m ++ idO2 ti so n M O))) ⟨uS ti st (.ref (reqG cs hs th 1)) (.slice (hsG M) .none) (.slice (hsG O) .none) .any .any .any .any .any, gObj st s m ++ idO2 ti so n M O⟩ := by
  refine ⟨?_⟩
  have cW := iWalkM m hm hs th st s ti so n M O T hT hl
  have d0 : (n < (M.length : Int) + T.2.length) = False := eq_false (by omega)
  have cC := iConcat M T.2 .none .none .full (by omega)
  have cO := iWithout O T.2 hO hTl
  skip
  simp +contextual -implicitDefEqProofs (maxSteps := 2000000) (disch := omega) only [drawC, drawK, keepT, ↓lenV, binV, ↓loadV, ↓storeV, ↓fieldAddrV, ↓indexAddrV, ↓allocV, ↓boxV, ↓buildV, ↓buildSliceV, ↓nilV, ↓ifaceV, ↓appendV, ↓srcV, fillG, fillE, place, GVal.cells, GVal.ofConst, ↓resV, resG, ↓reduceIte, reduceEqDiff, reduceAdd, reduceSub, reduceLeDiff, reduceCtorEq, ↓asrcV, aggV, Tag.cap, GVal.solid, Nat.reduceBEq, reduceMul, reduceLT, vcA, ↓vcB, vcC, fbFy, e12, uS, vcD]
  refine cW.mono ?_
  rintro g O' ⟨rfl, rfl⟩
  simp +contextual -implicitDefEqProofs (maxSteps := 2000000) (disch := omega) only [drawC, drawK, keepT, ↓lenV, binV, ↓loadV, ↓storeV, ↓fieldAddrV, ↓indexAddrV, ↓allocV, ↓boxV, ↓buildV, ↓buildSliceV, ↓nilV, ↓ifaceV, ↓appendV, ↓srcV, fillG, fillE, place, GVal.cells, GVal.ofConst, ↓resV, resG, ↓reduceIte, reduceEqDiff, reduceAdd, reduceSub, reduceLeDiff, reduceCtorEq, ↓asrcV, aggV, Tag.cap, GVal.solid, Nat.reduceBEq, reduceMul, reduceLT, vcA, ↓vcB, vcC, fbFy, e12, hsG_len, d0, vcD]
  refine cC.then ?_ (by rfl)
  simp +contextual -implicitDefEqProofs (maxSteps := 2000000) (disch := omega) only [drawC, drawK, keepT, ↓lenV, binV, ↓loadV, ↓storeV, ↓fieldAddrV, ↓indexAddrV, ↓allocV, ↓boxV, ↓buildV, ↓buildSliceV, ↓nilV, ↓ifaceV, ↓appendV, ↓srcV, fillG, fillE, place, GVal.cells, GVal.ofConst, ↓resV, resG, ↓reduceIte, reduceEqDiff, reduceAdd, reduceSub, reduceLeDiff, reduceCtorEq, ↓asrcV, aggV, Tag.cap, GVal.solid, Nat.reduceBEq, reduceMul, reduceLT, vcA, ↓vcB, vcC, fbFy, e12, vcD]
  refine cO.then ?_ (by rfl)
  simp +contextual -implicitDefEqProofs (maxSteps := 2000000) (disch := omega) only [drawC, drawK, keepT, ↓lenV, binV, ↓loadV, ↓storeV, ↓fieldAddrV, ↓indexAddrV, ↓allocV, ↓boxV, ↓buildV, ↓buildSliceV, ↓nilV, ↓ifaceV, ↓appendV, ↓srcV, fillG, fillE, place, GVal.cells, GVal.ofConst, ↓resV, resG, ↓reduceIte, reduceEqDiff, reduceAdd, reduceSub, reduceLeDiff, reduceCtorEq, ↓asrcV, aggV, Tag.cap, GVal.solid, Nat.reduceBEq, reduceMul, reduceLT, vcA, ↓vcB, vcC, fbFy, e12, vcN, NW, leG_any, leG_self, and_true, true_and, vcD]
theorem u13 (ti st s so : Nat) (x5 x7 x8 : GVal) (n : Int) (m : GM) (M O : List Hs) : VCs Tryz.prog [5] s12_13 (vcN fun st' => ∃ tn tb, NW (uS ti st x5 x7 x8 (.ptr 5 tb 0 0) .any .any .any .any) (gObj st s m ++ idO2 ti so n M O ++ [.row tn 4 [[.int .i64 0, .slice [] .nil, .slice [] .nil, .lit (.map none)]], .row tb 1 [[.ptr 4 tn 0 0]]]) st') ⟨uS ti st x5 x7 x8 .any .any .any .any .any, gObj st s m ++ idO2 ti so n M O⟩ := by
  refine ⟨?_⟩
  skip
  simp +contextual -implicitDefEqProofs (maxSteps := 2000000) (disch := omega) only [drawC, drawK, keepT, ↓lenV, binV, ↓loadV, ↓storeV, ↓fieldAddrV, ↓indexAddrV, ↓allocV, ↓boxV, ↓buildV, ↓buildSliceV, ↓nilV, ↓ifaceV, ↓appendV, ↓srcV, fillG, fillE, place, GVal.cells, GVal.ofConst, ↓resV, resG, ↓reduceIte, reduceEqDiff, reduceAdd, reduceSub, reduceLeDiff, reduceCtorEq, ↓asrcV, aggV, Tag.cap, GVal.solid, Nat.reduceBEq, reduceMul, reduceLT, vcA, ↓vcB, vcC, fbFy, e12, uS, vcN, NW, leG_any, leG_self, and_true, true_and, vcD]
  exact ⟨rfl, rfl, fun tn => ⟨rfl, fun tb => ⟨tn, tb, rfl, by simp [leG_self]⟩⟩⟩
abbrev nxO (tn sn : Nat) (M O : List Hs) : List GObj := [.row tn 4 [[.int .i64 0, .slice (hsG M) .none, .slice (hsG O) .none, .map 5 sn]], .map sn (kvG encI (ofM M O))]
theorem u14 (ti st s so tn : Nat) (x5 : GVal) (n : Int) (m : GM) (M O M1 O1 : List Hs) (hM : M1.length ≤ 1000000) (hO : O1.length ≤ 1000000) : VCs Tryz.prog [5] s12_14 (vcN fun st' => ∃ sn, NW (uS ti st x5 (.slice (hsG M1) .none) (.slice (hsG O1) .none) (.ref [.ptr 4 tn 0 0]) .any .any .any .any) (gObj st s m ++ idO2 ti so n M O ++ nxO tn sn M1 O1) st') ⟨uS ti st x5 (.slice (hsG M1) .none) (.slice (hsG O1) .none) (.ref [.ptr 4 tn 0 0]) .any .any .any .any, gObj st s m ++ idO2 ti so n M O ++ [.row tn 4 [[.int .i64 0, .slice [] .nil, .slice [] .nil, .lit (.map none)]]]⟩ := by
  refine ⟨?_⟩
  have cN := GCalls.oneNew (z1 := fun sn => .row tn 4 [[.int .i64 0, .slice (hsG M1) .none, .slice (hsG O1) .none, .map 5 sn]]) (args' := [.ptr 4 tn 0 0, .slice (hsG M1) .none, .slice (hsG O1) .none]) (iNumber tn (.int .i64 0) (.slice [] .nil) (.slice [] .nil) (.lit (.map none)) M1 O1 hM hO) (O := gObj st s m ++ idO2 ti so n M O ++ [.row tn 4 [[.int .i64 0, .slice [] .nil, .slice [] .nil, .lit (.map none)]]]) 4 rfl (.refl _) (fun so => OLe.row ⟨⟨GLe.refl _, GLe.refl _, GLe.refl _, GLe.map _ _ _, trivial⟩, trivial⟩) ⟨GLe.ptr _ _ _ _ _, GLe.refl _, GLe.refl _, trivial⟩ rfl rfl (fun _ => rfl) (fun _ => rfl)
  skip
  simp +contextual -implicitDefEqProofs (maxSteps := 2000000) (disch := omega) only [drawC, drawK, keepT, ↓lenV, binV, ↓loadV, ↓storeV, ↓fieldAddrV, ↓indexAddrV, ↓allocV, ↓boxV, ↓buildV, ↓buildSliceV, ↓nilV, ↓ifaceV, ↓appendV, ↓srcV, fillG, fillE, place, GVal.cells, GVal.ofConst, ↓resV, resG, ↓reduceIte, reduceEqDiff, reduceAdd, reduceSub, reduceLeDiff, reduceCtorEq, ↓asrcV, aggV, Tag.cap, GVal.solid, Nat.reduceBEq, reduceMul, reduceLT, vcA, ↓vcB, vcC, fbFy, e12, uS, vcD]
  refine cN.mono ?_
  rintro g O' ⟨sn, rfl, rfl⟩
  simp +contextual -implicitDefEqProofs (maxSteps := 2000000) (disch := omega) only [drawC, drawK, keepT, ↓lenV, binV, ↓loadV, ↓storeV, ↓fieldAddrV, ↓indexAddrV, ↓allocV, ↓boxV, ↓buildV, ↓buildSliceV, ↓nilV, ↓ifaceV, ↓appendV, ↓srcV, fillG, fillE, place, GVal.cells, GVal.ofConst, ↓resV, resG, ↓reduceIte, reduceEqDiff, reduceAdd, reduceSub, reduceLeDiff, reduceCtorEq, ↓asrcV, aggV, Tag.cap, GVal.solid, Nat.reduceBEq, reduceMul, reduceLT, vcA, ↓vcB, vcC, fbFy, e12, vcN, NW, leG_any, leG_self, and_true, true_and, vcD]
  exact ⟨sn, rfl⟩
theorem u15 (ti st : Nat) (x7 x8 x10 : GVal) (cs : List Cm) (hs : List Hs) (th : Tag) (ht : th = .nil → hs = []) (hl : hs.length ≤ 1000000) (gr : Int) (O : List GObj) (hc : clockOf O = none) : VCs Tryz.prog [5] s12_15 (vcN fun st' => (hs = [] ∧ NW (uS ti st (.ref (reqG cs hs th gr)) x7 x8 x10 (.slice [] .nil) .any .any .any) O st') ∨ ∃ v, NW (uS ti st (.ref (reqG cs hs th gr)) x7 x8 x10 (.own O.length v 0 hs.length) .any .any .any) (O ++ [.row v 32 (hsG hs)]) st') ⟨uS ti st (.ref (reqG cs hs th gr)) x7 x8 x10 .any .any .any .any, O⟩ := by
  refine ⟨?_⟩
  have cC := GCalls.newUp (hClone hs th (by omega) ht) (O := O) hc (by rintro g O' (⟨_, rfl, rfl⟩ | ⟨st, rfl, rfl⟩) <;> rfl)
  skip
  simp +contextual -implicitDefEqProofs (maxSteps := 2000000) (disch := omega) only [drawC, drawK, keepT, ↓lenV, binV, ↓loadV, ↓storeV, ↓fieldAddrV, ↓indexAddrV, ↓allocV, ↓boxV, ↓buildV, ↓buildSliceV, ↓nilV, ↓ifaceV, ↓appendV, ↓srcV, fillG, fillE, place, GVal.cells, GVal.ofConst, ↓resV, resG, ↓reduceIte, reduceEqDiff, reduceAdd, reduceSub, reduceLeDiff, reduceCtorEq, ↓asrcV, aggV, Tag.cap, GVal.solid, Nat.reduceBEq, reduceMul, reduceLT, vcA, ↓vcB, vcC, fbFy, e12, uS, vcD]
  refine cC.mono ?_
  rintro g O' ⟨g0, O1, (⟨rfl, rfl, rfl⟩ | ⟨v, rfl, rfl⟩), rfl, rfl⟩
  · simp +contextual -implicitDefEqProofs (maxSteps := 2000000) (disch := omega) only [drawC, drawK, keepT, ↓lenV, binV, ↓loadV, ↓storeV, ↓fieldAddrV, ↓indexAddrV, ↓allocV, ↓boxV, ↓buildV, ↓buildSliceV, ↓nilV, ↓ifaceV, ↓appendV, ↓srcV, fillG, fillE, place, GVal.cells, GVal.ofConst, ↓resV, resG, ↓reduceIte, reduceEqDiff, reduceAdd, reduceSub, reduceLeDiff, reduceCtorEq, ↓asrcV, aggV, Tag.cap, GVal.solid, Nat.reduceBEq, reduceMul, reduceLT, vcA, ↓vcB, vcC, fbFy, e12, vcN, NW, leG_any, leG_self, and_true, true_and, GVal.up, vcD]
    exact .inl trivial
  · simp +contextual -implicitDefEqProofs (maxSteps := 2000000) (disch := omega) only [drawC, drawK, keepT, ↓lenV, binV, ↓loadV, ↓storeV, ↓fieldAddrV, ↓indexAddrV, ↓allocV, ↓boxV, ↓buildV, ↓buildSliceV, ↓nilV, ↓ifaceV, ↓appendV, ↓srcV, fillG, fillE, place, GVal.cells, GVal.ofConst, ↓resV, resG, ↓reduceIte, reduceEqDiff, reduceAdd, reduceSub, reduceLeDiff, reduceCtorEq, ↓asrcV, aggV, Tag.cap, GVal.solid, Nat.reduceBEq, reduceMul, reduceLT, vcA, ↓vcB, vcC, fbFy, e12, vcN, NW, leG_any, leG_self, and_true, true_and, GVal.up, vcD]
    exact .inr ⟨v, rfl, by rw [leG_self]; trivial⟩
abbrev uO (ti st s so tn sn : Nat) (n : Int) (m : GM) (M O M1 O1 : List Hs) : List GObj := gObj st s m ++ idO2 ti so n M O ++ nxO tn sn M1 O1
theorem u23 (ti st s so tn sn : Nat) (n : Int) (m : GM) (M O M1 O1 : List Hs) (x7 x8 x10 x11 : GVal) (X : List GObj) (cs : List Cm) (hs : List Hs) (th : Tag) (gr : Int) (hl : hs.length ≤ 1000000) (hc : cs.length ≤ 1000000)
    (hx : (hs = [] ∧ x11 = .slice [] .nil ∧ X = []) ∨ ∃ v, x11 = .own 6 v 0 hs.length ∧ X = [.row v 32 (hsG hs)]) :
    VCs Tryz.prog [5] s12_23 (vcN fun st' => ∃ v, NW (uS ti st (.ref (reqG cs hs th gr)) x7 x8 x10 (.own 6 v 0 (hs ++ cs.map (·.1)).length) .any .any .any) (uO ti st s so tn sn n m M O M1 O1 ++ [.row v 32 (hsG (hs ++ cs.map (·.1)))]) st') ⟨uS ti st (.ref (reqG cs hs th gr)) x7 x8 x10 x11 .any .any .any, uO ti st s so tn sn n m M O M1 O1 ++ X⟩ := by
  refine ⟨?_⟩
  skip
  simp +contextual -implicitDefEqProofs (maxSteps := 2000000) (disch := omega) only [drawC, drawK, keepT, ↓lenV, binV, ↓loadV, ↓storeV, ↓fieldAddrV, ↓indexAddrV, ↓allocV, ↓boxV, ↓buildV, ↓buildSliceV, ↓nilV, ↓ifaceV, ↓appendV, ↓srcV, fillG, fillE, place, GVal.cells, GVal.ofConst, ↓resV, resG, ↓reduceIte, reduceEqDiff, reduceAdd, reduceSub, reduceLeDiff, reduceCtorEq, ↓asrcV, aggV, Tag.cap, GVal.solid, Nat.reduceBEq, reduceMul, reduceLT, vcA, ↓vcB, vcC, fbFy, e12, uS, csG_len, vcD]
  refine vcSLoop_by (ι := { p : Nat × Nat // p.1 ≤ cs.length }) (fun p => ⟨uS ti st (.ref (reqG cs hs th gr)) x7 x8 x10 (.own 6 p.1.2 0 (hs ++ (cs.map (·.1)).take p.1.1).length) (.slice (csG cs) .none) (.int .i64 cs.length) (.int .i64 (p.1.1 : Nat)), uO ti st s so tn sn n m M O M1 O1 ++ [.row p.1.2 32 (hsG (hs ++ (cs.map (·.1)).take p.1.1))]⟩) (fun p => cs.length - p.1.1) ?_ ?_
  · rcases hx with ⟨rfl, rfl, rfl⟩ | ⟨v, rfl, rfl⟩
    · refine Into.row 11 32 rfl rfl ?_
      simp +contextual -implicitDefEqProofs (maxSteps := 2000000) (disch := omega) only [drawC, drawK, keepT, ↓lenV, binV, ↓loadV, ↓storeV, ↓fieldAddrV, ↓indexAddrV, ↓allocV, ↓boxV, ↓buildV, ↓buildSliceV, ↓nilV, ↓ifaceV, ↓appendV, ↓srcV, fillG, fillE, place, GVal.cells, GVal.ofConst, ↓resV, resG, ↓reduceIte, reduceEqDiff, reduceAdd, reduceSub, reduceLeDiff, reduceCtorEq, ↓asrcV, aggV, Tag.cap, GVal.solid, Nat.reduceBEq, reduceMul, reduceLT, vcA, ↓vcB, vcC, fbFy, e12, vcD]
      intro v
      exact Into.first ⟨(0, v), Nat.zero_le _⟩ ⟨[], rfl⟩ (by simp [WL, leG_self, leG_any, csG_len])
    · exact Into.first ⟨(0, v), Nat.zero_le _⟩ ⟨[], by simp⟩ (by simp [WL, leG_self, leG_any, csG_len])
  · rintro ⟨⟨k, v⟩, hk⟩
    change k ≤ cs.length at hk
    by_cases h : k < cs.length
    · have d0 : ((k : Int) < (cs.length : Int)) = True := eq_true (by omega)
      have eC := csG_at cs k h
      have eT : hs ++ (cs.map (·.1)).take (k + 1) = (hs ++ (cs.map (·.1)).take k) ++ [(cs.getD k default).1] := by
        rw [List.take_add_one]; simp [List.getD, h]
      have lT : (hs ++ (cs.map (·.1)).take k).length ≤ 2000000 := by
        have := List.length_take_le k (cs.map (·.1))
        rw [List.length_append]
        have h2 : (cs.map (·.1)).length = cs.length := List.length_map ..
        omega
      generalize cs.getD k default = c at *
      generalize hs ++ (cs.map (·.1)).take k = L at *
      have l33 : (comG c).length = 33 := comG_len c
      have t32 : List.take 32 (comG c) = bytesG c.1.1 := take32a c.1 _
      have t33 : List.take 33 (comG c) = comG c := List.take_of_length_le (by rw [l33]; exact Nat.le_refl _)
      have dz : List.drop 33 ([.int .u8 0, .int .u8 0, .int .u8 0, .int .u8 0, .int .u8 0, .int .u8 0, .int .u8 0, .int .u8 0, .int .u8 0, .int .u8 0, .int .u8 0, .int .u8 0, .int .u8 0, .int .u8 0, .int .u8 0, .int .u8 0, .int .u8 0, .int .u8 0, .int .u8 0, .int .u8 0, .int .u8 0, .int .u8 0, .int .u8 0, .int .u8 0, .int .u8 0, .int .u8 0, .int .u8 0, .int .u8 0, .int .u8 0, .int .u8 0, .int .u8 0, .int .u8 0, .slice [] .nil] : List GVal) = [] := rfl
      have s33 : allSolid (comG c) = True := by rw [show comG c = bytesG c.1.1 ++ [.slice (hsG c.2) .none] from rfl, solid33]; simp [GVal.solid]
      have eL : List.take L.length (hsG L) = hsG L := List.take_of_length_le (by rw [hsG_len]; exact Nat.le_refl _)
      simp +contextual -implicitDefEqProofs (maxSteps := 2000000) (disch := omega) only [drawC, drawK, keepT, ↓lenV, binV, ↓loadV, ↓storeV, ↓fieldAddrV, ↓indexAddrV, ↓allocV, ↓boxV, ↓buildV, ↓buildSliceV, ↓nilV, ↓ifaceV, ↓appendV, ↓srcV, fillG, fillE, place, GVal.cells, GVal.ofConst, ↓resV, resG, ↓reduceIte, reduceEqDiff, reduceAdd, reduceSub, reduceLeDiff, reduceCtorEq, ↓asrcV, aggV, Tag.cap, GVal.solid, Nat.reduceBEq, reduceMul, reduceLT, vcA, ↓vcB, vcC, fbFy, e12, eL, t33, dz, s33, List.append_nil, uS, uO, nxO, idO2, List.cons_append, List.nil_append, d0, csG_len, eC, l33, t32, hsG_len, all_hsG, setO_3, setO_4, setO_5, setO_6, setO_7, setO_8, vcD, v32]
      refine ⟨by omega, fun sc => ⟨by omega, by omega, by omega, fun v2 => ?_⟩⟩
      have eLen : (hs ++ (cs.map (·.1)).take (k + 1)).length = L.length + 1 := by rw [eT]; simp
      refine Into.at ⟨(k + 1, v2), h⟩ (by show _ < _; simp; omega) ⟨[.row sc 33 [comG c]], ?_⟩ ?_
      · show _ = (uO ti st s so tn sn n m M O M1 O1 ++ [.row v2 32 (hsG (hs ++ (cs.map (·.1)).take (k + 1)))]) ++ [.row sc 33 [comG c]]
        rw [eT, hsG_app]
        rfl
      · show WL _ (uS ti st (.ref (reqG cs hs th gr)) x7 x8 x10 (.own 6 v2 0 (hs ++ (cs.map (·.1)).take (k + 1)).length) (.slice (csG cs) .none) (.int .i64 cs.length) (.int .i64 (k + 1 : Nat)))
        rw [eLen]
        simp [WL, leG_self, leG_any, leG_int]
    · have d0 : ((k : Int) < (cs.length : Int)) = False := eq_false (by omega)
      have ek : (cs.map (·.1)).take k = cs.map (·.1) := List.take_of_length_le (by rw [List.length_map]; omega)
      rw [ek]
      simp +contextual -implicitDefEqProofs (maxSteps := 2000000) (disch := omega) only [drawC, drawK, keepT, ↓lenV, binV, ↓loadV, ↓storeV, ↓fieldAddrV, ↓indexAddrV, ↓allocV, ↓boxV, ↓buildV, ↓buildSliceV, ↓nilV, ↓ifaceV, ↓appendV, ↓srcV, fillG, fillE, place, GVal.cells, GVal.ofConst, ↓resV, resG, ↓reduceIte, reduceEqDiff, reduceAdd, reduceSub, reduceLeDiff, reduceCtorEq, ↓asrcV, aggV, Tag.cap, GVal.solid, Nat.reduceBEq, reduceMul, reduceLT, vcA, ↓vcB, vcC, fbFy, e12, uS, d0, vcN, NW, leG_any, leG_self, and_true, true_and, vcD]
      exact ⟨v, rfl, by rw [leG_self]; trivial⟩
theorem u27 (m : GM) (hm : GMOK m) (ti st s so tn sn : Nat) (n : Int) (M O M1 O1 : List Hs) (x5 : GVal) (L : List Hs) (hL : L.length ≤ 1000000) (T : WSt) (hT : VisL m (fun h => (look (ofM M1 O1) h).isSome) L ([], []) T) (hM : M1.length ≤ 1000000) (hO : O1.length + T.2.length ≤ 1000000) :
    VCs Tryz.prog [5] s12_27 (retQ Tryz.prog [.tmp 6] fun g O' => ∃ so', g = .lit .nilIface ∧ O' = (uO ti st s so tn sn n m M O M1 O1).set 2 (.row ti 4 [[.int .i64 n, .slice (hsG M1) .none, .slice (hsG (O1 ++ T.2)) .none, .map 6 so']]) ++ [.map so' (kvG encI (ofM M1 (O1 ++ T.2)))]) ⟨uS ti st x5 (.slice (hsG M1) .none) (.slice (hsG O1) .none) (.ref [.ptr 4 tn 0 0]) (.slice (hsG L) .none) .any .any .any, uO ti st s so tn sn n m M O M1 O1⟩ := by
  refine ⟨?_⟩
  have cW := GCalls.readAt (args' := [.ptr 0 st 0 0, .slice (hsG L) .none, (.func (.func 44) [] [.ref [.ptr 4 tn 0 0]])]) (iWalkD m hm L .none st s tn sn (.int .i64 0) M1 O1 T hT hL) (O := uO ti st s so tn sn n m M O M1 O1) [0, 1, 4, 5]
    ⟨⟨_, rfl, .refl _⟩, ⟨_, rfl, .refl _⟩, ⟨_, rfl, OLe.row ⟨⟨GLe.refl _, GLe.refl _, GLe.refl _, GLe.map _ _ _, trivial⟩, trivial⟩⟩, ⟨_, rfl, .refl _⟩, trivial⟩
    ⟨⟨_, rfl, .refl _⟩, ⟨_, rfl, .refl _⟩, ⟨_, rfl, OLe.row ⟨⟨GLe.refl _, GLe.refl _, GLe.refl _, GLe.map _ _ _, trivial⟩, trivial⟩⟩, ⟨_, rfl, .refl _⟩, trivial⟩
    (by decide) ⟨GLe.refl _, GLe.refl _, GLe.func _ trivial ⟨GLe.ref ⟨GLe.ptr _ _ _ _ _, trivial⟩, trivial⟩, trivial⟩ rfl rfl
  have cC := iConcat O1 T.2 .none .none .full (by omega)
  have cN := GCalls.oneNew (z1 := fun so' => .row ti 4 [[.int .i64 n, .slice (hsG M1) .none, .slice (hsG (O1 ++ T.2)) .none, .map 6 so']]) (args' := [.ptr 2 ti 0 0, .slice (hsG M1) .none, .slice (hsG (O1 ++ T.2)) .none]) (iNumber ti (.int .i64 n) (.slice (hsG M) .none) (.slice (hsG O) .none) (.map 3 so) M1 (O1 ++ T.2) hM (by rw [List.length_append]; omega)) (O := uO ti st s so tn sn n m M O M1 O1) 2 rfl (.refl _) (fun so => OLe.row ⟨⟨GLe.refl _, GLe.refl _, GLe.refl _, GLe.map _ _ _, trivial⟩, trivial⟩) ⟨GLe.ptr _ _ _ _ _, GLe.refl _, GLe.refl _, trivial⟩ rfl rfl (fun _ => rfl) (fun _ => rfl)
  skip
  simp +contextual -implicitDefEqProofs (maxSteps := 2000000) (disch := omega) only [drawC, drawK, keepT, ↓lenV, binV, ↓loadV, ↓storeV, ↓fieldAddrV, ↓indexAddrV, ↓allocV, ↓boxV, ↓buildV, ↓buildSliceV, ↓nilV, ↓ifaceV, ↓appendV, ↓srcV, fillG, fillE, place, GVal.cells, GVal.ofConst, ↓resV, resG, ↓reduceIte, reduceEqDiff, reduceAdd, reduceSub, reduceLeDiff, reduceCtorEq, ↓asrcV, aggV, Tag.cap, GVal.solid, Nat.reduceBEq, reduceMul, reduceLT, vcA, ↓vcB, vcC, fbFy, e12, uS, vcD]
  refine cW.mono ?_
  rintro g O' ⟨rfl, rfl⟩
  simp +contextual -implicitDefEqProofs (maxSteps := 2000000) (disch := omega) only [drawC, drawK, keepT, ↓lenV, binV, ↓loadV, ↓storeV, ↓fieldAddrV, ↓indexAddrV, ↓allocV, ↓boxV, ↓buildV, ↓buildSliceV, ↓nilV, ↓ifaceV, ↓appendV, ↓srcV, fillG, fillE, place, GVal.cells, GVal.ofConst, ↓resV, resG, ↓reduceIte, reduceEqDiff, reduceAdd, reduceSub, reduceLeDiff, reduceCtorEq, ↓asrcV, aggV, Tag.cap, GVal.solid, Nat.reduceBEq, reduceMul, reduceLT, vcA, ↓vcB, vcC, fbFy, e12, vcD]
  refine cC.then ?_ (by rfl)
  simp +contextual -implicitDefEqProofs (maxSteps := 2000000) (disch := omega) only [drawC, drawK, keepT, ↓lenV, binV, ↓loadV, ↓storeV, ↓fieldAddrV, ↓indexAddrV, ↓allocV, ↓boxV, ↓buildV, ↓buildSliceV, ↓nilV, ↓ifaceV, ↓appendV, ↓srcV, fillG, fillE, place, GVal.cells, GVal.ofConst, ↓resV, resG, ↓reduceIte, reduceEqDiff, reduceAdd, reduceSub, reduceLeDiff, reduceCtorEq, ↓asrcV, aggV, Tag.cap, GVal.solid, Nat.reduceBEq, reduceMul, reduceLT, vcA, ↓vcB, vcC, fbFy, e12, vcD]
  refine cN.mono ?_
  rintro g O' ⟨so', rfl, rfl⟩
  simp +contextual -implicitDefEqProofs (maxSteps := 2000000) (disch := omega) only [drawC, drawK, keepT, ↓lenV, binV, ↓loadV, ↓storeV, ↓fieldAddrV, ↓indexAddrV, ↓allocV, ↓boxV, ↓buildV, ↓buildSliceV, ↓nilV, ↓ifaceV, ↓appendV, ↓srcV, fillG, fillE, place, GVal.cells, GVal.ofConst, ↓resV, resG, ↓reduceIte, reduceEqDiff, reduceAdd, reduceSub, reduceLeDiff, reduceCtorEq, ↓asrcV, aggV, Tag.cap, GVal.solid, Nat.reduceBEq, reduceMul, reduceLT, vcA, ↓vcB, vcC, fbFy, e12, vcD]
  exact ⟨so', rfl⟩
end Gv.Tryz
/- ids' Update: put together. -/
set_option linter.unusedVariables false
set_option linter.unusedSimpArgs false
set_option maxRecDepth 20000
set_option maxHeartbeats 1000000
namespace Gv.Tryz
open Go Gv Go.Proofs
theorem req_solid (cs : List Cm) (hs : List Hs) (th : Tag) (gr : Int) : allSolid (reqG cs hs th gr) = True := by simp [reqG, allSolid, GVal.solid]
theorem iUpdateRaw (m : GM) (hm : GMOK m) (ti st s so : Nat) (cs : List Cm) (hs : List Hs) (th : Tag) (ht : th = .nil → hs = []) (gr n : Int) (M O M1 O1 : List Hs)
    (hcase : (gr ≠ 1 ∧ M1 = M ∧ O1 = O) ∨ (gr = 1 ∧ ∃ T1 : WSt, VisL m (masterB (ofM M O)) hs ([], []) T1 ∧ M1 = M ++ T1.2 ∧ O1 = woL O T1.2 ∧ (M.length : Int) + T1.2.length ≤ n ∧ T1.2.length ≤ 100000))
    (T2 : WSt) (hT2 : VisL m (fun h => (look (ofM M1 O1) h).isSome) (hs ++ cs.map (·.1)) ([], []) T2) (hc : cs.length ≤ 100000) (hh : hs.length ≤ 100000) (hM : M.length ≤ 100000) (hO : O.length ≤ 100000) (hM1 : M1.length ≤ 1000000) (hO1 : O1.length + T2.2.length ≤ 1000000) :
    GCalls Tryz.prog 12 [.ptr 2 ti 0 0, .ptr 0 st 0 0, .agg (reqG cs hs th gr)] (gObj st s m ++ idO2 ti so n M O) (fun g O' => ∃ so' tn sn, g = .lit .nilIface ∧ O' = (uO ti st s so tn sn n m M O M1 O1).set 2 (.row ti 4 [[.int .i64 n, .slice (hsG M1) .none, .slice (hsG (O1 ++ T2.2)) .none, .map 6 so']]) ++ [.map so' (kvG encI (ofM M1 (O1 ++ T2.2)))]) := by
  refine gcalls_of_wp (hf := Tryz.func12) (hb := rfl) (hn := Tryz.ntmps12) (hr := Tryz.results12) (hen := by kernel_rfl) (hargs := by simp) ?_
  intro E a w hs0 ha
  refine wp_seq (wp_partV (st := ⟨(gstart 86 [.ptr 2 ti 0 0, .ptr 0 st 0 0, .agg (reqG cs hs th gr)] []).s, gObj st s m ++ idO2 ti so n M O⟩) mixS (s := s12_0) (C := C10) (by kernel_rfl) (by kernel_rfl) hs0 ha (u0 ti st _ rfl (req_solid _ _ _ _) _) ?_)
  rintro ⟨t1, O1'⟩ E1 a1 w1 q1 k1 s1R ⟨e1, hw1⟩
  change O1' = gObj st s m ++ idO2 ti so n M O at e1
  subst e1
  have s1 := s1R.weak hw1
  show (Code.seq _ _).wp _ _ _ _
  refine wp_seq (wp_partV (st := ⟨uS ti st (.ref (reqG cs hs th gr)) .any .any .any .any .any .any .any, gObj st s m ++ idO2 ti so n M O⟩) mixS (s := .seq s12_1 s12_3) (C := C10) (by kernel_rfl) (by kernel_rfl) q1 s1 (u1 ti st _ _) ?_)
  rintro ⟨t2, O2'⟩ E2 a2 w2 q2 k2 s2R ⟨e2, hw2⟩
  change O2' = gObj st s m ++ idO2 ti so n M O at e2
  subst e2
  have s2 := s2R.weak hw2
  show (Code.seq _ _).wp _ _ _ _
  refine wp_seq (wp_partV (st := ⟨uS ti st (.ref (reqG cs hs th gr)) .any .any .any .any .any .any .any, gObj st s m ++ idO2 ti so n M O⟩) mixS (s := s12_4) (C := C10) (by kernel_rfl) (by kernel_rfl) q2 s2 (u4 ti st so _ n M O _ _) ?_)
  rintro ⟨t3, O3'⟩ E3 a3 w3 q3 k3 s3R ⟨e3, hw3⟩
  change O3' = gObj st s m ++ idO2 ti so n M O at e3
  subst e3
  have s3 := s3R.weak hw3
  have c12 : VCs Tryz.prog [5] s12_12 (vcN (NW (uS ti st (.ref (reqG cs hs th gr)) (.slice (hsG M1) .none) (.slice (hsG O1) .none) .any .any .any .any .any) (gObj st s m ++ idO2 ti so n M O))) ⟨uS ti st (.ref (reqG cs hs th gr)) (.slice (hsG M) .none) (.slice (hsG O) .none) .any .any .any .any .any, gObj st s m ++ idO2 ti so n M O⟩ := by
    rcases hcase with ⟨h1, rfl, rfl⟩ | ⟨rfl, T1, h1, rfl, rfl, h2, h3⟩
    · exact u12n ti st cs hs th gr h1 _ _ _
    · exact u12m m hm ti st s so cs hs th n M O T1 h1 (by omega) (by omega) (by omega) (by omega) h2
  show (Code.seq _ _).wp _ _ _ _
  refine wp_seq (wp_partV (st := ⟨uS ti st (.ref (reqG cs hs th gr)) (.slice (hsG M) .none) (.slice (hsG O) .none) .any .any .any .any .any, gObj st s m ++ idO2 ti so n M O⟩) mixS (s := s12_12) (C := C10) (by kernel_rfl) (by kernel_rfl) q3 s3 c12 ?_)
  rintro ⟨t4, O4'⟩ E4 a4 w4 q4 k4 s4R ⟨e4, hw4⟩
  change O4' = gObj st s m ++ idO2 ti so n M O at e4
  subst e4
  have s4 := s4R.weak hw4
  have k04 := ((k1.trans k2).trans k3).trans k4
  show (Code.seq _ _).wp _ _ _ _
  refine wp_seq (wp_partV (st := ⟨uS ti st (.ref (reqG cs hs th gr)) (.slice (hsG M1) .none) (.slice (hsG O1) .none) .any .any .any .any .any, gObj st s m ++ idO2 ti so n M O⟩) mixS (s := s12_13) (C := C10) (by kernel_rfl) (by kernel_rfl) q4 s4 (u13 ti st s so _ _ _ n m M O) ?_)
  rintro ⟨t5, O5'⟩ E5 a5 w5 q5 k5 s5R ⟨tn, tb, e5, hw5⟩
  change O5' = (gObj st s m ++ idO2 ti so n M O ++ [.row tn 4 [[.int .i64 0, .slice [] .nil, .slice [] .nil, .lit (.map none)]]]) ++ [.row tb 1 [[.ptr 4 tn 0 0]]] at e5
  subst e5
  obtain ⟨q6, k6, s6⟩ := q5.meltBox1 (s5R.weak hw5) 10 rfl rfl
  show (Code.seq _ _).wp _ _ _ _
  refine wp_seq (wp_partV (st := ⟨uS ti st (.ref (reqG cs hs th gr)) (.slice (hsG M1) .none) (.slice (hsG O1) .none) (.ref [.ptr 4 tn 0 0]) .any .any .any .any, gObj st s m ++ idO2 ti so n M O ++ [.row tn 4 [[.int .i64 0, .slice [] .nil, .slice [] .nil, .lit (.map none)]]]⟩) mixS (s := s12_14) (C := C10) (by kernel_rfl) (by kernel_rfl) q6 (s6.weak (by simp [WL, leG_self, leG_any])) (u14 ti st s so tn _ n m M O M1 O1 hM1 (by omega)) ?_)
  rintro ⟨t7, O7'⟩ E7 a7 w7 q7 k7 s7R ⟨sn, e7, hw7⟩
  change O7' = uO ti st s so tn sn n m M O M1 O1 at e7
  subst e7
  have s7 := s7R.weak hw7
  have k07 := ((k04.trans k5).trans k6).trans k7
  show (Code.seq _ _).wp _ _ _ _
  refine wp_seq (wp_partV (st := ⟨uS ti st (.ref (reqG cs hs th gr)) (.slice (hsG M1) .none) (.slice (hsG O1) .none) (.ref [.ptr 4 tn 0 0]) .any .any .any .any, uO ti st s so tn sn n m M O M1 O1⟩) mixS (s := s12_15) (C := C10) (by kernel_rfl) (by kernel_rfl) q7 s7 (u15 ti st _ _ _ cs hs th ht (by omega) gr _ rfl) ?_)
  rintro ⟨t8, O8'⟩ E8 a8 w8 q8 k8 s8R h8
  obtain ⟨x11, X, hx, e8, s8⟩ : ∃ x11 X, ((hs = [] ∧ x11 = .slice [] .nil ∧ X = []) ∨ ∃ v, x11 = .own 6 v 0 hs.length ∧ X = [.row v 32 (hsG hs)]) ∧ O8' = uO ti st s so tn sn n m M O M1 O1 ++ X ∧ SlotsR E8 a8 (uS ti st (.ref (reqG cs hs th gr)) (.slice (hsG M1) .none) (.slice (hsG O1) .none) (.ref [.ptr 4 tn 0 0]) x11 .any .any .any) := by
    rcases h8 with ⟨h1, e, hw⟩ | ⟨v, e, hw⟩
    · exact ⟨_, [], .inl ⟨h1, rfl, rfl⟩, by rw [List.append_nil]; exact e, s8R.weak hw⟩
    · exact ⟨_, _, .inr ⟨v, rfl, rfl⟩, e, s8R.weak hw⟩
  subst e8
  show (Code.seq _ _).wp _ _ _ _
  refine wp_seq (wp_partV (st := ⟨uS ti st (.ref (reqG cs hs th gr)) (.slice (hsG M1) .none) (.slice (hsG O1) .none) (.ref [.ptr 4 tn 0 0]) x11 .any .any .any, uO ti st s so tn sn n m M O M1 O1 ++ X⟩) mixS (s := s12_23) (C := C10) (by kernel_rfl) (by kernel_rfl) q8 s8 (u23 ti st s so tn sn n m M O M1 O1 _ _ _ x11 X cs hs th gr (by omega) (by omega) hx) ?_)
  rintro ⟨t9, O9'⟩ E9 a9 w9 q9 k9 s9R ⟨v, e9, hw9⟩
  change O9' = uO ti st s so tn sn n m M O M1 O1 ++ [.row v 32 (hsG (hs ++ cs.map (·.1)))] at e9
  subst e9
  have s9 := s9R.weak hw9
  obtain ⟨st', Ex, e10, q10, k10, s10⟩ := (Into.melt (st := ⟨uS ti st (.ref (reqG cs hs th gr)) (.slice (hsG M1) .none) (.slice (hsG O1) .none) (.ref [.ptr 4 tn 0 0]) (.own 6 v 0 (hs ++ cs.map (·.1)).length) .any .any .any, uO ti st s so tn sn n m M O M1 O1 ++ [.row v 32 (hsG (hs ++ cs.map (·.1)))]⟩) (N := fun st' => st' = ⟨uS ti st (.ref (reqG cs hs th gr)) (.slice (hsG M1) .none) (.slice (hsG O1) .none) (.ref [.ptr 4 tn 0 0]) (.slice (hsG (hs ++ cs.map (·.1))) .none) .any .any .any, uO ti st s so tn sn n m M O M1 O1⟩) 11 2 rfl rfl (hsG_len _).symm (frz_hs _ 1 _) (Into.here rfl)) E9 a9 w9 q9 s9
  subst e10
  have K10 := ((k07.trans k8).trans k9).trans k10
  refine wp_mono (vc_sound mixS _ (retQ Tryz.prog [.tmp 6] _) ⟨_, _⟩ _ a9 w9 (C := C10) (by kernel_rfl) q10 s10 (vcS_ok (C := C10) _ _ _ _ _ (by kernel_rfl) ?_ (u27 m hm ti st s so tn sn n M O M1 O1 _ _ (by rw [List.length_append, List.length_map]; omega) T2 hT2 hM1 hO1).ok)) (fun e a' w' hpost => Post.trans K10 hpost)
  intro e s h
  cases e with
  | normal => obtain ⟨so', h1, h2⟩ := h; exact ⟨so', tn, sn, h1, h2⟩
  | ret => obtain ⟨so', h1, h2⟩ := h; exact ⟨so', tn, sn, h1, h2⟩
  | exit k => exact h.elim
theorem iUpdate (m : GM) (hm : GMOK m) (ti st s so : Nat) (cs : List Cm) (hs : List Hs) (th : Tag) (ht : th = .nil → hs = []) (gr n : Int) (M O M1 O1 : List Hs)
    (hcase : (gr ≠ 1 ∧ M1 = M ∧ O1 = O) ∨ (gr = 1 ∧ ∃ T1 : WSt, VisL m (masterB (ofM M O)) hs ([], []) T1 ∧ M1 = M ++ T1.2 ∧ O1 = woL O T1.2 ∧ (M.length : Int) + T1.2.length ≤ n ∧ T1.2.length ≤ 100000))
    (T2 : WSt) (hT2 : VisL m (fun h => (look (ofM M1 O1) h).isSome) (hs ++ cs.map (·.1)) ([], []) T2) (hc : cs.length ≤ 100000) (hh : hs.length ≤ 100000) (hM : M.length ≤ 100000) (hO : O.length ≤ 100000) (hM1 : M1.length ≤ 1000000) (hO1 : O1.length + T2.2.length ≤ 1000000) :
    GCalls Tryz.prog 12 [.ptr 2 ti 0 0, .ptr 0 st 0 0, .agg (reqG cs hs th gr)] (gObj st s m ++ idO2 ti so n M O) (fun g O' => ∃ so', g = .lit .nilIface ∧ O' = gObj st s m ++ idO2 ti so' n M1 (O1 ++ T2.2)) := by
  refine GCalls.into ((iUpdateRaw m hm ti st s so cs hs th ht gr n M O M1 O1 hcase T2 hT2 hc hh hM hO hM1 hO1).mono ?_)
  rintro g O' ⟨so', tn, sn, rfl, rfl⟩
  exact GInto.pick (X := gObj st s m ++ idO2 ti so' n M1 (O1 ++ T2.2)) [0, 1, 2, 6] ⟨⟨_, rfl, .refl _⟩, ⟨_, rfl, .refl _⟩, ⟨_, rfl, OLe.row ⟨⟨GLe.refl _, GLe.refl _, GLe.refl _, GLe.map _ _ _, trivial⟩, trivial⟩⟩, ⟨_, rfl, .refl _⟩, trivial⟩ (by decide) rfl ⟨so', rfl, rfl⟩
end Gv.Tryz
/- The law's listed: all hashes by their numbers. -/
set_option linter.unusedVariables false
set_option linter.unusedSimpArgs false
set_option maxRecDepth 20000
set_option maxHeartbeats 4000000
namespace Gv.Tryz
open Go Gv Go.Proofs
end Gv.Tryz
/- Contracts: graph's Ancestors. -/
set_option linter.unusedVariables false
set_option linter.unusedSimpArgs false
set_option maxRecDepth 20000
set_option maxHeartbeats 4000000
namespace Gv.Tryz
open Go Gv Go.Proofs
def inM (m : GM) (l : List Hs) : List Hs := l.filter fun h => (look m h).isSome
end Gv.Tryz
/- Contracts: order's Rising. -/
set_option linter.unusedVariables false
set_option linter.unusedSimpArgs false
set_option maxRecDepth 20000
set_option maxHeartbeats 4000000
namespace Gv.Tryz
open Go Gv Go.Proofs
theorem ss_nodup {a : List Hs} (h : SS a) : a.Nodup := h.imp fun {x y} q e => by rw [e] at q; exact LT.irrefl _ q
end Gv.Tryz
/- Graphs that may be: plain laws of walks. -/
set_option linter.unusedVariables false
set_option linter.unusedSimpArgs false
set_option maxRecDepth 20000
namespace Gv.Tryz
open Go Gv Go.Proofs
structure Good (m : GM) : Prop where
  ok : GOK m
  keys : (m.map (·.1)).Nodup
  closed : ∀ x y, y ∈ parsM m x → (look m y).isSome = true
  acyc : ∀ x, ¬ Reach (parsM m) (parsM m x) x
theorem Reach.trans {nx : Hs → List Hs} {l l' : List Hs} {x : Hs} (h : Reach nx l' x) (hl : ∀ y ∈ l', Reach nx l y) : Reach nx l x := by
  induction h with
  | base x hx => exact hl x hx
  | step x y _ hy ih => exact .step x y ih hy
theorem Reach.sub {nx : Hs → List Hs} {l l' : List Hs} {x : Hs} (h : Reach nx l' x) (hl : ∀ y ∈ l', y ∈ l) : Reach nx l x := h.trans fun y hy => .base y (hl y hy)
theorem Reach.nil {nx : Hs → List Hs} {x : Hs} (h : Reach nx [] x) : False := by
  induction h with
  | base x hx => cases hx
  | step _ _ _ _ ih => exact ih
theorem pars_there {m : GM} {x y : Hs} (h : y ∈ parsM m x) : (look m x).isSome = true := by
  cases e : look m x with
  | some l => rfl
  | none => rw [parsM_none e] at h; cases h
theorem Reach.inM {m : GM} {l : List Hs} {x : Hs} (h : Reach (parsM m) l x) (hx : (look m x).isSome = true) : Reach (parsM m) (inM m l) x := by
  induction h with
  | base x h => exact .base x (List.mem_filter.2 ⟨h, hx⟩)
  | step x y _ hy ih => exact .step x y (ih (pars_there hy)) hy
end Gv.Tryz
/- Adding commits: a graph that may be stays one; graphs that say alike. -/
set_option linter.unusedVariables false
set_option linter.unusedSimpArgs false
set_option maxRecDepth 20000
namespace Gv.Tryz
open Go Gv Go.Proofs
theorem mset_keys {α : Type} (m : List (Hs × α)) (h : Hs) (v : α) : (mset m h v).map (·.1) = if (look m h).isSome = true then m.map (·.1) else m.map (·.1) ++ [h] := by
  induction m with
  | nil => simp [mset, look]
  | cons p r ih =>
    rw [mset, look]
    by_cases e : h = p.1
    · rw [if_pos e, if_pos e]; simp [e]
    · rw [if_neg e, if_neg e, List.map_cons, ih]
      split <;> simp
theorem key_look {α : Type} {m : List (Hs × α)} {x : Hs} (h : x ∈ m.map (·.1)) : (look m x).isSome = true := by
  induction m with
  | nil => cases h
  | cons p r ih =>
    rw [look]
    by_cases e : x = p.1
    · rw [if_pos e]; rfl
    · rw [if_neg e]
      rw [List.map_cons] at h
      rcases List.mem_cons.1 h with q | q
      · exact absurd q e
      · exact ih q
theorem join_spec : ∀ {cs : List Cm} {m M : GM}, joinP m cs = .ok M → (m.map (·.1)).Nodup → (M.map (·.1)).Nodup ∧ (∀ h l, look m h = some l → look M h = some l) ∧ (∀ c ∈ cs, look M c.1 = some c.2) ∧ (∀ h l, look M h = some l → look m h = some l ∨ (h, l) ∈ cs)
  | [], m, M, h, hk => by
    rw [joinP] at h; cases h
    exact ⟨hk, fun _ _ h => h, by simp, fun _ _ h => .inl h⟩
  | c :: r, m, M, h, hk => by
    rw [joinP] at h
    unfold joinE at h
    cases el : look m c.1 with
    | some l =>
      simp only [el] at h
      split at h
      · rename_i m' e
        split at e
        · rename_i e2
          cases e
          obtain ⟨h1, h2, h3, h4⟩ := join_spec h hk
          refine ⟨h1, h2, fun d hd => ?_, fun x l hx => (h4 x l hx).imp id fun q => List.mem_cons_of_mem _ q⟩
          rcases List.mem_cons.1 hd with q | q
          · rw [q, h2 _ _ el, e2]
          · exact h3 d q
        · cases e
      · cases h
    | none =>
      simp only [el] at h
      have hk' : ((mset m c.1 c.2).map (·.1)).Nodup := by
        rw [mset_keys, el]
        simp only [Option.isSome_none, Bool.false_eq_true, if_false]
        rw [List.nodup_append]
        refine ⟨hk, by simp, fun a ha b hb e => ?_⟩
        rw [List.mem_singleton.1 hb] at e
        have := key_look ha
        rw [e, el] at this; cases this
      obtain ⟨h1, h2, h3, h4⟩ := join_spec h hk'
      refine ⟨h1, fun x l hx => h2 x l ?_, fun d hd => ?_, fun x l hx => ?_⟩
      · rw [look_mset, if_neg (fun e => by rw [e, el] at hx; cases hx)]; exact hx
      · rcases List.mem_cons.1 hd with q | q
        · rw [q]; exact h2 _ _ (by rw [look_mset, if_pos rfl])
        · exact h3 d q
      · rcases h4 x l hx with q | q
        · rw [look_mset] at q
          split at q
          · rename_i e
            cases q
            exact .inr (by rw [e]; simp)
          · exact .inl q
        · exact .inr (List.mem_cons_of_mem _ q)
theorem joined_ok {gr : Int} {m M : GM} {cs : List Cm} {hs : List Hs} (h : joinedP gr m cs hs = .ok M) : sizesP gr hs.length cs = none ∧ joinP m cs = .ok M ∧ lackP M cs hs = none ∧ roundP m M cs = none ∧ M.length ≤ 1000 := by
  unfold joinedP at h
  split at h
  · cases h
  · rename_i e1
    split at h
    · cases h
    · rename_i M' e2
      split at h
      · cases h
      · rename_i e3
        split at h
        · cases h
        · rename_i e4
          split at h
          · cases h
          · cases h
            exact ⟨e1, e2, e3, e4, by omega⟩
theorem lack_none {M : GM} {cs : List Cm} {hs : List Hs} (h : lackP M cs hs = none) : (∀ c ∈ cs, ∀ y ∈ c.2, (look M y).isSome = true) ∧ ∀ y ∈ hs, (look M y).isSome = true := by
  unfold lackP at h
  have hn : ∀ n y, nowhere M n y = none → (look M y).isSome = true := fun n y q => by
    unfold nowhere at q
    split at q
    · rename_i e; rw [e]; rfl
    · cases q
  split at h
  · cases h
  · rename_i e
    refine ⟨fun c hc y hy => ?_, fun y hy => hn 11 y (List.findSome?_eq_none_iff.1 h y hy)⟩
    exact hn 10 y (List.findSome?_eq_none_iff.1 (List.findSome?_eq_none_iff.1 e c hc) y hy)
theorem joined_good {gr : Int} {m M : GM} {cs : List Cm} {hs : List Hs} (hm : Good m) (h : joinedP gr m cs hs = .ok M) : Good M := by
  obtain ⟨e1, e2, e3, e4, e5⟩ := joined_ok h
  obtain ⟨_, _, _, n4⟩ := sizesP_none e1
  obtain ⟨_, r2⟩ := joinP_ok e2 hm.ok.row fun c hc => (n4 c hc).1
  obtain ⟨k1, k2, k3, k4⟩ := join_spec e2 hm.keys
  obtain ⟨l1, _⟩ := lack_none e3
  refine ⟨⟨e5, r2⟩, k1, fun x y hy => ?_, fun x hx => ?_⟩
  · cases el : look M x with
    | none => rw [parsM_none el] at hy; cases hy
    | some l =>
      rw [parsM_some el] at hy
      rcases k4 x l el with q | q
      · have := hm.closed x y (by rw [parsM_some q]; exact hy)
        obtain ⟨z, hz⟩ := Option.isSome_iff_exists.1 this
        rw [k2 y z hz]; rfl
      · exact l1 _ q y hy
  · cases el : look M x with
    | none => rw [parsM_none el] at hx; exact hx.nil
    | some l =>
      rw [parsM_some el] at hx
      cases eo : look m x with
      | some l' =>
        have e : l' = l := by
          have := k2 x l' eo
          rw [el] at this; cases this; rfl
        subst e
        have : ∀ z, Reach (parsM M) l' z → Reach (parsM m) l' z ∧ (look m z).isSome = true := fun z hz => by
          induction hz with
          | base z hz => exact ⟨.base z hz, hm.closed x z (by rw [parsM_some eo]; exact hz)⟩
          | step z y _ hy ih =>
            obtain ⟨lz, hlz⟩ := Option.isSome_iff_exists.1 ih.2
            rw [parsM_some (k2 z lz hlz)] at hy
            have hy' : y ∈ parsM m z := by rw [parsM_some hlz]; exact hy
            exact ⟨.step z y ih.1 hy', hm.closed z y hy'⟩
        exact hm.acyc x (by rw [parsM_some eo]; exact (this x hx).1)
      | none =>
        rcases k4 x l el with q | q
        · rw [eo] at q; cases q
        · unfold roundP at e4
          have := List.findSome?_eq_none_iff.1 e4 _ q
          unfold roundE at this
          rw [eo] at this
          simp only [Option.isSome_none, Bool.false_eq_true, if_false] at this
          split at this
          · cases this
          · rename_i hn; exact hn hx
def Alike (m m' : GM) : Prop := ∀ h, look m h = look m' h
theorem Alike.pars {m m' : GM} (h : Alike m m') : parsM m = parsM m' := funext fun x => by unfold parsM; rw [h x]
theorem Alike.len {m m' : GM} (h : Alike m m') (k : (m.map (·.1)).Nodup) (k' : (m'.map (·.1)).Nodup) : m.length = m'.length := by
  have a := nodup_lenH _ (m'.map (·.1)) k fun x hx => look_key (by rw [← h x]; exact key_look hx)
  have b := nodup_lenH _ (m.map (·.1)) k' fun x hx => look_key (by rw [h x]; exact key_look hx)
  simp only [List.length_map] at a b
  omega
theorem Alike.symm {m m' : GM} (h : Alike m m') : Alike m' m := fun x => (h x).symm
end Gv.Tryz
/- Contracts: the reference's graph: find, Has, Parents. -/
set_option linter.unusedVariables false
set_option linter.unusedSimpArgs false
set_option maxRecDepth 20000
set_option maxHeartbeats 4000000
namespace Gv.Tryz
open Go Gv Go.Proofs
end Gv.Tryz
/- OrderLong: a line of commits: plain laws. -/
set_option linter.unusedVariables false
set_option linter.unusedSimpArgs false
set_option maxRecDepth 20000
namespace Gv.Tryz
open Go Gv Go.Proofs
def hL (k : Nat) : Hs := hq (UInt8.ofNat (k / 256)) (UInt8.ofNat k) 1
def cL (k : Nat) : Cm := (hL k, if k = 0 then [] else [hL (k - 1)])
def seg (a j : Nat) : List Cm := (List.range j).map fun i => cL (a + i)
abbrev chain (n : Nat) : GM := seg 0 n
end Gv.Tryz
/- Commits put into a sorted list; a list with a hash twice. -/
set_option linter.unusedVariables false
set_option linter.unusedSimpArgs false
set_option maxRecDepth 20000
namespace Gv.Tryz
open Go Gv Go.Proofs
end Gv.Tryz
/- Plain laws of GraphUnion. -/
set_option linter.unusedVariables false
set_option linter.unusedSimpArgs false
namespace Gv.Tryz
open Go Gv Go.Proofs
end Gv.Tryz
/- Numbers of commits: plain laws. -/
set_option linter.unusedVariables false
set_option linter.unusedSimpArgs false
namespace Gv.Tryz
open Go Gv Go.Proofs
def UpL (m : GM) : List Hs → List Hs → Prop
  | _, [] => True
  | acc, x :: r => (∀ y ∈ parsM m x, y ∈ acc) ∧ UpL m (acc ++ [x]) r
theorem UpL.app {m : GM} : ∀ (a b acc : List Hs), UpL m acc (a ++ b) ↔ UpL m acc a ∧ UpL m (acc ++ a) b
  | [], b, acc => by simp [UpL]
  | x :: r, b, acc => by
    rw [List.cons_append, UpL, UpL, UpL.app r b (acc ++ [x]), and_assoc]
    simp
theorem UpL.filter {m : GM} (p : Hs → Bool) : ∀ (l acc acc' : List Hs), (∀ y ∈ acc, y ∈ acc') → (∀ y ∈ l, p y = false → y ∈ acc') → UpL m acc l → UpL m acc' (l.filter p)
  | [], _, _, _, _, _ => trivial
  | x :: r, acc, acc', h1, h2, h => by
    rw [UpL] at h
    rw [List.filter_cons]
    cases hp : p x with
    | true =>
      rw [if_pos rfl, UpL]
      refine ⟨fun y hy => h1 y (h.1 y hy), UpL.filter p r _ _ (fun y hy => ?_) (fun y hy hpy => List.mem_append_left _ (h2 y (by simp [hy]) hpy)) h.2⟩
      rcases List.mem_append.1 hy with q | q
      · exact List.mem_append_left _ (h1 y q)
      · exact List.mem_append_right _ q
    | false =>
      rw [if_neg (by simp)]
      refine UpL.filter p r _ _ (fun y hy => ?_) (fun y hy hpy => h2 y (by simp [hy]) hpy) h.2
      rcases List.mem_append.1 hy with q | q
      · exact h1 y q
      · rw [List.mem_singleton.1 q]; exact h2 x (by simp) hp
theorem UpL.of {m : GM} {T acc : List Hs} (h : ∀ (i : Nat) x, T[i]? = some x → ∀ y ∈ parsM m x, y ∈ acc ∨ y ∈ T.take i) : UpL m acc T := by
  have : ∀ b a : List Hs, T = a ++ b → UpL m (acc ++ a) b := by
    intro b
    induction b with
    | nil => exact fun _ _ => trivial
    | cons x r ih =>
      intro a e
      rw [UpL]
      refine ⟨fun y hy => ?_, ?_⟩
      · have hx : T[a.length]? = some x := by rw [e, List.getElem?_append_right (Nat.le_refl _), Nat.sub_self]; rfl
        have ht : T.take a.length = a := by rw [e]; exact List.take_left
        have := h a.length x hx y hy
        rw [ht] at this
        exact List.mem_append.2 this
      · rw [List.append_assoc]
        exact ih (a ++ [x]) (by rw [e]; simp)
  have := this T [] rfl
  rwa [List.append_nil] at this
theorem UpL.at_ {m : GM} : ∀ {l acc : List Hs}, UpL m acc l → ∀ (i : Nat) (x : Hs), l[i]? = some x → ∀ y ∈ parsM m x, y ∈ acc ++ l.take i
  | [], acc, _, i, x, hi, y, hy => by simp at hi
  | z :: r, acc, h, 0, x, hi, y, hy => by
    simp at hi; subst hi
    rw [UpL] at h
    simpa using h.1 y hy
  | z :: r, acc, h, i + 1, x, hi, y, hy => by
    rw [UpL] at h
    have := UpL.at_ h.2 i x (by simpa using hi) y hy
    simpa using this
theorem UpL.congr {m m1 : GM} : ∀ (l acc : List Hs), (∀ x ∈ l, parsM m1 x = parsM m x) → UpL m acc l → UpL m1 acc l
  | [], _, _, _ => trivial
  | x :: r, acc, h, hu => by
    rw [UpL] at hu ⊢
    rw [h x (by simp)]
    exact ⟨hu.1, UpL.congr r _ (fun y hy => h y (by simp [hy])) hu.2⟩
structure NumOK (m : GM) (M O : List Hs) : Prop where
  nd : (M ++ O).Nodup
  all : ∀ x, x ∈ M ++ O ↔ (look m x).isSome = true
  up : UpL m [] (M ++ O)
end Gv.Tryz
/- Contracts: the reference's round. -/
set_option linter.unusedVariables false
set_option linter.unusedSimpArgs false
set_option maxRecDepth 20000
set_option maxHeartbeats 4000000
namespace Gv.Tryz
open Go Gv Go.Proofs
end Gv.Tryz
/- Numbers of commits: what the law asks of them; contracts in its memory. -/
set_option linter.unusedVariables false
set_option linter.unusedSimpArgs false
set_option maxRecDepth 20000
set_option maxHeartbeats 4000000
namespace Gv.Tryz
open Go Gv Go.Proofs
theorem iNew2 (m : GM) (st s : Nat) (n : Int) (h1 : 1 ≤ n) (h2 : n ≤ 600) : GCalls Tryz.prog 7 [.int .i64 n] (gObj st s m) (fun g O' => ∃ ti so, g = .tuple [.ptr 2 ti 0 0, .lit .nilIface] ∧ O' = gObj st s m ++ idO2 ti so n [] []) := by
  have d0 : (n < 1) = False := eq_false (by omega)
  have d1 : ((600 : Int) < n) = False := eq_false (by omega)
  have raw : GCalls Tryz.prog 7 [.int .i64 n] (gObj st s m) (fun g O' => ∃ ti so, g = .tuple [.ptr 3 ti 0 0, .lit .nilIface] ∧ O' = gObj st s m ++ [.map so [], .row ti 4 [[.int .i64 n, .slice [] .nil, .slice [] .nil, .map 2 so]]]) := by
    refine h7.calls mixS (by simp) ?_
    simp only [gstart, s7, List.cons_append, List.nil_append, List.length_cons, List.length_nil, Nat.reduceAdd, Nat.reduceSub, List.replicate_succ, List.replicate_zero]
    simp +contextual -implicitDefEqProofs (maxSteps := 2000000) (disch := omega) only [binV, ↓boxV, ↓buildV, ↓ifaceV, fillG, place, GVal.cells, GVal.ofConst, ↓resV, resG, ↓reduceIte, Nat.reduceEqDiff, Nat.reduceAdd, Nat.reduceSub, Nat.reduceLeDiff, reduceCtorEq, ↓makeMapV, Tag.cap, GVal.solid, Nat.reduceBEq, Nat.reduceMul, Nat.reduceLT, vcA, ↓vcB, vcC, fbFy, e7, d0, d1, vcD]
    exact fun so => ⟨rfl, fun ti => ⟨ti, so, rfl, rfl⟩⟩
  refine GCalls.into (raw.mono ?_)
  rintro g O' ⟨ti, so, rfl, rfl⟩ E v w hs hv
  obtain ⟨p1, p2⟩ := hs.pick (X := gObj st s m ++ idO2 ti so n [] []) [0, 1, 3, 2] ⟨⟨_, rfl, .refl _⟩, ⟨_, rfl, .refl _⟩, ⟨_, rfl, OLe.row ⟨⟨GLe.refl _, GLe.none, GLe.none, GLe.map _ _ _, trivial⟩, trivial⟩⟩, ⟨_, rfl, .refl _⟩, trivial⟩ (by decide) rfl
  exact ⟨.tuple [.ptr 2 ti 0 0, .lit .nilIface], _, E, ⟨ti, so, rfl, rfl⟩, p1, p2, GLe.tuple (xs := [.ptr 3 ti 0 0, .lit .nilIface]) (ys := [.ptr 2 ti 0 0, .lit .nilIface]) ⟨GLe.ptr _ _ _ _ _, GLe.refl _, trivial⟩ _ _ hv⟩
section
variable {f : FuncId} {args args' : List GVal} {r : GVal} {ti so : Nat} {n : Int} {M O : List Hs}
theorem iAt2 (h : GCalls Tryz.prog f (.ptr 0 ti 0 0 :: args) (idO ti so n M O) (fun g O' => g = r ∧ O' = idO ti so n M O)) (g1 g2 : GObj) (h1 : g1.isClock = false) (X : List GObj) : GCalls Tryz.prog f (.ptr 2 ti 0 0 :: args) (g1 :: g2 :: (idO2 ti so n M O ++ X)) (fun g O' => g = r ∧ O' = g1 :: g2 :: (idO2 ti so n M O ++ X)) :=
  GCalls.readAt h [2, 3] ⟨⟨_, rfl, OLe.row ⟨⟨GLe.refl _, GLe.refl _, GLe.refl _, GLe.map _ _ _, trivial⟩, trivial⟩⟩, ⟨_, rfl, .refl _⟩, trivial⟩ ⟨⟨_, rfl, OLe.row ⟨⟨GLe.refl _, GLe.refl _, GLe.refl _, GLe.map _ _ _, trivial⟩, trivial⟩⟩, ⟨_, rfl, .refl _⟩, trivial⟩ (by decide) ⟨GLe.ptr _ _ _ _ _, GLes.refl _⟩ rfl (by cases g1 <;> first | rfl | cases h1)
end
end Gv.Tryz
/- graph.Descendants, the ghost parts of its walk. -/
set_option linter.unusedVariables false
set_option linter.unusedSimpArgs false
set_option maxRecDepth 20000
set_option maxHeartbeats 4000000
namespace Gv.Tryz
open Go Gv Go.Proofs
open Nat (reduceEqDiff reduceAdd reduceSub reduceLeDiff reduceMul reduceLT)
abbrev dS (p0 p1 x5 x6 x7 x9 x15 x21 x22 x23 : GVal) : List GVal := [p0, p1, .any, .any, .any, x5, x6, x7, .any, x9, .any, .any, .any, .any, .any, x15, .any, .any, .any, .any, .any, x21, x22, x23, .any, .any, .any, .any, .any, .any, .any, .any, .any, .any, .any, .any, .any, .any, .any, .any, .any, .any]
theorem dR0 (p0 p1 : GVal) (O : List GObj) : vcS Tryz.prog [] s16_0 (vcN (NW (dS p0 p1 .any .any .any .any .any .any .any .any) O)) (gstart 42 [p0, p1] O) := by
  simp only [gstart, List.cons_append, List.nil_append, List.length_cons, List.length_nil, reduceAdd, reduceSub, List.replicate_succ, List.replicate_zero]
  skip
  simp +contextual -implicitDefEqProofs (maxSteps := 2000000) (disch := omega) only [↓lenV, binV, optV, ↓loadV, ↓storeV, ↓fieldAddrV, ↓indexAddrV, ↓allocV, ↓buildSliceV, ↓sliceV, ↓nilV, ↓appendV, ↓srcV, bound, cutTag, hiTag, fillE, GVal.cells, GVal.ofConst, ↓resV, resG, ↓reduceIte, reduceEqDiff, reduceAdd, reduceSub, reduceLeDiff, reduceCtorEq, ↓asrcV, ↓makeMapV, Tag.cap, GVal.solid, Nat.reduceBEq, reduceMul, reduceLT, vcA, ↓vcB, vcC, fbFy, e16, vcN, NW, leG_any, leG_self, and_true, true_and, vcD]
  try trivial
theorem dR1 (p0 p1 : GVal) (r0 : GObj) (hst : ∀ (r : List GObj) (K : Nat → Prop), stamp (r0 :: r) K = ∀ st, K st) (htk : ∀ r : List GObj, tickO (r0 :: r) = r0 :: r) : vcS Tryz.prog [] s16_1 (vcN fun st' => ∃ stC stb, NW (dS p0 p1 (.ptr 3 stb 0 0) .any .any .any .any .any .any .any) ([r0, .dead, .map stC [], .row stb 1 [[.map 2 stC]]]) st') ⟨dS p0 p1 .any .any .any .any .any .any .any .any, [r0, .dead]⟩ := by
  skip
  simp +contextual -implicitDefEqProofs (maxSteps := 2000000) (disch := omega) only [↓lenV, binV, optV, ↓loadV, ↓storeV, ↓fieldAddrV, ↓indexAddrV, ↓allocV, ↓buildSliceV, ↓sliceV, ↓nilV, ↓appendV, ↓srcV, bound, cutTag, hiTag, fillE, GVal.cells, GVal.ofConst, ↓resV, resG, ↓reduceIte, reduceEqDiff, reduceAdd, reduceSub, reduceLeDiff, reduceCtorEq, ↓asrcV, ↓makeMapV, Tag.cap, GVal.solid, Nat.reduceBEq, reduceMul, reduceLT, vcA, ↓vcB, vcC, fbFy, e16, hst, htk, vcN, NW, leG_any, leG_self, and_true, true_and, dS, vcD]
  exact fun stC => ⟨rfl, fun stb => ⟨stC, stb, rfl, by simp [leG_self]⟩⟩
theorem dR2 (p1 x5 : GVal) (st s : Nat) (X : List GObj) : opsS Tryz.prog [] [(.mk (some 11) (.move (.tmp 0)) none), (.mk (some 12) (.nilCheck (.tmp 11)) none), (.mk (some 13) (.fieldAddr 90 (.tmp 12) 0) none), (.mk (some 14) (.load 88 (.tmp 13)) none)]
    (NW ((dS (.ptr 0 st 0 0) p1 x5 .any .any .any .any .any .any .any).set 14 (.map 1 s)) (.row st 1 [[.map 1 s]] :: X)) ⟨dS (.ptr 0 st 0 0) p1 x5 .any .any .any .any .any .any .any, .row st 1 [[.map 1 s]] :: X⟩ := by
  skip
  simp +contextual -implicitDefEqProofs (maxSteps := 2000000) (disch := omega) only [↓lenV, binV, optV, ↓loadV, ↓storeV, ↓fieldAddrV, ↓indexAddrV, ↓allocV, ↓buildSliceV, ↓sliceV, ↓nilV, ↓appendV, ↓srcV, bound, cutTag, hiTag, fillE, GVal.cells, GVal.ofConst, ↓resV, resG, ↓reduceIte, reduceEqDiff, reduceAdd, reduceSub, reduceLeDiff, reduceCtorEq, ↓asrcV, ↓makeMapV, Tag.cap, GVal.solid, Nat.reduceBEq, reduceMul, reduceLT, vcA, ↓vcB, vcC, fbFy, e16, NW, leG_any, leG_self, and_true, true_and, dS, vcD]
  try trivial
theorem dR3 (p0 p1 x5 x15 : GVal) (b : Bool) (k v : GVal) (O : List GObj) : opsS Tryz.prog [] [(.mk (some 17) (.extract (.tmp 16) 0) none)]
    (NW ((dS p0 p1 x5 .any .any .any x15 .any .any .any).set 17 (.bool b)) O) ⟨(dS p0 p1 x5 .any .any .any x15 .any .any .any).set 16 (.tuple [.bool b, k, v]), O⟩ := by
  skip
  simp +contextual -implicitDefEqProofs (maxSteps := 2000000) (disch := omega) only [↓lenV, binV, optV, ↓loadV, ↓storeV, ↓fieldAddrV, ↓indexAddrV, ↓allocV, ↓buildSliceV, ↓sliceV, ↓nilV, ↓appendV, ↓srcV, bound, cutTag, hiTag, fillE, GVal.cells, GVal.ofConst, ↓resV, resG, ↓reduceIte, reduceEqDiff, reduceAdd, reduceSub, reduceLeDiff, reduceCtorEq, ↓asrcV, ↓makeMapV, Tag.cap, GVal.solid, Nat.reduceBEq, reduceMul, reduceLT, vcA, ↓vcB, vcC, fbFy, e16, NW, leG_any, leG_self, and_true, true_and, dS, vcD]
  try trivial
theorem dR3' (p0 p1 x5 x15 : GVal) (b : Bool) (O : List GObj) : opsS Tryz.prog [] [(.mk (some 17) (.extract (.tmp 16) 0) none)]
    (NW ((dS p0 p1 x5 .any .any .any x15 .any .any .any).set 17 (.bool b)) O) ⟨(dS p0 p1 x5 .any .any .any x15 .any .any .any).set 16 (.tuple [.bool b]), O⟩ := by
  skip
  simp +contextual -implicitDefEqProofs (maxSteps := 2000000) (disch := omega) only [↓lenV, binV, optV, ↓loadV, ↓storeV, ↓fieldAddrV, ↓indexAddrV, ↓allocV, ↓buildSliceV, ↓sliceV, ↓nilV, ↓appendV, ↓srcV, bound, cutTag, hiTag, fillE, GVal.cells, GVal.ofConst, ↓resV, resG, ↓reduceIte, reduceEqDiff, reduceAdd, reduceSub, reduceLeDiff, reduceCtorEq, ↓asrcV, ↓makeMapV, Tag.cap, GVal.solid, Nat.reduceBEq, reduceMul, reduceLT, vcA, ↓vcB, vcC, fbFy, e16, NW, leG_any, leG_self, and_true, true_and, dS, vcD]
  try trivial
theorem dR4 (p0 p1 x5 x15 : GVal) (h : Hs) (ps : List Hs) (O : List GObj) (hst : ∀ K : Nat → Prop, stamp O K = ∀ st, K st) (htk : tickO O = O) : opsS Tryz.prog [] [(.mk (some 19) (.extract (.tmp 18) 0) none), (.mk (some 20) (.extract (.tmp 18) 1) none), (.mk (some 6) (.alloc 44) none), (.mk none (.store 44 (.tmp 6) (.tmp 19)) none), (.mk (some 7) (.assign (.tmp 20)) none)]
    (fun st' => ∃ v, NW (dS p0 p1 x5 (.ptr O.length v 0 0) (.slice (hsG ps) .none) .any x15 .any .any .any) (O ++ [.row v 32 [bytesG h.1]]) st') ⟨(dS p0 p1 x5 .any .any .any x15 .any .any .any).set 18 (.tuple [.agg (bytesG h.1), .slice (hsG ps) .none]), O⟩ := by
  have hO : ∀ x : GObj, (O ++ [x])[O.length]? = some x := fun x => by simp
  have hS : ∀ x y : GObj, (O ++ [x]).set O.length y = O ++ [y] := fun x y => by simp
  skip
  simp +contextual -implicitDefEqProofs (maxSteps := 2000000) (disch := omega) only [↓lenV, binV, optV, ↓loadV, ↓storeV, ↓fieldAddrV, ↓indexAddrV, ↓allocV, ↓buildSliceV, ↓sliceV, ↓nilV, ↓appendV, ↓srcV, bound, cutTag, hiTag, fillE, GVal.cells, GVal.ofConst, ↓resV, resG, ↓reduceIte, reduceEqDiff, reduceAdd, reduceSub, reduceLeDiff, reduceCtorEq, ↓asrcV, ↓makeMapV, Tag.cap, GVal.solid, Nat.reduceBEq, reduceMul, reduceLT, vcA, ↓vcB, vcC, fbFy, e16, NW, leG_any, leG_self, and_true, true_and, dS, hst, htk, hO, hS, vcD, v32]
  first
    | exact fun v => ⟨v, rfl, by simp [leG_self]⟩
    | exact fun v => ⟨v, rfl⟩
theorem dR5 (p0 p1 x5 x6 x15 : GVal) (ps : List Hs) (O : List GObj) : vcS Tryz.prog [] s16_5 (vcN (NW (dS p0 p1 x5 x6 .any .any x15 (.slice (hsG ps) .none) (.int .i64 ps.length) (.int .i64 0)) O)) ⟨dS p0 p1 x5 x6 (.slice (hsG ps) .none) .any x15 .any .any .any, O⟩ := by
  skip
  simp +contextual -implicitDefEqProofs (maxSteps := 2000000) (disch := omega) only [↓lenV, binV, optV, ↓loadV, ↓storeV, ↓fieldAddrV, ↓indexAddrV, ↓allocV, ↓buildSliceV, ↓sliceV, ↓nilV, ↓appendV, ↓srcV, bound, cutTag, hiTag, fillE, GVal.cells, GVal.ofConst, ↓resV, resG, ↓reduceIte, reduceEqDiff, reduceAdd, reduceSub, reduceLeDiff, reduceCtorEq, ↓asrcV, ↓makeMapV, Tag.cap, GVal.solid, Nat.reduceBEq, reduceMul, reduceLT, vcA, ↓vcB, vcC, fbFy, e16, vcN, NW, leG_any, leG_self, and_true, true_and, dS, hsG_len, vcD]
  try trivial
theorem dR6 (p0 p1 x5 x6 x15 x21 : GVal) (k n : Nat) (O : List GObj) : vcS Tryz.prog [] s16_6 (vcN (NW ((dS p0 p1 x5 x6 .any .any x15 x21 (.int .i64 n) (.int .i64 k)).set 24 (.bool (decide (k < n)))) O)) ⟨dS p0 p1 x5 x6 .any .any x15 x21 (.int .i64 n) (.int .i64 k), O⟩ := by
  have d0 : decide ((k : Int) < (n : Int)) = decide (k < n) := by simp
  skip
  simp +contextual -implicitDefEqProofs (maxSteps := 2000000) (disch := omega) only [↓lenV, binV, optV, ↓loadV, ↓storeV, ↓fieldAddrV, ↓indexAddrV, ↓allocV, ↓buildSliceV, ↓sliceV, ↓nilV, ↓appendV, ↓srcV, bound, cutTag, hiTag, fillE, GVal.cells, GVal.ofConst, ↓resV, resG, ↓reduceIte, reduceEqDiff, reduceAdd, reduceSub, reduceLeDiff, reduceCtorEq, ↓asrcV, ↓makeMapV, Tag.cap, GVal.solid, Nat.reduceBEq, reduceMul, reduceLT, vcA, ↓vcB, vcC, fbFy, e16, vcN, NW, leG_any, leG_self, and_true, true_and, dS, d0, vcD]
  try trivial
theorem dR7 (p0 p1 x5 x6 x15 x22 : GVal) (ps : List Hs) (k : Nat) (hk : k < ps.length) (p : Hs) (hp : ps.getD k h0 = p) (O : List GObj) (hst : ∀ K : Nat → Prop, stamp O K = ∀ st, K st) (htk : tickO O = O) : vcS Tryz.prog [] s16_7
    (vcN fun st' => ∃ v, NW (dS p0 p1 x5 x6 .any (.ptr O.length v 0 0) x15 (.slice (hsG ps) .none) x22 (.int .i64 k)) (O ++ [.row v 32 [bytesG p.1]]) st') ⟨dS p0 p1 x5 x6 .any .any x15 (.slice (hsG ps) .none) x22 (.int .i64 k), O⟩ := by
  have hO : ∀ x : GObj, (O ++ [x])[O.length]? = some x := fun x => by simp
  have hS : ∀ x y : GObj, (O ++ [x]).set O.length y = O ++ [y] := fun x y => by simp
  have ea := hsG_at ps k hk
  rw [hp] at ea
  skip
  simp +contextual -implicitDefEqProofs (maxSteps := 2000000) (disch := omega) only [↓lenV, binV, optV, ↓loadV, ↓storeV, ↓fieldAddrV, ↓indexAddrV, ↓allocV, ↓buildSliceV, ↓sliceV, ↓nilV, ↓appendV, ↓srcV, bound, cutTag, hiTag, fillE, GVal.cells, GVal.ofConst, ↓resV, resG, ↓reduceIte, reduceEqDiff, reduceAdd, reduceSub, reduceLeDiff, reduceCtorEq, ↓asrcV, ↓makeMapV, Tag.cap, GVal.solid, Nat.reduceBEq, reduceMul, reduceLT, vcA, ↓vcB, vcC, fbFy, e16, vcN, NW, leG_any, leG_self, and_true, true_and, dS, hst, htk, hO, hS, hsG_len, ea, all_hsG, vcD, v32]
  refine ⟨by omega, by omega, ?_⟩
  exact fun v => ⟨v, rfl, by rw [leG_self]; trivial⟩
theorem dR8a (p0 p1 x15 x21 x22 x23 : GVal) (h p : Hs) (stb stC : Nat) (r0 r1 r2 : GObj) (X : List GObj) : opsS Tryz.prog [] [(.mk (some 27) (.load 88 (.tmp 5)) none), (.mk (some 28) (.load 44 (.tmp 9)) none), (.mk (some 30) (.load 44 (.tmp 6)) none), (.mk (some 31) (.buildSlice 33 1 #[(0, (.tmp 30))]) none)]
    (NW ((((dS p0 p1 (.ptr 3 stb 0 0) (.ref (bytesG h.1)) .any .any x15 x21 x22 x23).set 27 (.map 2 stC)).set 28 (.agg (bytesG p.1))).set 31 (.slice [bytesG h.1] .full)) (r0 :: r1 :: r2 :: .row stb 1 [[.map 2 stC]] :: X)) ⟨dS p0 p1 (.ptr 3 stb 0 0) (.ref (bytesG h.1)) .any (.ref (bytesG p.1)) x15 x21 x22 x23, r0 :: r1 :: r2 :: .row stb 1 [[.map 2 stC]] :: X⟩ := by
  skip
  simp +contextual -implicitDefEqProofs (maxSteps := 2000000) (disch := omega) only [↓lenV, binV, optV, ↓loadV, ↓storeV, ↓fieldAddrV, ↓indexAddrV, ↓allocV, ↓buildSliceV, ↓sliceV, ↓nilV, ↓appendV, ↓srcV, bound, cutTag, hiTag, fillE, GVal.cells, GVal.ofConst, ↓resV, resG, ↓reduceIte, reduceEqDiff, reduceAdd, reduceSub, reduceLeDiff, reduceCtorEq, ↓asrcV, ↓makeMapV, Tag.cap, GVal.solid, Nat.reduceBEq, reduceMul, reduceLT, vcA, ↓vcB, vcC, fbFy, e16, NW, leG_any, leG_self, and_true, true_and, dS, vcD, v32]
  try trivial
theorem dR8n (p0 p1 x5 x6 x15 x21 x22 x23 x27 : GVal) (h : Hs) (stamp_ : Nat) (O : List GObj) (hst : ∀ K : Nat → Prop, stamp O K = ∀ st, K st) (htk : tickO O = O) : opsS Tryz.prog [] [(.mk (some 29) (.extract (.tmp 32) 0) none), (.mk (some 33) (.call (.mk (.builtin (.append)) #[(.tmp 29), (.tmp 31)] #[33, 33])) none), (.mk (some 34) (.extract (.tmp 32) 1) none)]
    (fun st' => ∃ v, NW ((((dS p0 p1 x5 x6 .any .any x15 x21 x22 x23).set 27 x27).set 33 (.slice (hsG [h]) (.tok O.length v))).set 34 (.int .i64 stamp_)) (O ++ [.tok v 32]) st')
    ⟨(((dS p0 p1 x5 x6 .any .any x15 x21 x22 x23).set 27 x27).set 31 (.slice [bytesG h.1] .full)).set 32 (.tuple [.slice [] .nil, .int .i64 stamp_]), O⟩ := by
  skip
  simp +contextual -implicitDefEqProofs (maxSteps := 2000000) (disch := omega) only [↓lenV, binV, optV, ↓loadV, ↓storeV, ↓fieldAddrV, ↓indexAddrV, ↓allocV, ↓buildSliceV, ↓sliceV, ↓nilV, ↓appendV, ↓srcV, bound, cutTag, hiTag, fillE, GVal.cells, GVal.ofConst, ↓resV, resG, ↓reduceIte, reduceEqDiff, reduceAdd, reduceSub, reduceLeDiff, reduceCtorEq, ↓asrcV, ↓makeMapV, Tag.cap, GVal.solid, Nat.reduceBEq, reduceMul, reduceLT, vcA, ↓vcB, vcC, fbFy, e16, NW, leG_any, leG_self, and_true, true_and, dS, hst, htk, vcD, v32]
  first
    | exact fun v => ⟨v, rfl, by simp [leG_self, hsG]⟩
    | exact fun v => ⟨v, rfl⟩
theorem dR8s (p0 p1 x5 x6 x15 x21 x22 x23 x27 : GVal) (h : Hs) (l : List Hs) (hl : l.length ≤ 1000000) (stamp_ o t : Nat) (O : List GObj) (hO : O[o]? = some (.tok t 32)) (hst : ∀ K : Nat → Prop, stamp O K = ∀ st, K st) (htk : tickO O = O) : opsS Tryz.prog [] [(.mk (some 29) (.extract (.tmp 32) 0) none), (.mk (some 33) (.call (.mk (.builtin (.append)) #[(.tmp 29), (.tmp 31)] #[33, 33])) none), (.mk (some 34) (.extract (.tmp 32) 1) none)]
    (fun st' => ∃ v, NW ((((dS p0 p1 x5 x6 .any .any x15 x21 x22 x23).set 27 x27).set 33 (.slice (hsG (l ++ [h])) (.tok o v))).set 34 (.int .i64 stamp_)) (O.set o (.tok v 32)) st')
    ⟨(((dS p0 p1 x5 x6 .any .any x15 x21 x22 x23).set 27 x27).set 31 (.slice [bytesG h.1] .full)).set 32 (.tuple [.slice (hsG l) (.tok o t), .int .i64 stamp_]), O⟩ := by
  skip
  simp +contextual -implicitDefEqProofs (maxSteps := 2000000) (disch := omega) only [↓lenV, binV, optV, ↓loadV, ↓storeV, ↓fieldAddrV, ↓indexAddrV, ↓allocV, ↓buildSliceV, ↓sliceV, ↓nilV, ↓appendV, ↓srcV, bound, cutTag, hiTag, fillE, GVal.cells, GVal.ofConst, ↓resV, resG, ↓reduceIte, reduceEqDiff, reduceAdd, reduceSub, reduceLeDiff, reduceCtorEq, ↓asrcV, ↓makeMapV, Tag.cap, GVal.solid, Nat.reduceBEq, reduceMul, reduceLT, vcA, ↓vcB, vcC, fbFy, e16, NW, leG_any, leG_self, and_true, true_and, dS, hst, htk, hO, hsG_len, all_hsG, vcD, v32]
  refine ⟨by omega, by omega, ?_⟩
  exact fun v => ⟨v, rfl, by rw [hsG_app]; exact (leG_self _).mpr trivial⟩
theorem dR9 (p0 p1 x5 x6 x15 x21 x22 : GVal) (k : Nat) (hk : k ≤ 1000000000) (O : List GObj) : vcS Tryz.prog [] s16_9 (vcN (NW (dS p0 p1 x5 x6 .any .any x15 x21 x22 (.int .i64 (k + 1 : Nat))) O)) ⟨dS p0 p1 x5 x6 .any .any x15 x21 x22 (.int .i64 k), O⟩ := by
  skip
  simp +contextual -implicitDefEqProofs (maxSteps := 2000000) (disch := omega) only [↓lenV, binV, optV, ↓loadV, ↓storeV, ↓fieldAddrV, ↓indexAddrV, ↓allocV, ↓buildSliceV, ↓sliceV, ↓nilV, ↓appendV, ↓srcV, bound, cutTag, hiTag, fillE, GVal.cells, GVal.ofConst, ↓resV, resG, ↓reduceIte, reduceEqDiff, reduceAdd, reduceSub, reduceLeDiff, reduceCtorEq, ↓asrcV, ↓makeMapV, Tag.cap, GVal.solid, Nat.reduceBEq, reduceMul, reduceLT, vcA, ↓vcB, vcC, fbFy, e16, vcN, NW, leG_any, leG_self, and_true, true_and, dS, vcD]
end Gv.Tryz
/- graph.Descendants: the map of children grows. -/
set_option linter.unusedVariables false
set_option linter.unusedSimpArgs false
set_option maxRecDepth 20000
set_option maxHeartbeats 4000000
namespace Gv.Tryz
open Go Gv Go.Proofs
def kidPut (ch : GM) (p h : Hs) : GM := mset ch p ((look ch p).getD [] ++ [h])
def kidRow (ch : GM) (h : Hs) (ps : List Hs) : GM := ps.foldl (fun c p => kidPut c p h) ch
def kidAll (pre : GM) : GM := pre.foldl (fun c q => kidRow c q.1 q.2) []
abbrev CT := List ((Hs × List Hs) × Nat)
def ctM (ct : CT) : GM := ct.map (·.1)
def kvT (ct : CT) : List (GVal × GVal) := ct.zipIdx.map fun q => (.agg (bytesG q.1.1.1.1), .slice (hsG q.1.1.2) (.tok (q.2 + 4) q.1.2))
def obs (st s stC stb : Nat) (ct : CT) : List GObj := .row st 1 [[.map 1 s]] :: .dead :: .dead :: .row stb 1 [[.map 2 stC]] :: ct.map fun q => .tok q.2 32
theorem kvT_at (ct : CT) (i : Nat) : (kvT ct)[i]? = (ct[i]?).map fun q => (.agg (bytesG q.1.1.1), .slice (hsG q.1.2) (.tok (i + 4) q.2)) := by
  unfold kvT
  rw [List.getElem?_map, List.getElem?_zipIdx]
  cases ct[i]? <;> simp
theorem kvT_len (ct : CT) : (kvT ct).length = ct.length := by simp [kvT]
theorem kvT_set (ct : CT) (i : Nat) (q : (Hs × List Hs) × Nat) : (kvT ct).set i (.agg (bytesG q.1.1.1), .slice (hsG q.1.2) (.tok (i + 4) q.2)) = kvT (ct.set i q) := by
  refine List.ext_getElem? fun j => ?_
  rw [kvT_at, List.getElem?_set, List.getElem?_set, kvT_at, kvT_len]
  by_cases e : i = j
  · subst e
    simp only [if_true]
    split <;> rfl
  · simp only [if_neg e]
theorem kvT_app (ct : CT) (q : (Hs × List Hs) × Nat) : kvT ct ++ [(.agg (bytesG q.1.1.1), .slice (hsG q.1.2) (.tok (ct.length + 4) q.2))] = kvT (ct ++ [q]) := by
  simp [kvT, List.zipIdx_append]
theorem obs_len (st s stC stb : Nat) (ct : CT) : (obs st s stC stb ct).length = ct.length + 4 := by simp [obs]
theorem obs_at (st s stC stb : Nat) (ct : CT) (i : Nat) : (obs st s stC stb ct)[i + 4]? = (ct[i]?).map fun q => .tok q.2 32 := by simp [obs]
theorem obs_set (st s stC stb : Nat) (ct : CT) (i : Nat) (q : (Hs × List Hs) × Nat) : (obs st s stC stb ct).set (i + 4) (.tok q.2 32) = obs st s stC stb (ct.set i q) := by simp [obs, List.map_set]
theorem obs_app (st s stC stb : Nat) (ct : CT) (q : (Hs × List Hs) × Nat) : obs st s stC stb ct ++ [.tok q.2 32] = obs st s stC stb (ct ++ [q]) := by simp [obs]
theorem kfind_keys {k : KT} {x : GVal} : ∀ {kv kv' : List (GVal × GVal)}, kv.map (·.1) = kv'.map (·.1) → kfind k x kv = kfind k x kv'
  | [], [], _ => rfl
  | [], q :: r, h => by simp at h
  | p :: r, [], h => by simp at h
  | p :: r, q :: r', h => by
    simp only [List.map_cons, List.cons.injEq] at h
    rw [kfind, kfind, h.1, kfind_keys h.2]
theorem kfind_T (ct : CT) (p : Hs) : kfind hkT (.agg (bytesG p.1)) (kvT ct) = some (idxM (ctM ct) p) := by
  rw [← kfind_h encL p (ctM ct)]
  refine kfind_keys (List.ext_getElem? fun i => ?_)
  rw [List.getElem?_map, List.getElem?_map, kvT_at, kvG, ctM, List.getElem?_map, List.getElem?_map]
  cases ct[i]? <;> rfl
theorem idx_at {α : Type} : ∀ (m : List (Hs × α)) (h : Hs) (v : α), look m h = some v → ∃ i, idxM m h = some i ∧ m[i]? = some (h, v) ∧ ∀ w, m.set i (h, w) = mset m h w
  | [], h, v, e => by cases e
  | p :: r, h, v, e => by
    rw [look] at e
    by_cases hp : h = p.1
    · rw [if_pos hp] at e
      cases e
      refine ⟨0, by rw [idxM, if_pos hp], by simp [hp], fun w => by simp [mset, hp]⟩
    · rw [if_neg hp] at e
      obtain ⟨i, h1, h2, h3⟩ := idx_at r h v e
      exact ⟨i + 1, by rw [idxM, if_neg hp, h1]; rfl, by simpa using h2, fun w => by rw [mset, if_neg hp, ← h3 w]; rfl⟩
theorem idx_no {α : Type} : ∀ (m : List (Hs × α)) (h : Hs), look m h = none → idxM m h = none ∧ ∀ w, m ++ [(h, w)] = mset m h w
  | [], h, e => ⟨rfl, fun w => rfl⟩
  | p :: r, h, e => by
    rw [look] at e
    by_cases hp : h = p.1
    · rw [if_pos hp] at e; cases e
    · rw [if_neg hp] at e
      obtain ⟨h1, h2⟩ := idx_no r h e
      exact ⟨by rw [idxM, if_neg hp, h1]; rfl, fun w => by rw [mset, if_neg hp, ← h2 w]; rfl⟩
structure DD where
  (st s stC stb b r bC : Nat)
  m : GM
  es : Array MapEntry
  clock : Nat
  E0 : Env
  w0 : World
  lC : GLoc
structure DOK (D : DD) : Prop where
  hl : D.lC.block = some D.bC
  h0 : D.w0.heap.size ≤ D.bC
  hr0 : D.w0.heap.size ≤ D.r
  nb : D.bC ≠ D.b
  nr : D.bC ≠ D.r
  nrb : D.r ≠ D.b
  born : BornOK D.es D.clock
abbrev DD.o (D : DD) (ct : CT) : List GObj := obs D.st D.s D.stC D.stb ct
structure AtW (D : DD) (seen : Array Nat) (E : Env) (O : List GObj) (w : World) : Prop where
  sim : HSim E O w
  keep : Keep D.E0 [.row D.st 1 [[.map 1 D.s]], .dead] D.w0 E O w
  walk : WalkAt w D.b D.r D.es D.clock seen
  hb : Hid E O w D.b
  hr : Hid E O w D.r
  hC : Hid E O w D.bC
  loc : E.loc D.stC = some D.lC
def Ent (D : DD) (ct : CT) (E : Env) (w : World) : Prop := ∃ esC cC, MapAt E w D.bC esC cC (kvT ct)
theorem walk_same {w w' : World} {b r clock : Nat} {es : Array MapEntry} {seen : Array Nat} (h : WalkAt w b r es clock seen) (hb : w'.heap[b]? = w.heap[b]?) (hr : w'.heap[r]? = w.heap[r]?) : WalkAt w' b r es clock seen := by
  obtain ⟨since, c0, h1, h2, h3, h4, h5⟩ := h
  exact ⟨since, c0, hb.trans h1, hr.trans h2, h3, h4, h5⟩
theorem AtW.step {D : DD} {seen : Array Nat} {E E' : Env} {O O' : List GObj} {w w' : World} (h : AtW D seen E O w) (h' : HSim E' O' w') (k : Keep E O w E' O' w') : AtW D seen E' O' w' :=
  ⟨h', h.keep.trans k, walk_same h.walk (h.hb.keep k).2 (h.hr.keep k).2, (h.hb.keep k).1, (h.hr.keep k).1, (h.hC.keep k).1, k.ext.loc _ _ h.loc⟩
theorem Ent.step {D : DD} {ct : CT} {seen : Array Nat} {E E' : Env} {O O' : List GObj} {w w' : World} (h : Ent D ct E w) (hA : AtW D seen E O w) (k : Keep E O w E' O' w') : Ent D ct E' w' := by
  obtain ⟨esC, cC, hm⟩ := h
  exact ⟨esC, cC, hm.ext k.ext (hA.hC.keep k).2⟩
theorem AtW.poke {D : DD} (hD : DOK D) {seen : Array Nat} {E : Env} {O : List GObj} {w w' : World} (h : AtW D seen E O w) (g : w.grownBy w' (some D.bC)) : AtW D seen E O w' :=
  ⟨h.sim.grown g (fun r e => by cases e; exact ⟨h.hC.obj, h.hC.snap⟩), h.keep.grown g (fun r e => by cases e; exact hD.h0),
   walk_same h.walk (g.block _ h.hb.lt (fun e => hD.nb (Option.some.inj e).symm)) (g.block _ h.hr.lt (fun e => hD.nr (Option.some.inj e).symm)), h.hb.grown g, h.hr.grown g, h.hC.grown g, h.loc⟩
theorem obs_stamp (st s stC stb : Nat) (ct : CT) (K : Nat → Prop) : stamp (obs st s stC stb ct) K = ∀ st, K st := rfl
theorem obs_tick (st s stC stb : Nat) (ct : CT) : tickO (obs st s stC stb ct) = obs st s stC stb ct := rfl
theorem dR8 {all : Array Oper} {QQ : Exit → Act → World → Prop} (D : DD) (hD : DOK D) {ct : CT} {seen : Array Nat} {E : Env} {a : Act} {w : World} (hA : AtW D seen E (D.o ct) w) (hE : Ent D ct E w) {p0 p1 x15 x21 x22 x23 : GVal} {h p : Hs}
    (ha : SlotsR E a (dS p0 p1 (.ptr 3 D.stb 0 0) (.ref (bytesG h.1)) .any (.ref (bytesG p.1)) x15 x21 x22 x23)) (hlen : ∀ q ∈ ct, q.1.2.length ≤ 1000000) {o1 o2 o3 o4 o5 o6 o7 o8 o9 : Oper}
    (hA4 : [o1, o2, o3, o4].map (fun o => (⟨o.dst, o.op, none⟩ : SOp)) = [(.mk (some 27) (.load 88 (.tmp 5)) none), (.mk (some 28) (.load 44 (.tmp 9)) none), (.mk (some 30) (.load 44 (.tmp 6)) none), (.mk (some 31) (.buildSlice 33 1 #[(0, (.tmp 30))]) none)])
    (gA4 : [o1, o2, o3, o4].all (fun o => o.guard.isNone) = true)
    (h5 : o5.op = .mapEntry 88 (.tmp 27) (.tmp 28)) (g5 : o5.guard = none) (d5 : o5.dst = some 32)
    (hB3 : [o6, o7, o8].map (fun o => (⟨o.dst, o.op, none⟩ : SOp)) = [(.mk (some 29) (.extract (.tmp 32) 0) none), (.mk (some 33) (.call (.mk (.builtin (.append)) #[(.tmp 29), (.tmp 31)] #[33, 33])) none), (.mk (some 34) (.extract (.tmp 32) 1) none)])
    (gB3 : [o6, o7, o8].all (fun o => o.guard.isNone) = true)
    (h9 : o9.op = .entryStore 88 (.tmp 27) (.tmp 34) (.tmp 33)) (g9 : o9.guard = none) (d9 : o9.dst = none)
    (hq : ∀ ct' E' a' w', ctM ct' = kidPut (ctM ct) p h → AtW D seen E' (D.o ct') w' → Ent D ct' E' w' → SlotsR E' a' (dS p0 p1 (.ptr 3 D.stb 0 0) (.ref (bytesG h.1)) .any .any x15 x21 x22 x23) → QQ .normal a' w') :
    wpList Tryz.prog all QQ [o1, o2, o3, o4, o5, o6, o7, o8, o9] a w := by
  refine ops_seg (st := ⟨_, D.o ct⟩) 4 hA4 gA4 hA.sim ha (dR8a p0 p1 x15 x21 x22 x23 h p D.stb D.stC _ _ _ _) ?_
  rintro ⟨s1, O1⟩ E1 a1 w1 q1 k1 s1R ⟨e1, hw1⟩
  change O1 = D.o ct at e1
  subst e1
  have s1 := s1R.weak hw1
  have hA1 := hA.step q1 k1
  obtain ⟨esC, cC, hm1⟩ := hE.step hA k1
  have v27 : a1.eval (.tmp 27) = .map (some D.bC) := map_val (SlotsR.ev (st := ⟨_, []⟩) s1 (.tmp 27)) hA1.loc hD.hl
  have v28 : VR E1 (a1.eval (.tmp 28)) (.agg (bytesG p.1)) := SlotsR.ev (st := ⟨_, []⟩) s1 (.tmp 28)
  have hkt : keyT Tryz.prog 88 = some (hkT, 33) := by kernel_rfl
  have hz : zeroG Tryz.prog 33 = some (.slice [] .nil) := by kernel_rfl
  have hko : keyOk hkT (.agg (bytesG p.1)) := by simp [keyOk, keyCells, len32]
  obtain ⟨rv0, stN, es1, clock1, w2, hrun, hg2, hb2, hv0, hstore⟩ := mapEntry_hid hkt hz hko v28 hm1 (kfind_T ct p)
  show wpList _ _ _ (o5 :: [o6, o7, o8, o9]) a1 w1
  refine mapEntry_step g5 h5 (by rw [v27]; exact hrun) ?_
  have hA2 := hA1.poke hD hg2
  rw [d5]
  have fin : ∀ (ct' : CT) (oldg newg : GVal) (O3 : List GObj), VR E1 rv0 oldg → putAt (kvT ct) (.agg (bytesG p.1)) newg (idxM (ctM ct) p) = kvT ct' → ctM ct' = kidPut (ctM ct) p h → O3 = D.o ct' →
      ∀ (st3 : GSt) E3 a3 w3, HSim E3 st3.o w3 → Keep E1 (D.o ct) w2 E3 st3.o w3 → SlotsR E3 a3 st3.s → NW ((((dS p0 p1 (.ptr 3 D.stb 0 0) (.ref (bytesG h.1)) .any .any x15 x21 x22 x23).set 27 (.map 2 D.stC)).set 33 newg).set 34 (.int .i64 stN)) O3 st3 →
      wpList Tryz.prog all QQ [o9] a3 w3 := by
    rintro ct' oldg newg O3 ho hput hct rfl ⟨s3, O3⟩ E3 a3 w3 q3 k3 s3R ⟨e3, hw3⟩
    change O3 = D.o ct' at e3
    subst e3
    have s3 := s3R.weak hw3
    have hA3 := hA2.step q3 k3
    have v27' : a3.eval (.tmp 27) = .map (some D.bC) := map_val (SlotsR.ev (st := ⟨_, []⟩) s3 (.tmp 27)) hA3.loc hD.hl
    have v33 : VR E3 (a3.eval (.tmp 33)) newg := SlotsR.ev (st := ⟨_, []⟩) s3 (.tmp 33)
    have v34 : a3.eval (.tmp 34) = goInt stN := by
      have : VR E3 (a3.eval (.tmp 34)) (.int .i64 stN) := SlotsR.ev (st := ⟨_, []⟩) s3 (.tmp 34)
      generalize a3.eval (.tmp 34) = v at this
      cases this; rfl
    obtain ⟨w4, es4, c4, hrun4, hg4, hm4⟩ := hstore E3 w3 (a3.eval (.tmp 33)) newg k3.ext (((hA2.hC.keep k3).2).trans hb2) v33
    refine entryStore_step g9 h9 (by rw [v27', v34]; exact hrun4) (wpList_nil ?_)
    rw [hput] at hm4
    refine hq ct' E3 _ w4 hct (hA3.poke hD hg4) ⟨es4, c4, hm4⟩ ?_
    rw [d9]
    exact s3.weak (by simp [WL, leG_self, leG_any])
  have s2 : ∀ oldg, VR E1 rv0 oldg → SlotsR E1 (a1.put (some 32) (.tuple #[rv0, goInt stN])) ((((dS p0 p1 (.ptr 3 D.stb 0 0) (.ref (bytesG h.1)) .any .any x15 x21 x22 x23).set 27 (.map 2 D.stC)).set 31 (.slice [bytesG h.1] .full)).set 32 (.tuple [oldg, .int .i64 stN])) := fun oldg ho => by
    have hvt : VR E1 (.tuple #[rv0, goInt stN]) (.tuple [oldg, .int .i64 stN]) := .tuple _ _ rfl (fun j g hj => by
      match j with
      | 0 => cases hj; exact ho
      | 1 => cases hj; exact .int _ _
      | j + 2 => simp at hj)
    exact (SlotsR.put (st := ⟨_, []⟩) s1 (.refl E1) (d := some 32) hvt []).weak (by simp [GSt.put, WL, leG_self, leG_any])
  show wpList _ _ _ (o6 :: o7 :: o8 :: [o9]) _ _
  cases hlk : look (ctM ct) p with
  | none =>
    obtain ⟨i1, i2⟩ := idx_no _ _ hlk
    rw [i1] at hv0
    refine ops_seg (st := ⟨((((dS p0 p1 (.ptr 3 D.stb 0 0) (.ref (bytesG h.1)) .any .any x15 x21 x22 x23).set 27 (.map 2 D.stC)).set 31 (.slice [bytesG h.1] .full)).set 32 (.tuple [.slice [] .nil, .int .i64 stN])), D.o ct⟩) 3 hB3 gB3 hA2.sim (s2 (.slice [] .nil) hv0) (dR8n p0 p1 _ _ x15 x21 x22 x23 _ h stN (D.o ct) (obs_stamp _ _ _ _ _) (obs_tick _ _ _ _ _)) ?_
    rintro st3 E3 a3 w3 q3 k3 s3R ⟨v, hN⟩
    refine fin (ct ++ [((p, [h]), v)]) _ (.slice (hsG [h]) (.tok (D.o ct).length v)) _ hv0 ?_ ?_ rfl st3 E3 a3 w3 q3 k3 s3R ?_
    · rw [i1, obs_len]
      exact kvT_app ct ((p, [h]), v)
    · rw [kidPut, hlk, ← i2]
      simp [ctM]
    · have := obs_app D.st D.s D.stC D.stb ct ((p, [h]), v)
      show NW _ (obs D.st D.s D.stC D.stb _) st3
      rw [← this]
      exact hN
  | some l =>
    obtain ⟨i, i1, i2, i3⟩ := idx_at _ _ _ hlk
    obtain ⟨q, hqi, eq⟩ : ∃ q, ct[i]? = some q ∧ q.1 = (p, l) := by
      rw [ctM, List.getElem?_map] at i2
      cases hc : ct[i]? with
      | none => rw [hc] at i2; cases i2
      | some q => rw [hc] at i2; exact ⟨q, rfl, by simpa using i2⟩
    obtain ⟨q1', t⟩ := q
    change q1' = (p, l) at eq
    subst eq
    have hv : VR E1 rv0 (.slice (hsG l) (.tok (i + 4) t)) := by
      rw [i1] at hv0
      simpa [oldAt, kvT_at, hqi] using hv0
    refine ops_seg (st := ⟨((((dS p0 p1 (.ptr 3 D.stb 0 0) (.ref (bytesG h.1)) .any .any x15 x21 x22 x23).set 27 (.map 2 D.stC)).set 31 (.slice [bytesG h.1] .full)).set 32 (.tuple [.slice (hsG l) (.tok (i + 4) t), .int .i64 stN])), D.o ct⟩) 3 hB3 gB3 hA2.sim (s2 _ hv) (dR8s p0 p1 _ _ x15 x21 x22 x23 _ h l (hlen _ (List.mem_of_getElem? hqi)) stN (i + 4) t (D.o ct) (by rw [obs_at, hqi]; rfl) (obs_stamp _ _ _ _ _) (obs_tick _ _ _ _ _)) ?_
    rintro st3 E3 a3 w3 q3 k3 s3R ⟨v, hN⟩
    refine fin (ct.set i ((p, l ++ [h]), v)) _ (.slice (hsG (l ++ [h])) (.tok (i + 4) v)) _ hv ?_ ?_ rfl st3 E3 a3 w3 q3 k3 s3R ?_
    · rw [i1]
      exact kvT_set ct i ((p, l ++ [h]), v)
    · rw [kidPut, hlk, Option.getD_some, ← i3]
      simp [ctM, List.map_set]
    · have := obs_set D.st D.s D.stC D.stb ct i ((p, l ++ [h]), v)
      show NW _ (obs D.st D.s D.stC D.stb _) st3
      rw [← this]
      exact hN
end Gv.Tryz
/- graph.Descendants: its two loops. -/
set_option linter.unusedVariables false
set_option linter.unusedSimpArgs false
set_option maxRecDepth 20000
set_option maxHeartbeats 4000000
namespace Gv.Tryz
open Go Gv Go.Proofs
theorem frzL_hs (O : List GObj) (n : Nat) (h : Hs) : frzL (Gv.frz O (n + 1)) (bytesG h.1) = some (bytesG h.1) := by
  have := frz_hs O n [h]
  simp only [hsG, List.map_cons, List.map_nil, frzLL] at this
  cases e : frzL (Gv.frz O (n + 1)) (bytesG h.1) with
  | none => rw [e] at this; cases this
  | some x => rw [e] at this; simpa using this
def Kb (N : Nat) (ch : GM) : Prop := ∀ q ∈ ch, q.2.length ≤ N
theorem look_memG : ∀ {m : GM} {h : Hs} {l : List Hs}, look m h = some l → (h, l) ∈ m
  | [], h, l, e => by cases e
  | p :: r, h, l, e => by
    rw [look] at e
    by_cases hp : h = p.1
    · rw [if_pos hp] at e; cases e; rw [hp]; simp
    · rw [if_neg hp] at e; exact List.mem_cons_of_mem _ (look_memG e)
theorem mem_mset {m : GM} {h : Hs} {v : List Hs} {q : Hs × List Hs} (hq : q ∈ mset m h v) : q ∈ m ∨ q = (h, v) := by
  induction m with
  | nil => rw [mset] at hq; exact .inr (by simpa using hq)
  | cons p r ih =>
    rw [mset] at hq
    split at hq
    · rcases List.mem_cons.1 hq with e | e
      · exact .inr e
      · exact .inl (List.mem_cons_of_mem _ e)
    · rcases List.mem_cons.1 hq with e | e
      · exact .inl (by rw [e]; simp)
      · rcases ih e with e | e
        · exact .inl (List.mem_cons_of_mem _ e)
        · exact .inr e
theorem Kb.put {N : Nat} {ch : GM} (h : Kb N ch) (p x : Hs) : Kb (N + 1) (kidPut ch p x) := by
  intro q hq
  rcases mem_mset hq with e | e
  · have := h q e; omega
  · rw [e]
    show ((look ch p).getD [] ++ [x]).length ≤ N + 1
    rw [List.length_append, List.length_singleton]
    cases hl : look ch p with
    | none => simp
    | some l => have := h _ (look_memG hl); simp at this ⊢; omega
theorem kidRow_snoc (ch : GM) (h : Hs) (a : List Hs) (p : Hs) : kidRow ch h (a ++ [p]) = kidPut (kidRow ch h a) p h := by simp [kidRow]
theorem Kb.row {N : Nat} {ch : GM} (h : Kb N ch) (x : Hs) : ∀ ps : List Hs, Kb (N + ps.length) (kidRow ch x ps) := by
  intro ps
  induction ps generalizing N ch with
  | nil => exact h
  | cons p r ih =>
    have := ih (h.put p x)
    rw [List.length_cons, show N + (r.length + 1) = N + 1 + r.length by omega]
    exact this
theorem kidAll_snoc (a : GM) (q : Hs × List Hs) : kidAll (a ++ [q]) = kidRow (kidAll a) q.1 q.2 := by simp [kidAll]
theorem Kb.foldl : ∀ (pre ch : GM) (N : Nat), Kb N ch → (∀ q ∈ pre, q.2.length ≤ 4) → Kb (N + 4 * pre.length) (pre.foldl (fun c q => kidRow c q.1 q.2) ch)
  | [], ch, N, h, _ => h
  | q :: r, ch, N, h, hq => by
    have h1 := h.row q.1 q.2
    have h2 := hq q (by simp)
    have := Kb.foldl r _ (N + 4) (fun x hx => by have := h1 x hx; omega) (fun y hy => hq y (by simp [hy]))
    rw [List.length_cons, show N + 4 * (r.length + 1) = N + 4 + 4 * r.length by omega]
    exact this
theorem Kb.all (pre : GM) (h : ∀ q ∈ pre, q.2.length ≤ 4) : Kb (4 * pre.length) (kidAll pre) := by
  have := Kb.foldl pre [] 0 (fun q hq => by cases hq) h
  rw [Nat.zero_add] at this
  exact this
abbrev l8a : List SOp := [(.mk (some 27) (.load 88 (.tmp 5)) none), (.mk (some 28) (.load 44 (.tmp 9)) none), (.mk (some 30) (.load 44 (.tmp 6)) none), (.mk (some 31) (.buildSlice 33 1 #[(0, (.tmp 30))]) none)]
abbrev l8b : List SOp := [(.mk (some 29) (.extract (.tmp 32) 0) none), (.mk (some 33) (.call (.mk (.builtin (.append)) #[(.tmp 29), (.tmp 31)] #[33, 33])) none), (.mk (some 34) (.extract (.tmp 32) 1) none)]
structure R8 (o1 o2 o3 o4 o5 o6 o7 o8 o9 : Oper) : Prop where
  a4 : [o1, o2, o3, o4].map (fun o => (⟨o.dst, o.op, none⟩ : SOp)) = l8a
  ga : [o1, o2, o3, o4].all (fun o => o.guard.isNone) = true
  h5 : o5.op = .mapEntry 88 (.tmp 27) (.tmp 28) ∧ o5.guard = none ∧ o5.dst = some 32
  b3 : [o6, o7, o8].map (fun o => (⟨o.dst, o.op, none⟩ : SOp)) = l8b
  gb : [o6, o7, o8].all (fun o => o.guard.isNone) = true
  h9 : o9.op = .entryStore 88 (.tmp 27) (.tmp 34) (.tmp 33) ∧ o9.guard = none ∧ o9.dst = none
abbrev C0 : Cfg := ⟨[], []⟩
theorem dInner {Q : Exit → Act → World → Prop} (D : DD) (hD : DOK D) {c6 c7 c9 : Code} {id8 : Nat} {o1 o2 o3 o4 o5 o6 o7 o8 o9 : Oper} (s6 : slim C0 c6 = some s16_6) (k6 : codeOk C0 c6 = true) (s7 : slim C0 c7 = some s16_7) (k7 : codeOk C0 c7 = true)
    (s9 : slim C0 c9 = some s16_9) (k9 : codeOk C0 c9 = true) (r8 : R8 o1 o2 o3 o4 o5 o6 o7 o8 o9)
    {ct0 : CT} {seen : Array Nat} {E : Env} {a : Act} {w : World} (hA : AtW D seen E (D.o ct0) w) (hE : Ent D ct0 E w) {p0 p1 x15 : GVal} {h : Hs} {ps : List Hs} {N : Nat} (hKb : Kb N (ctM ct0)) (hN : N + ps.length ≤ 1000000)
    (ha : SlotsR E a (dS p0 p1 (.ptr 3 D.stb 0 0) (.ref (bytesG h.1)) .any .any x15 (.slice (hsG ps) .none) (.int .i64 ps.length) (.int .i64 0)))
    (hq : ∀ ct' E' a' w', ctM ct' = kidRow (ctM ct0) h ps → AtW D seen E' (D.o ct') w' → Ent D ct' E' w' → SlotsR E' a' (dS p0 p1 (.ptr 3 D.stb 0 0) .any .any .any x15 .any .any .any) → Q (.exit 2) a' w') :
    (Code.loop (c6.seq ((Code.cond (.tmp 24) .skip (.exit 2)).seq ((Code.block 3 (c7.seq (Code.region id8 #[o1, o2, o3, o4, o5, o6, o7, o8, o9] false))).seq c9)))).wp Tryz.prog Q a w := by
  refine wp_loop_ghost (fun n a w => ∃ ct k E, k ≤ ps.length ∧ ps.length - k = n ∧ ctM ct = kidRow (ctM ct0) h (ps.take k) ∧ AtW D seen E (D.o ct) w ∧ Ent D ct E w ∧ SlotsR E a (dS p0 p1 (.ptr 3 D.stb 0 0) (.ref (bytesG h.1)) .any .any x15 (.slice (hsG ps) .none) (.int .i64 ps.length) (.int .i64 k))) ps.length ⟨ct0, 0, E, Nat.zero_le _, rfl, rfl, hA, hE, ha⟩ ?_
  rintro n a1 w1 ⟨ct, k, E1, hk, rfl, hct, hA1, hE1, s1⟩
  refine wp_seq (wp_part (st := ⟨_, D.o ct⟩) mixS s6 k6 hA1.sim s1 (dR6 p0 p1 _ _ x15 _ k ps.length (D.o ct)) ?_)
  rintro ⟨t2, O2⟩ E2 a2 w2 q2 k2 s2R ⟨e2, hw2⟩
  change O2 = D.o ct at e2
  subst e2
  have s2 := s2R.weak hw2
  have hA2 := hA1.step q2 k2
  have hE2 := hE1.step hA1 k2
  have hc : a2.eval (.tmp 24) = .bool (decide (k < ps.length)) := by
    have : VR E2 (a2.eval (.tmp 24)) (.bool (decide (k < ps.length))) := SlotsR.ev (st := ⟨_, []⟩) s2 (.tmp 24)
    generalize a2.eval (.tmp 24) = v at this
    cases this; rfl
  show (Code.seq _ _).wp _ _ _ _
  refine wp_seq (wp_cond_split hc (fun ht => wp_skip ?_) (fun hf => wp_exit ?_))
  · have hlt : k < ps.length := of_decide_eq_true ht
    obtain ⟨p, hp⟩ : ∃ p, ps.getD k h0 = p := ⟨_, rfl⟩
    show (Code.seq _ _).wp _ _ _ _
    refine wp_seq (wp_block (wp_seq (wp_part (st := ⟨dS p0 p1 (.ptr 3 D.stb 0 0) (.ref (bytesG h.1)) .any .any x15 (.slice (hsG ps) .none) (.int .i64 ps.length) (.int .i64 k), D.o ct⟩) mixS s7 k7 hA2.sim (s2.weak (by simp [WL, leG_self, leG_any])) (dR7 p0 p1 _ _ x15 _ ps k hlt p hp (D.o ct) (obs_stamp _ _ _ _ _) (obs_tick _ _ _ _ _)) ?_)))
    rintro ⟨t3, O3⟩ E3 a3 w3 q3 k3 s3R ⟨v, e3, hw3⟩
    change O3 = D.o ct ++ [.row v 32 [bytesG p.1]] at e3
    subst e3
    have s3 := s3R.weak hw3
    obtain ⟨m1, m2, m3⟩ := q3.meltBox s3 9 1 rfl (by rw [len32]) (frzL_hs _ 0 p) (by intro e; have := len32 p; rw [e] at this; cases this)
    have kk := k3.trans m2
    have hA3 := hA2.step m1 kk
    have hE3 := hE2.step hA2 kk
    refine wp_region_lit (dR8 D hD hA3 hE3 (p0 := p0) (p1 := p1) (x15 := x15) (x21 := .slice (hsG ps) .none) (x22 := .int .i64 ps.length) (x23 := .int .i64 k) (h := h) (p := p) (m3.weak (by simp [WL, leG_self, leG_any])) ?_ r8.a4 r8.ga r8.h5.1 r8.h5.2.1 r8.h5.2.2 r8.b3 r8.gb r8.h9.1 r8.h9.2.1 r8.h9.2.2 ?_)
    · intro q hq
      have hb := hKb.row h (ps.take k)
      rw [← hct] at hb
      have h1 := hb q.1 (List.mem_map_of_mem hq)
      rw [List.length_take] at h1
      omega
    · intro ct' E4 a4 w4 hct' hA4 hE4 s4
      refine wp_part (st := ⟨_, D.o ct'⟩) mixS s9 k9 hA4.sim s4 (dR9 p0 p1 _ _ x15 _ _ k (by omega) (D.o ct')) ?_
      rintro ⟨t5, O5⟩ E5 a5 w5 q5 k5 s5R ⟨e5, hw5⟩
      change O5 = D.o ct' at e5
      subst e5
      refine ⟨ps.length - (k + 1), by omega, ct', k + 1, E5, hlt, rfl, ?_, hA4.step q5 k5, hE4.step hA4 k5, s5R.weak hw5⟩
      rw [hct', hct, takeH hlt, hp, kidRow_snoc]
  · have hnl : ¬ k < ps.length := of_decide_eq_false hf
    have : k = ps.length := by omega
    subst this
    rw [List.take_length] at hct
    exact hq ct E2 a2 w2 hct hA2 hE2 (s2.weak (by simp [WL, leG_self, leG_any]))
end Gv.Tryz
/- graph.Descendants: its outer loop. -/
set_option linter.unusedVariables false
set_option linter.unusedSimpArgs false
set_option maxRecDepth 20000
set_option maxHeartbeats 4000000
namespace Gv.Tryz
open Go Gv Go.Proofs
theorem AtW.pokeR {D : DD} (hD : DOK D) {seen seen' : Array Nat} {E : Env} {O : List GObj} {w w' : World} (h : AtW D seen E O w) (g : w.grownBy w' (some D.r)) (hw : WalkAt w' D.b D.r D.es D.clock seen') : AtW D seen' E O w' :=
  ⟨h.sim.grown g (fun r e => by cases e; exact ⟨h.hr.obj, h.hr.snap⟩), h.keep.grown g (fun r e => by cases e; exact hD.hr0), hw, h.hb.grown g, h.hr.grown g, h.hC.grown g, h.loc⟩
theorem inBlock_self {id : Nat} {Q : Exit → Act → World → Prop} {a : Act} {w : World} (h : Q .normal a w) : Exit.inBlock id Q (.exit id) a w := by simp only [Exit.inBlock, if_true]; exact h
abbrev l4 : List SOp := [(.mk (some 19) (.extract (.tmp 18) 0) none), (.mk (some 20) (.extract (.tmp 18) 1) none), (.mk (some 6) (.alloc 44) none), (.mk none (.store 44 (.tmp 6) (.tmp 19)) none), (.mk (some 7) (.assign (.tmp 20)) none)]
theorem dOuter {Q : Exit → Act → World → Prop} (D : DD) (hD : DOK D) (hm : GMOK D.m) (f : MapEntry → Hs × List Hs) (hf : D.es.toList.map f = D.m) (hfe : ∀ e ∈ D.es.toList, EntryOK D.E0 e (.agg (bytesG (f e).1.1), encL (f e).2))
    {c5 c6 c7 c9 : Code} {id3 id4 id8 : Nat} {n1 n2 e1 e2 e3 e4 e5 e6 o1 o2 o3 o4 o5 o6 o7 o8 o9 : Oper}
    (hn1 : n1.op = .next (.tmp 15) false ∧ n1.guard = none ∧ n1.dst = some 16) (hn2 : [n2].map (fun o => (⟨o.dst, o.op, none⟩ : SOp)) = [(.mk (some 17) (.extract (.tmp 16) 0) none)]) (gn2 : [n2].all (fun o => o.guard.isNone) = true)
    (he1 : e1.op = .entry (.tmp 15) ∧ e1.guard = none ∧ e1.dst = some 18) (he2 : [e2, e3, e4, e5, e6].map (fun o => (⟨o.dst, o.op, none⟩ : SOp)) = l4) (ge2 : [e2, e3, e4, e5, e6].all (fun o => o.guard.isNone) = true)
    (s5 : slim C0 c5 = some s16_5) (k5 : codeOk C0 c5 = true) (s6 : slim C0 c6 = some s16_6) (k6 : codeOk C0 c6 = true) (s7 : slim C0 c7 = some s16_7) (k7 : codeOk C0 c7 = true)
    (s9 : slim C0 c9 = some s16_9) (k9 : codeOk C0 c9 = true) (r8 : R8 o1 o2 o3 o4 o5 o6 o7 o8 o9)
    {E : Env} {a : Act} {w : World} (hA : AtW D #[] E (D.o []) w) (hE : Ent D [] E w) {p0 p1 : GVal}
    (ha : SlotsR E a (dS p0 p1 (.ptr 3 D.stb 0 0) .any .any .any (.lit (.pointer (some ⟨D.r, 0, none⟩))) .any .any .any))
    (hq : ∀ ct' pre seen E' a' w', pre.Perm D.m → ctM ct' = kidAll pre → AtW D seen E' (D.o ct') w' → Ent D ct' E' w' → SlotsR E' a' (dS p0 p1 (.ptr 3 D.stb 0 0) .any .any .any .any .any .any .any) → Q (.exit 0) a' w') :
    (Code.loop ((Code.region id3 #[n1, n2] false).seq ((Code.cond (.tmp 17) .skip (.exit 0)).seq (Code.block 1 ((Code.region id4 #[e1, e2, e3, e4, e5, e6] false).seq (c5.seq (Code.block 2
      (Code.loop (c6.seq ((Code.cond (.tmp 24) .skip (.exit 2)).seq ((Code.block 3 (c7.seq (Code.region id8 #[o1, o2, o3, o4, o5, o6, o7, o8, o9] false))).seq c9))))))))))).wp Tryz.prog Q a w := by
  obtain ⟨x15, e15⟩ : ∃ x : GVal, .lit (.pointer (some ⟨D.r, 0, none⟩)) = x := ⟨_, rfl⟩
  have lit15 : ∀ {E : Env} {a : Act} {S : List GVal}, SlotsR E a S → S.getD 15 .any = x15 → a.eval (.tmp 15) = .pointer (some ⟨D.r, 0, none⟩) := by
    intro E a S h hx
    have := SlotsR.ev (st := ⟨S, []⟩) h (.tmp 15)
    change VR E _ (S.getD 15 .any) at this
    rw [hx, ← e15] at this
    generalize a.eval (.tmp 15) = v at this
    cases this; rfl
  rw [e15] at ha
  refine wp_loop_ghost (fun n a w => ∃ ct seen xs E, Came D.es seen xs ∧ w.rangeLeft D.b D.r = n ∧ ctM ct = kidAll (xs.map f) ∧ AtW D seen E (D.o ct) w ∧ Ent D ct E w ∧ SlotsR E a (dS p0 p1 (.ptr 3 D.stb 0 0) .any .any .any x15 .any .any .any)) _ ⟨[], #[], [], E, Came.nil _, rfl, rfl, hA, hE, ha⟩ ?_
  rintro n a1 w1 ⟨ct, seen, xs, E1, hC, rfl, hct, hA1, hE1, s1⟩
  refine wp_seq (wp_region_lit (next_step hn1.2.1 hn1.1 hD.born hC (lit15 s1 rfl) hA1.walk ?_ ?_))
  · -- nothing is left
    intro hp
    rw [hn1.2.2]
    have hvt : VR E1 (.tuple #[.bool false]) (.tuple [.bool false]) := .tuple _ _ rfl (fun j g hj => by
      match j with
      | 0 => cases hj; exact .bool _
      | j + 1 => simp at hj)
    have s2 := (SlotsR.put (st := ⟨_, []⟩) s1 (.refl E1) (d := some 16) hvt [])
    refine ops_seg (st := ⟨(dS p0 p1 (.ptr 3 D.stb 0 0) .any .any .any x15 .any .any .any).set 16 (.tuple [.bool false]), D.o ct⟩) 1 hn2 gn2 hA1.sim s2 (dR3' p0 p1 _ x15 false (D.o ct)) ?_
    rintro ⟨t2, O2⟩ E2 a2 w2 q2 k2 s2R ⟨e2, hw2⟩
    change O2 = D.o ct at e2
    subst e2
    have s3 := s2R.weak hw2
    have hc : a2.eval (.tmp 17) = .bool false := by
      have : VR E2 (a2.eval (.tmp 17)) (.bool false) := SlotsR.ev (st := ⟨_, []⟩) s3 (.tmp 17)
      generalize a2.eval (.tmp 17) = v at this
      cases this; rfl
    refine wpList_nil ?_
    show (Code.seq _ _).wp _ _ _ _
    refine wp_seq (wp_cond_split hc (fun ht => by cases ht) (fun _ => wp_exit ?_))
    refine hq ct (xs.map f) seen E2 a2 w2 ?_ hct (hA1.step q2 k2) (hE1.step hA1 k2) (s3.weak (by simp [WL, leG_self, leG_any]))
    rw [← hf]
    exact hp.map f
  · intro e w' hem hC2 hlt hwk hmu hg hent
    rw [hn1.2.2]
    have hA' := hA1.pokeR hD hg hwk
    have hE' : Ent D ct E1 w' := by
      obtain ⟨esC, cC, hmC⟩ := hE1
      exact ⟨esC, cC, hmC.ext (.refl _) (hg.block _ hA1.hC.lt (fun e => hD.nr (Option.some.inj e)))⟩
    have hvt : VR E1 (.tuple #[.bool true, e.key, e.val]) (.tuple [.bool true, .any, .any]) := .tuple _ _ rfl (fun j g hj => by
      match j with
      | 0 => cases hj; exact .bool _
      | 1 => cases hj; exact .any _
      | 2 => cases hj; exact .any _
      | j + 3 => simp at hj)
    have s2 := (SlotsR.put (st := ⟨_, []⟩) s1 (.refl E1) (d := some 16) hvt [])
    refine ops_seg (st := ⟨(dS p0 p1 (.ptr 3 D.stb 0 0) .any .any .any x15 .any .any .any).set 16 (.tuple [.bool true, .any, .any]), D.o ct⟩) 1 hn2 gn2 hA'.sim s2 (dR3 p0 p1 _ x15 true .any .any (D.o ct)) ?_
    rintro ⟨t2, O2⟩ E2 a2 w2 q2 k2 s2R ⟨e2', hw2⟩
    change O2 = D.o ct at e2'
    subst e2'
    have s3 := s2R.weak hw2
    have hc : a2.eval (.tmp 17) = .bool true := by
      have : VR E2 (a2.eval (.tmp 17)) (.bool true) := SlotsR.ev (st := ⟨_, []⟩) s3 (.tmp 17)
      generalize a2.eval (.tmp 17) = v at this
      cases this; rfl
    have hA2 := hA'.step q2 k2
    have hE2 := hE'.step hA' k2
    have hent2 := hent w2 (hA'.hb.keep k2).2 (hA'.hr.keep k2).2
    refine wpList_nil ?_
    show (Code.seq _ _).wp _ _ _ _
    refine wp_seq (wp_cond_split hc (fun ht => wp_skip ?_) (fun hf => by cases hf))
    show (Code.block _ _).wp _ _ _ _
    refine wp_block (wp_seq (wp_region_lit (entry_step he1.2.1 he1.1 (lit15 s3 rfl) hent2 ?_)))
    rw [he1.2.2]
    obtain ⟨hv1, hv2⟩ := hfe e hem
    obtain ⟨q, eq⟩ : ∃ q, f e = q := ⟨_, rfl⟩
    have hqm : q ∈ D.m := by rw [← eq, ← hf]; exact List.mem_map_of_mem hem
    rw [eq] at hv1 hv2
    obtain ⟨h, ps⟩ := q
    have hvt2 : VR E2 (.tuple #[e.key, e.val]) (.tuple [.agg (bytesG h.1), .slice (hsG ps) .none]) := .tuple _ _ rfl (fun j g hj => by
      match j with
      | 0 => cases hj; exact hv1.mono hA2.keep.ext
      | 1 => cases hj; exact hv2.mono hA2.keep.ext
      | j + 2 => simp at hj)
    have s4 := (SlotsR.put (st := ⟨_, []⟩) s3 (.refl E2) (d := some 18) hvt2 []).weak (s' := (dS p0 p1 (.ptr 3 D.stb 0 0) .any .any .any x15 .any .any .any).set 18 (.tuple [.agg (bytesG h.1), .slice (hsG ps) .none])) (by simp [GSt.put, WL, leG_self, leG_any])
    refine ops_seg (st := ⟨(dS p0 p1 (.ptr 3 D.stb 0 0) .any .any .any x15 .any .any .any).set 18 (.tuple [.agg (bytesG h.1), .slice (hsG ps) .none]), D.o ct⟩) 5 he2 ge2 hA2.sim s4 (dR4 p0 p1 _ x15 h ps (D.o ct) (obs_stamp _ _ _ _ _) (obs_tick _ _ _ _ _)) ?_
    rintro ⟨t3, O3⟩ E3 a3 w3 q3 k3 s3R ⟨v, e3', hw3⟩
    change O3 = D.o ct ++ [.row v 32 [bytesG h.1]] at e3'
    subst e3'
    have s5' := s3R.weak hw3
    obtain ⟨m1, m2, m3⟩ := q3.meltBox s5' 6 1 rfl (by rw [len32]) (frzL_hs _ 0 h) (by intro e; have := len32 h; rw [e] at this; cases this)
    have kk := k3.trans m2
    have hA3 := hA2.step m1 kk
    have hE3 := hE2.step hA2 kk
    refine wpList_nil ?_
    show (Code.seq _ _).wp _ _ _ _
    refine wp_seq (wp_part (st := ⟨dS p0 p1 (.ptr 3 D.stb 0 0) (.ref (bytesG h.1)) (.slice (hsG ps) .none) .any x15 .any .any .any, D.o ct⟩) mixS s5 k5 hA3.sim (m3.weak (by simp [WL, leG_self, leG_any])) (dR5 p0 p1 _ _ x15 ps (D.o ct)) ?_)
    rintro ⟨t4, O4⟩ E4 a4 w4 q4 k4 s4R ⟨e4', hw4⟩
    change O4 = D.o ct at e4'
    subst e4'
    have hps : ps.length ≤ 4 := hm.row _ hqm
    have hle : xs.length ≤ D.m.length := by
      have : D.es.toList.length = D.m.length := by rw [← hf, List.length_map]
      have h2 : D.es.toList.length = D.es.size := Array.length_toList
      omega
    have hml := hm.len
    have hKb := Kb.all (xs.map f) (fun q hq => by
      obtain ⟨y, hy, rfl⟩ := List.mem_map.1 hq
      exact hm.row _ (by rw [← hf]; exact List.mem_map_of_mem (hC.2.2 y hy)))
    rw [← hct, List.length_map] at hKb
    show (Code.block _ _).wp _ _ _ _
    refine wp_block (dInner D hD s6 k6 s7 k7 s9 k9 r8 (hA3.step q4 k4) (hE3.step hA3 k4) hKb (by omega) (s4R.weak hw4) ?_)
    intro ct' E5 a5 w5 hct' hA5 hE5 s6'
    refine inBlock_self ?_
    refine ⟨w5.rangeLeft D.b D.r, ?_, ct', _, xs ++ [e], E5, hC2, rfl, ?_, hA5, hE5, s6'⟩
    · rw [hA5.walk.left_eq, ← hwk.left_eq]; exact hmu
    · rw [List.map_append, List.map_cons, List.map_nil, kidAll_snoc, eq, hct', hct]
end Gv.Tryz
