/- Some of the objects, in another order. -/
import Derived.Test.YtnenmmdpclglhaaGreatDoorP10
import Derived.Test.YtnenmmdpclglhaaGreatDoorP6
import Derived.Test.YtnenmmdpclglhaaGreatDoorP9
import Derived.Test.YtnenmmdpclglhaaGreatDoorP8
import Derived.Test.YtnenmmdpclglhaaGreatDoorP4
import Derived.Test.YtnenmmdpclglhaaGreatDoorP5
import Derived.Test.YtnenmmdpclglhaaGreatDoorSlimFy
import Derived.Test.YtnenmmdpclglhaaGreatDoorP7
set_option linter.defProp false
set_option linter.unusedSimpArgs false
set_option linter.unusedVariables false
set_option maxHeartbeats 4000000
set_option maxRecDepth 20000
namespace Gv
open Go
theorem HSim.pick {E : Env} {O X : List GObj} {w : World} (h : HSim E O w) (pl : List Nat) (hX : Fits O pl X) (hnd : pl.Nodup) (hc : Qad X = none) : HSim E X w ∧ Keep E O w E X w := by
 have hpl : ∀ {i j k : Nat}, pl[i]? = some k → pl[j]? = some k → i = j := fun {i j k} hi hj => by
  obtain ⟨h1, e1⟩ := List.getElem?_eq_some_iff.1 hi;obtain ⟨h2, e2⟩ := List.getElem?_eq_some_iff.1 hj;have hp := List.pairwise_iff_getElem.1 hnd;rcases Nat.lt_trichotomy i j with q | q | q
  · exact absurd (e1.trans e2.symm) (hp i j h1 h2 q)
  · exact q
  · exact absurd (e2.trans e1.symm) (hp j i h2 h1 q)
 refine ⟨⟨?_, h.sealed, h.one, fun i x hx => ?_, fun i j oi oj b hij hi hj hbi hbj => ?_, h.glob⟩, ⟨.refl E, rfl, rfl, Nat.le_refl _, fun _ _ _ => rfl, fun _ _ _ hv => .inl hv, fun b ⟨i, x, hx, hb⟩ => ?_, trivial⟩⟩
 · obtain ⟨n, _, q⟩ := h.fin;exact ⟨n, (fun c e => by rw [hc] at e; cases e), q⟩
 · obtain ⟨j, y, _, hy, hle⟩ := hX.at_ i x hx;exact hle.real E w (h.real j y hy)
 · obtain ⟨i', yi, pi, hyi, li⟩ := hX.at_ i oi hi;obtain ⟨j', yj, pj, hyj, lj⟩ := hX.at_ j oj hj;rw [li.blk] at hbi;rw [lj.blk] at hbj;refine h.sep i' j' yi yj b (fun e => hij ?_) hyi hyj hbi hbj;rw [e] at pi;exact hpl pi pj
 · obtain ⟨j, y, _, hy, hle⟩ := hX.at_ i x hx;exact .inl ⟨j, y, hy, by rw [← hle.blk]; exact hb⟩
def Qlu (O : List GObj) : List Nat → List GObj → Prop
 | [], [] => True
 | j :: pl, x :: r => (∃ y, O[j]? = some y ∧ OLe x y) ∧ Qlu O pl r
 | _, _ => False
theorem Qlu.at_ {O : List GObj} : ∀ {pl : List Nat} {X : List GObj}, Qlu O pl X → ∀ (i j : Nat), pl[i]? = some j → ∃ x y, X[i]? = some x ∧ O[j]? = some y ∧ OLe x y
 | [], [], _, i, j, h => by simp at h
 | j :: pl, x :: r, h, 0, k, hk => by simp at hk; subst hk; obtain ⟨y, h1, h2⟩ := h.1; exact ⟨x, y, rfl, h1, h2⟩
 | j :: pl, x :: r, h, i + 1, k, hk => by simpa using Qlu.at_ h.2 i k (by simpa using hk)
 | [], _ :: _, h, _, _, _ => h.elim
 | _ :: _, [], h, _, _, _ => h.elim
theorem Qeg : ∀ (pl : List Nat) (k : Nat), (k ∉ pl ∧ pl.findIdx? (· == k) = none) ∨ ∃ i, pl.findIdx? (· == k) = some i ∧ pl[i]? = some k
 | [], k => .inl ⟨by simp, rfl⟩
 | j :: pl, k => by
  rw [List.findIdx?_cons];by_cases e : j = k
  · subst e;exact .inr ⟨0, by simp, rfl⟩
  · have e' : (j == k) = false := by simpa using e
    rw [e'];rcases Qeg pl k with ⟨h1, h2⟩ | ⟨i, h1, h2⟩
    · exact .inl ⟨by simp [h1]; exact fun q => e q.symm, by rw [h2]; rfl⟩
    · exact .inr ⟨i + 1, by rw [h1]; rfl, by simpa using h2⟩
def Qlv (pl : List Nat) (k : Nat) : Bool × Nat := match pl.findIdx? (· == k) with
 | some i => (false, i)
 | none => (true, k)
theorem Qlw {pl : List Nat} {a b : Nat} (h : Qlv pl a = Qlv pl b) : a = b := by
 unfold Qlv at h
 rcases Qeg pl a with ⟨_, ha⟩ | ⟨i, ha, ha2⟩ <;> rcases Qeg pl b with ⟨_, hb⟩ | ⟨j, hb, hb2⟩ <;> rw [ha, hb] at h <;> simp at h
 · exact h
 · subst h; rw [ha2] at hb2; cases hb2; rfl
theorem GCalls.readAt {P : Program} {f : FuncId} {args args' : List GVal} {X O : List GObj} {r : GVal} (h : GCalls P f args X (fun g O' => g = r ∧ O' = X)) (pl : List Nat) (hX : Fits O pl X) (hR : Qlu O pl X) (hnd : pl.Nodup) (ha : GLes args' args) (hcX : Qad X = none) (hc : Qad O = none) :
 GCalls P f args' O (fun g O' => g = r ∧ O' = O) := by
 refine GCalls.frame h pl hX hnd ha hcX hc ?_
 rintro g O' ⟨rfl, rfl⟩
 refine ⟨g, O, (List.range O.length).map (Qlv pl), ⟨rfl, rfl⟩, GLe.refl g, QcI.of (by simp) fun k z s hz hs => ?_, ?_, hc⟩
 · have hk : k < O.length := (List.getElem?_eq_some_iff.1 hz).1;simp only [List.getElem?_map, List.getElem?_range hk, Option.map_some, Option.some.injEq] at hs;subst hs;unfold Qlv;rcases Qeg pl k with ⟨h1, h2⟩ | ⟨i, h1, h2⟩
   · rw [h2]; exact ⟨h1, z, hz, .refl _⟩
   · rw [h1];obtain ⟨x, y, a1, a2, a3⟩ := hR.at_ i k h2;rw [hz] at a2; cases a2;exact ⟨x, a1, a3⟩
 · rw [List.nodup_iff_pairwise_ne, List.pairwise_map];exact (List.pairwise_lt_range (n := O.length)).imp fun {a b} hab e => by have := Qlw e; omega
theorem GCalls.oneNew {P : Program} {f : FuncId} {args args' : List GVal} {x : GObj} {O : List GObj} {r : GVal} {x1 z1 y1 : Nat → GObj} (h : GCalls P f args [x] (fun g O' => ∃ so, g = r ∧ O' = [x1 so, y1 so])) (i : Nat) {xi : GObj} (hi : O[i]? = some xi) (hx : OLe xi x) (hz : ∀ so, OLe (x1 so) (z1 so)) (ha : GLes args' args) (hcX : Qad [x] = none) (hc : Qad O = none) (hz1 : ∀ so, (z1 so).isClock = false) (hy1 : ∀ so, (y1 so).isClock = false) :
 GCalls P f args' O (fun g O' => ∃ so, g = r ∧ O' = O.set i (z1 so) ++ [y1 so]) := by
 have hil := (List.getElem?_eq_some_iff.1 hi).1
 refine GCalls.frame h [i] ⟨⟨xi, hi, hx⟩, trivial⟩ (by simp) ha hcX hc ?_
 rintro g O' ⟨so, rfl, rfl⟩
 refine ⟨g, _, (List.range (O.length + 1)).map (fun k => if k = i then (false, 0) else if k = O.length then (false, 1) else (true, k)), ⟨so, rfl, rfl⟩, GLe.refl g, QcI.of (by simp) fun k z s hz' hs => ?_, ?_, ?_⟩
 · have hk : k < O.length + 1 := by have := (List.getElem?_eq_some_iff.1 hz').1; simpa using this
   simp only [List.getElem?_map, List.getElem?_range hk, Option.map_some, Option.some.injEq] at hs;subst hs;by_cases e : k = i
   · subst e;rw [List.getElem?_append_left (by simpa using hil), List.getElem?_set_self hil] at hz';cases hz';simp only [if_pos];exact ⟨x1 so, rfl, hz so⟩
   · by_cases e2 : k = O.length
     · subst e2;rw [List.getElem?_append_right (by simp)] at hz';simp at hz';subst hz';simp only [if_neg e, if_pos];exact ⟨y1 so, rfl, .refl _⟩
     · rw [List.getElem?_append_left (by simp; omega), List.getElem?_set_ne (fun q => e q.symm)] at hz';simp only [if_neg e, if_neg e2];exact ⟨by simp [e], z, hz', .refl _⟩
 · rw [List.nodup_iff_pairwise_ne, List.pairwise_map];refine List.Pairwise.imp_of_mem ?_ (List.pairwise_lt_range (n := O.length + 1));intro a b _ _ hab;by_cases a1 : a = i <;> by_cases b1 : b = i <;> by_cases a3 : a = O.length <;> by_cases b3 : b = O.length <;> simp_all <;> omega
 · match O, i with
   | [], _ => simp at hil
   | y :: r, 0 => 
    have := hz1 so;show Qad (z1 so :: _) = none;cases hq : z1 so <;> first | rfl | (rw [hq] at this; cases this)
   | y :: r, k + 1 =>
    show Qad (y :: _) = none;cases y <;> first | rfl | cases hc
theorem GInto.pick {g : GVal} {O X : List GObj} {N : GVal → List GObj → Prop} (pl : List Nat) (hX : Fits O pl X) (hnd : pl.Nodup) (hc : Qad X = none) (h : N g X) : GInto g O N := fun E v w hs hv => by
 obtain ⟨h1, h2⟩ := hs.pick pl hX hnd hc
 exact ⟨g, X, E, h, h1, h2, hv⟩
structure VCs (P : Program) (R : List Nat) (s : Qbc) (Q : Ex → GSt → Prop) (st : GSt) : Prop where
 ok : vcS P R s Q st
theorem QbS {P : Program} {E : Env} {st : GSt} {a : Act} {w : World} {C : Cfg} (hmix : P.follows .mixedOrders = true) {c : Code} {s : Qbc} (hs : slim C c = some s) (hc : codeOk C c = true) (h : HSim E st.o w) (ha : SlotsR E a st.s) {N : GSt → Prop} (hv : VCs P C.ro s (vcN N) st) {Q : Exit → Act → World → Prop}
 (hn : ∀ st' E' a' w', HSim E' st'.o w' → Keep E st.o w E' st'.o w' → SlotsR E' a' st'.s → N st' → Q .normal a' w') : c.wp P Q a w := wp_part hmix hs hc h ha hv.ok hn
end Gv
namespace Gv.Tryz
open Go Gv Go.Proofs
open Nat (reduceEqDiff reduceAdd reduceSub reduceLeDiff reduceMul reduceLT)
abbrev uS (ti st : Nat) (x5 x7 x8 x10 x11 x63 x64 x65 : GVal) : List GVal := [.ptr 2 ti 0 0, .ptr 0 st 0 0, .any, .any, .any, x5, .any, x7, x8, .any, x10, x11, .any, .any, .any, .any, .any, .any, .any, .any, .any, .any, .any, .any, .any, .any, .any, .any, .any, .any, .any, .any, .any, .any, .any, .any, .any, .any, .any, .any, .any, .any, .any, .any, .any, .any, .any, .any, .any, .any, .any, .any, .any, .any, .any, .any, .any, .any, .any, .any, .any, .any, .any, x63, x64, x65, .any, .any, .any, .any, .any, .any, .any, .any, .any, .any, .any, .any, .any, .any, .any, .any, .any, .any, .any, .any]
abbrev C10 : Cfg := QuS h12
def zb25 := ai @vcN.eq_1 <| ai @vcN.eq_2 <| ai @NW.eq_1 <| ai @leG_any <| ai @leG_self <| ai @and_true <| @true_and
theorem u0 (ti st : Nat) (R : List GVal) (hR : R.length = 3) (hs : QaE R = True) (O : List GObj) : VCs Tryz.prog [5] QnL (vcN (NW (uS ti st (.ref R) .any .any .any .any .any .any .any) O)) (gstart 86 [.ptr 2 ti 0 0, .ptr 0 st 0 0, .agg R] O) := by
 refine ⟨?_⟩
 simp only [gstart, List.cons_append, List.nil_append, List.length_cons, List.length_nil, reduceAdd, reduceSub, List.replicate_succ, List.replicate_zero]
 exact vd3 hR hs zb25
def zb26 := ai @uS.eq_1 <| ai @vcN.eq_1 <| ai @vcN.eq_2 <| ai @NW.eq_1 <| ai @leG_any <| ai @leG_self <| ai @and_true <| @true_and
theorem u1 (ti st : Nat) (x5 : GVal) (O : List GObj) : VCs Tryz.prog [5] (.seq QnM QnN) (vcN (NW (uS ti st x5 .any .any .any .any .any .any .any) O)) ⟨uS ti st x5 .any .any .any .any .any .any .any, O⟩ := by
 refine ⟨?_⟩
 exact vd1 zb26
theorem u4 (ti st so : Nat) (x5 : GVal) (n : Int) (M O : List Hs) (g1 g2 : GObj) : VCs Tryz.prog [5] QnO (vcN (NW (uS ti st x5 (.slice (hsG M) .none) (.slice (hsG O) .none) .any .any .any .any .any) (g1 :: g2 :: idO2 ti so n M O))) ⟨uS ti st x5 .any .any .any .any .any .any .any, g1 :: g2 :: idO2 ti so n M O⟩ := by
 refine ⟨?_⟩
 exact vd1 zb26
theorem u12n (ti st : Nat) (cs : List Cm) (hs : List Hs) (th : Tag) (gr : Int) (hg : gr ≠ 1) (x7 x8 : GVal) (O : List GObj) : VCs Tryz.prog [5] QgH (vcN (NW (uS ti st (.ref (reqG cs hs th gr)) x7 x8 .any .any .any .any .any) O)) ⟨uS ti st (.ref (reqG cs hs th gr)) x7 x8 .any .any .any .any .any, O⟩ := by
 refine ⟨?_⟩
 have d0 : (gr = 1) = False := eq_false hg
 exact vd2 d0 zb26
theorem u12m (m : GM) (hm : GMOK m) (ti st s so : Nat) (cs : List Cm) (hs : List Hs) (th : Tag) (n : Int) (M O : List Hs) (T : WSt) (hT : VisL m (Qar (ofM M O)) hs ([], []) T) (hl : hs.length ≤ 1000000) (hM : M.length ≤ 1000000) (hO : O.length ≤ 1000000) (hTl : T.2.length ≤ 1000000) (hn : (M.length : Int) + T.2.length ≤ n) :
 VCs Tryz.prog [5] QgH (vcN (NW (uS ti st (.ref (reqG cs hs th 1)) (.slice (hsG (M ++ T.2)) .none) (.slice (hsG (woL O T.2)) .none) .any .any .any .any .any) (gObj st s m ++ idO2 ti so n M O))) ⟨uS ti st (.ref (reqG cs hs th 1)) (.slice (hsG M) .none) (.slice (hsG O) .none) .any .any .any .any .any, gObj st s m ++ idO2 ti so n M O⟩ := by
 refine ⟨?_⟩
 have cW := Qnq m hm hs th st s ti so n M O T hT hl
 have d0 : (n < (M.length : Int) + T.2.length) = False := eq_false (by omega)
 have cC := QfY M T.2 .none .none .full (by omega)
 have cO := Qix O T.2 hO hTl
 refine vq1 @uS.eq_1 ?_
 refine cW.mono ?_
 rintro g O' ⟨rfl, rfl⟩
 refine vq2 @hsG_len d0 ?_
 refine cC.then ?_ (by rfl)
 refine vq0 ?_
 refine cO.then ?_ (by rfl)
 exact vd1 zb25
theorem u13 (ti st s so : Nat) (x5 x7 x8 : GVal) (n : Int) (m : GM) (M O : List Hs) : VCs Tryz.prog [5] Qj9 (vcN fun st' => ∃ tn tb, NW (uS ti st x5 x7 x8 (.ptr 5 tb 0 0) .any .any .any .any) (gObj st s m ++ idO2 ti so n M O ++ [.row tn 4 [[.int .i64 0, .slice [] .nil, .slice [] .nil, .lit (.map none)]], .row tb 1 [[.ptr 4 tn 0 0]]]) st') ⟨uS ti st x5 x7 x8 .any .any .any .any .any, gObj st s m ++ idO2 ti so n M O⟩ := by
 refine ⟨?_⟩
 refine vq1 zb26 ?_
 exact ⟨rfl, rfl, fun tn => ⟨rfl, fun tb => ⟨tn, tb, rfl, by simp [leG_self]⟩⟩⟩
abbrev nxO (tn sn : Nat) (M O : List Hs) : List GObj := [.row tn 4 [[.int .i64 0, .slice (hsG M) .none, .slice (hsG O) .none, .map 5 sn]], .map sn (kvG encI (ofM M O))]
theorem u14 (ti st s so tn : Nat) (x5 : GVal) (n : Int) (m : GM) (M O M1 O1 : List Hs) (hM : M1.length ≤ 1000000) (hO : O1.length ≤ 1000000) : VCs Tryz.prog [5] Qka (vcN fun st' => ∃ sn, NW (uS ti st x5 (.slice (hsG M1) .none) (.slice (hsG O1) .none) (.ref [.ptr 4 tn 0 0]) .any .any .any .any) (gObj st s m ++ idO2 ti so n M O ++ nxO tn sn M1 O1) st') ⟨uS ti st x5 (.slice (hsG M1) .none) (.slice (hsG O1) .none) (.ref [.ptr 4 tn 0 0]) .any .any .any .any, gObj st s m ++ idO2 ti so n M O ++ [.row tn 4 [[.int .i64 0, .slice [] .nil, .slice [] .nil, .lit (.map none)]]]⟩ := by
 refine ⟨?_⟩
 have cN := GCalls.oneNew (z1 := fun sn => .row tn 4 [[.int .i64 0, .slice (hsG M1) .none, .slice (hsG O1) .none, .map 5 sn]]) (args' := [.ptr 4 tn 0 0, .slice (hsG M1) .none, .slice (hsG O1) .none]) (Qhv tn (.int .i64 0) (.slice [] .nil) (.slice [] .nil) (.lit (.map none)) M1 O1 hM hO) (O := gObj st s m ++ idO2 ti so n M O ++ [.row tn 4 [[.int .i64 0, .slice [] .nil, .slice [] .nil, .lit (.map none)]]]) 4 rfl (.refl _) (fun so => OLe.row ⟨⟨GLe.refl _, GLe.refl _, GLe.refl _, GLe.map _ _ _, trivial⟩, trivial⟩) ⟨GLe.ptr _ _ _ _ _, GLe.refl _, GLe.refl _, trivial⟩ rfl rfl (fun _ => rfl) (fun _ => rfl)
 refine vq1 @uS.eq_1 ?_
 refine cN.mono ?_
 rintro g O' ⟨sn, rfl, rfl⟩
 refine vq1 zb25 ?_
 exact ⟨sn, rfl⟩
def zb27 := ai @vcN.eq_1 <| ai @vcN.eq_2 <| ai @NW.eq_1 <| ai @leG_any <| ai @leG_self <| ai @and_true <| ai @true_and <| ai @GVal.up.eq_1 <| ai @GVal.up.eq_2 <| ai @GVal.up.eq_3 <| @GVal.up.eq_4
theorem u15 (ti st : Nat) (x7 x8 x10 : GVal) (cs : List Cm) (hs : List Hs) (th : Tag) (ht : th = .nil → hs = []) (hl : hs.length ≤ 1000000) (gr : Int) (O : List GObj) (hc : Qad O = none) : VCs Tryz.prog [5] Qkb (vcN fun st' => (hs = [] ∧ NW (uS ti st (.ref (reqG cs hs th gr)) x7 x8 x10 (.slice [] .nil) .any .any .any) O st') ∨ ∃ v, NW (uS ti st (.ref (reqG cs hs th gr)) x7 x8 x10 (.own O.length v 0 hs.length) .any .any .any) (O ++ [.row v 32 (hsG hs)]) st') ⟨uS ti st (.ref (reqG cs hs th gr)) x7 x8 x10 .any .any .any .any, O⟩ := by
 refine ⟨?_⟩
 have cC := GCalls.newUp (Qfm hs th (by omega) ht) (O := O) hc (by rintro g O' (⟨_, rfl, rfl⟩ | ⟨st, rfl, rfl⟩) <;> rfl)
 simp +contextual -implicitDefEqProofs (maxSteps := 2000000) (disch := omega) only [Qbz, Qct, QbU, ↓lenV, binV, ↓QaH, ↓QaM, ↓Qag, ↓Qac, ↓QbQ, ↓boxV, ↓Qbt, ↓Qaf, ↓nilV, ↓QaO, ↓Qal, ↓srcV, Qdw, QbV, place, GVal.cells, GVal.ofConst, ↓resV, resG, ↓reduceIte, reduceEqDiff, reduceAdd, reduceSub, reduceLeDiff, reduceCtorEq, ↓QaY, aggV, Tag.cap, GVal.solid, Nat.reduceBEq, reduceMul, reduceLT, vcA, ↓vcB, vcC, fbFy, uS, vcD]
 refine cC.mono ?_
 rintro g O' ⟨g0, O1, (⟨rfl, rfl, rfl⟩ | ⟨v, rfl, rfl⟩), rfl, rfl⟩
 · simp +contextual -implicitDefEqProofs (maxSteps := 2000000) (disch := omega) only [Qbz, Qct, QbU, ↓lenV, binV, ↓QaH, ↓QaM, ↓Qag, ↓Qac, ↓QbQ, ↓boxV, ↓Qbt, ↓Qaf, ↓nilV, ↓QaO, ↓Qal, ↓srcV, Qdw, QbV, place, GVal.cells, GVal.ofConst, ↓resV, resG, ↓reduceIte, reduceEqDiff, reduceAdd, reduceSub, reduceLeDiff, reduceCtorEq, ↓QaY, aggV, Tag.cap, GVal.solid, Nat.reduceBEq, reduceMul, reduceLT, vcA, ↓vcB, vcC, fbFy, vcN, NW, leG_any, leG_self, and_true, true_and, GVal.up, vcD]
   exact .inl trivial
 · simp +contextual -implicitDefEqProofs (maxSteps := 2000000) (disch := omega) only [Qbz, Qct, QbU, ↓lenV, binV, ↓QaH, ↓QaM, ↓Qag, ↓Qac, ↓QbQ, ↓boxV, ↓Qbt, ↓Qaf, ↓nilV, ↓QaO, ↓Qal, ↓srcV, Qdw, QbV, place, GVal.cells, GVal.ofConst, ↓resV, resG, ↓reduceIte, reduceEqDiff, reduceAdd, reduceSub, reduceLeDiff, reduceCtorEq, ↓QaY, aggV, Tag.cap, GVal.solid, Nat.reduceBEq, reduceMul, reduceLT, vcA, ↓vcB, vcC, fbFy, vcN, NW, leG_any, leG_self, and_true, true_and, GVal.up, vcD]
   exact .inr ⟨v, rfl, by rw [leG_self]; trivial⟩
abbrev uO (ti st s so tn sn : Nat) (n : Int) (m : GM) (M O M1 O1 : List Hs) : List GObj := gObj st s m ++ idO2 ti so n M O ++ nxO tn sn M1 O1
theorem u23 (ti st s so tn sn : Nat) (n : Int) (m : GM) (M O M1 O1 : List Hs) (x7 x8 x10 x11 : GVal) (X : List GObj) (cs : List Cm) (hs : List Hs) (th : Tag) (gr : Int) (hl : hs.length ≤ 1000000) (hc : cs.length ≤ 1000000)
 (hx : (hs = [] ∧ x11 = .slice [] .nil ∧ X = []) ∨ ∃ v, x11 = .own 6 v 0 hs.length ∧ X = [.row v 32 (hsG hs)]) :
 VCs Tryz.prog [5] Qkc (vcN fun st' => ∃ v, NW (uS ti st (.ref (reqG cs hs th gr)) x7 x8 x10 (.own 6 v 0 (hs ++ cs.map (·.1)).length) .any .any .any) (uO ti st s so tn sn n m M O M1 O1 ++ [.row v 32 (hsG (hs ++ cs.map (·.1)))]) st') ⟨uS ti st (.ref (reqG cs hs th gr)) x7 x8 x10 x11 .any .any .any, uO ti st s so tn sn n m M O M1 O1 ++ X⟩ := by
 refine ⟨?_⟩
 refine vq2 @uS.eq_1 @Qae ?_
 refine Qab (ι := { p : Nat × Nat // p.1 ≤ cs.length }) (fun p => ⟨uS ti st (.ref (reqG cs hs th gr)) x7 x8 x10 (.own 6 p.1.2 0 (hs ++ (cs.map (·.1)).take p.1.1).length) (.slice (csG cs) .none) (.int .i64 cs.length) (.int .i64 (p.1.1 : Nat)), uO ti st s so tn sn n m M O M1 O1 ++ [.row p.1.2 32 (hsG (hs ++ (cs.map (·.1)).take p.1.1))]⟩) (fun p => cs.length - p.1.1) ?_ ?_
 · rcases hx with ⟨rfl, rfl, rfl⟩ | ⟨v, rfl, rfl⟩
   · refine Into.row 11 32 rfl rfl ?_;refine vq0 ?_;intro v;exact Into.first ⟨(0, v), Nat.zero_le _⟩ ⟨[], rfl⟩ (by simp [WL, leG_self, leG_any, Qae])
   · exact Into.first ⟨(0, v), Nat.zero_le _⟩ ⟨[], by simp⟩ (by simp [WL, leG_self, leG_any, Qae])
 · rintro ⟨⟨k, v⟩, hk⟩
   change k ≤ cs.length at hk
   by_cases h : k < cs.length
   · have d0 : ((k : Int) < (cs.length : Int)) = True := eq_true (by omega);have eC := Qa0 cs k h;have eT : hs ++ (cs.map (·.1)).take (k + 1) = (hs ++ (cs.map (·.1)).take k) ++ [(cs.getD k default).1] := by
      rw [List.take_add_one]; simp [List.getD, h]
     have lT : (hs ++ (cs.map (·.1)).take k).length ≤ 2000000 := by
      have := List.length_take_le k (cs.map (·.1));rw [List.length_append];have h2 : (cs.map (·.1)).length = cs.length := List.length_map ..;omega
     generalize cs.getD k default = c at *;generalize hs ++ (cs.map (·.1)).take k = L at *;have l33 : (comG c).length = 33 := QiW c;have t32 : List.take 32 (comG c) = bytesG c.1.1 := QfX c.1 _;have t33 : List.take 33 (comG c) = comG c := List.take_of_length_le (by rw [l33]; exact Nat.le_refl _);have dz : List.drop 33 ([.int .u8 0, .int .u8 0, .int .u8 0, .int .u8 0, .int .u8 0, .int .u8 0, .int .u8 0, .int .u8 0, .int .u8 0, .int .u8 0, .int .u8 0, .int .u8 0, .int .u8 0, .int .u8 0, .int .u8 0, .int .u8 0, .int .u8 0, .int .u8 0, .int .u8 0, .int .u8 0, .int .u8 0, .int .u8 0, .int .u8 0, .int .u8 0, .int .u8 0, .int .u8 0, .int .u8 0, .int .u8 0, .int .u8 0, .int .u8 0, .int .u8 0, .int .u8 0, .slice [] .nil] : List GVal) = [] := rfl;have s33 : QaE (comG c) = True := by rw [show comG c = bytesG c.1.1 ++ [.slice (hsG c.2) .none] from rfl, QhG]; simp [GVal.solid]
     have eL : List.take L.length (hsG L) = hsG L := List.take_of_length_le (by rw [hsG_len]; exact Nat.le_refl _);refine vq1 (ai eL <| ai t33 <| ai dz <| ai s33 <| ai @List.append_nil.{0} <| ai @uS.eq_1 <| ai @uO.eq_1 <| ai @nxO.eq_1 <| ai @idO2.eq_1 <| ai @List.cons_append.{0} <| ai @List.nil_append.{0} <| ai d0 <| ai @Qae <| ai eC <| ai l33 <| ai t32 <| ai @hsG_len <| ai @all_hsG <| ai @Qb8 <| ai @Qb9 <| ai @Qcq <| ai @Qbn <| ai @Qbo <| ai @QcD <| @v32) ?_;refine ⟨by omega, fun sc => ⟨by omega, by omega, by omega, fun v2 => ?_⟩⟩;have eLen : (hs ++ (cs.map (·.1)).take (k + 1)).length = L.length + 1 := by rw [eT]; simp
     refine Into.at ⟨(k + 1, v2), h⟩ (by show _ < _; simp; omega) ⟨[.row sc 33 [comG c]], ?_⟩ ?_
     · show _ = (uO ti st s so tn sn n m M O M1 O1 ++ [.row v2 32 (hsG (hs ++ (cs.map (·.1)).take (k + 1)))]) ++ [.row sc 33 [comG c]];rw [eT, hsG_app];rfl
     · show WL _ (uS ti st (.ref (reqG cs hs th gr)) x7 x8 x10 (.own 6 v2 0 (hs ++ (cs.map (·.1)).take (k + 1)).length) (.slice (csG cs) .none) (.int .i64 cs.length) (.int .i64 (k + 1 : Nat)));rw [eLen];simp [WL, leG_self, leG_any, Qaa]
   · have d0 : ((k : Int) < (cs.length : Int)) = False := eq_false (by omega);have ek : (cs.map (·.1)).take k = cs.map (·.1) := List.take_of_length_le (by rw [List.length_map]; omega);rw [ek];refine vq2 d0 zb26 ?_;exact ⟨v, rfl, by rw [leG_self]; trivial⟩
theorem u27 (m : GM) (hm : GMOK m) (ti st s so tn sn : Nat) (n : Int) (M O M1 O1 : List Hs) (x5 : GVal) (L : List Hs) (hL : L.length ≤ 1000000) (T : WSt) (hT : VisL m (fun h => (look (ofM M1 O1) h).isSome) L ([], []) T) (hM : M1.length ≤ 1000000) (hO : O1.length + T.2.length ≤ 1000000) :
 VCs Tryz.prog [5] Qni (retQ Tryz.prog [.tmp 6] fun g O' => ∃ so', g = .lit .nilIface ∧ O' = (uO ti st s so tn sn n m M O M1 O1).set 2 (.row ti 4 [[.int .i64 n, .slice (hsG M1) .none, .slice (hsG (O1 ++ T.2)) .none, .map 6 so']]) ++ [.map so' (kvG encI (ofM M1 (O1 ++ T.2)))]) ⟨uS ti st x5 (.slice (hsG M1) .none) (.slice (hsG O1) .none) (.ref [.ptr 4 tn 0 0]) (.slice (hsG L) .none) .any .any .any, uO ti st s so tn sn n m M O M1 O1⟩ := by
 refine ⟨?_⟩
 have cW := GCalls.readAt (args' := [.ptr 0 st 0 0, .slice (hsG L) .none, (.func (.func 44) [] [.ref [.ptr 4 tn 0 0]])]) (Qu8 m hm L .none st s tn sn (.int .i64 0) M1 O1 T hT hL) (O := uO ti st s so tn sn n m M O M1 O1) [0, 1, 4, 5]
  ⟨⟨_, rfl, .refl _⟩, ⟨_, rfl, .refl _⟩, ⟨_, rfl, OLe.row ⟨⟨GLe.refl _, GLe.refl _, GLe.refl _, GLe.map _ _ _, trivial⟩, trivial⟩⟩, ⟨_, rfl, .refl _⟩, trivial⟩
  ⟨⟨_, rfl, .refl _⟩, ⟨_, rfl, .refl _⟩, ⟨_, rfl, OLe.row ⟨⟨GLe.refl _, GLe.refl _, GLe.refl _, GLe.map _ _ _, trivial⟩, trivial⟩⟩, ⟨_, rfl, .refl _⟩, trivial⟩
  (by decide) ⟨GLe.refl _, GLe.refl _, GLe.func _ trivial ⟨GLe.ref ⟨GLe.ptr _ _ _ _ _, trivial⟩, trivial⟩, trivial⟩ rfl rfl
 have cC := QfY O1 T.2 .none .none .full (by omega)
 have cN := GCalls.oneNew (z1 := fun so' => .row ti 4 [[.int .i64 n, .slice (hsG M1) .none, .slice (hsG (O1 ++ T.2)) .none, .map 6 so']]) (args' := [.ptr 2 ti 0 0, .slice (hsG M1) .none, .slice (hsG (O1 ++ T.2)) .none]) (Qhv ti (.int .i64 n) (.slice (hsG M) .none) (.slice (hsG O) .none) (.map 3 so) M1 (O1 ++ T.2) hM (by rw [List.length_append]; omega)) (O := uO ti st s so tn sn n m M O M1 O1) 2 rfl (.refl _) (fun so => OLe.row ⟨⟨GLe.refl _, GLe.refl _, GLe.refl _, GLe.map _ _ _, trivial⟩, trivial⟩) ⟨GLe.ptr _ _ _ _ _, GLe.refl _, GLe.refl _, trivial⟩ rfl rfl (fun _ => rfl) (fun _ => rfl)
 refine vq1 @uS.eq_1 ?_
 refine cW.mono ?_
 rintro g O' ⟨rfl, rfl⟩
 refine vq0 ?_
 refine cC.then ?_ (by rfl)
 refine vq0 ?_
 refine cN.mono ?_
 rintro g O' ⟨so', rfl, rfl⟩
 refine vq0 ?_
 exact ⟨so', rfl⟩
theorem Qj8 (cs : List Cm) (hs : List Hs) (th : Tag) (gr : Int) : QaE (reqG cs hs th gr) = True := by simp [reqG, QaE, GVal.solid]
theorem Qja (m : GM) (hm : GMOK m) (ti st s so : Nat) (cs : List Cm) (hs : List Hs) (th : Tag) (ht : th = .nil → hs = []) (gr n : Int) (M O M1 O1 : List Hs)
 (hcase : (gr ≠ 1 ∧ M1 = M ∧ O1 = O) ∨ (gr = 1 ∧ ∃ T1 : WSt, VisL m (Qar (ofM M O)) hs ([], []) T1 ∧ M1 = M ++ T1.2 ∧ O1 = woL O T1.2 ∧ (M.length : Int) + T1.2.length ≤ n ∧ T1.2.length ≤ 100000))
 (T2 : WSt) (hT2 : VisL m (fun h => (look (ofM M1 O1) h).isSome) (hs ++ cs.map (·.1)) ([], []) T2) (hc : cs.length ≤ 100000) (hh : hs.length ≤ 100000) (hM : M.length ≤ 100000) (hO : O.length ≤ 100000) (hM1 : M1.length ≤ 1000000) (hO1 : O1.length + T2.2.length ≤ 1000000) :
 GCalls Tryz.prog 12 [.ptr 2 ti 0 0, .ptr 0 st 0 0, .agg (reqG cs hs th gr)] (gObj st s m ++ idO2 ti so n M O) (fun g O' => ∃ so' tn sn, g = .lit .nilIface ∧ O' = (uO ti st s so tn sn n m M O M1 O1).set 2 (.row ti 4 [[.int .i64 n, .slice (hsG M1) .none, .slice (hsG (O1 ++ T2.2)) .none, .map 6 so']]) ++ [.map so' (kvG encI (ofM M1 (O1 ++ T2.2)))]) := by
 refine gcalls_of_wp (hf := Tryz.func12) (hb := rfl) (hn := Tryz.ntmps12) (hr := Tryz.results12) (hen := by kernel_rfl) (hargs := by simp) ?_
 intro E a w hs0 ha
 refine wp_seq (QbS (st := ⟨(gstart 86 [.ptr 2 ti 0 0, .ptr 0 st 0 0, .agg (reqG cs hs th gr)] []).s, gObj st s m ++ idO2 ti so n M O⟩) mixS (s := QnL) (C := C10) (by kernel_rfl) (by kernel_rfl) hs0 ha (u0 ti st _ rfl (Qj8 _ _ _ _) _) ?_)
 rintro ⟨t1, O1'⟩ E1 a1 w1 q1 k1 s1R ⟨e1, hw1⟩
 change O1' = gObj st s m ++ idO2 ti so n M O at e1
 subst e1
 have s1 := s1R.weak hw1
 show (Code.seq _ _).wp _ _ _ _
 refine wp_seq (QbS (st := ⟨uS ti st (.ref (reqG cs hs th gr)) .any .any .any .any .any .any .any, gObj st s m ++ idO2 ti so n M O⟩) mixS (s := .seq QnM QnN) (C := C10) (by kernel_rfl) (by kernel_rfl) q1 s1 (u1 ti st _ _) ?_)
 rintro ⟨t2, O2'⟩ E2 a2 w2 q2 k2 s2R ⟨e2, hw2⟩
 change O2' = gObj st s m ++ idO2 ti so n M O at e2
 subst e2
 have s2 := s2R.weak hw2
 show (Code.seq _ _).wp _ _ _ _
 refine wp_seq (QbS (st := ⟨uS ti st (.ref (reqG cs hs th gr)) .any .any .any .any .any .any .any, gObj st s m ++ idO2 ti so n M O⟩) mixS (s := QnO) (C := C10) (by kernel_rfl) (by kernel_rfl) q2 s2 (u4 ti st so _ n M O _ _) ?_)
 rintro ⟨t3, O3'⟩ E3 a3 w3 q3 k3 s3R ⟨e3, hw3⟩
 change O3' = gObj st s m ++ idO2 ti so n M O at e3
 subst e3
 have s3 := s3R.weak hw3
 have c12 : VCs Tryz.prog [5] QgH (vcN (NW (uS ti st (.ref (reqG cs hs th gr)) (.slice (hsG M1) .none) (.slice (hsG O1) .none) .any .any .any .any .any) (gObj st s m ++ idO2 ti so n M O))) ⟨uS ti st (.ref (reqG cs hs th gr)) (.slice (hsG M) .none) (.slice (hsG O) .none) .any .any .any .any .any, gObj st s m ++ idO2 ti so n M O⟩ := by
  rcases hcase with ⟨h1, rfl, rfl⟩ | ⟨rfl, T1, h1, rfl, rfl, h2, h3⟩
  · exact u12n ti st cs hs th gr h1 _ _ _
  · exact u12m m hm ti st s so cs hs th n M O T1 h1 (by omega) (by omega) (by omega) (by omega) h2
 show (Code.seq _ _).wp _ _ _ _
 refine wp_seq (QbS (st := ⟨uS ti st (.ref (reqG cs hs th gr)) (.slice (hsG M) .none) (.slice (hsG O) .none) .any .any .any .any .any, gObj st s m ++ idO2 ti so n M O⟩) mixS (s := QgH) (C := C10) (by kernel_rfl) (by kernel_rfl) q3 s3 c12 ?_)
 rintro ⟨t4, O4'⟩ E4 a4 w4 q4 k4 s4R ⟨e4, hw4⟩
 change O4' = gObj st s m ++ idO2 ti so n M O at e4
 subst e4
 have s4 := s4R.weak hw4
 have k04 := ((k1.trans k2).trans k3).trans k4
 show (Code.seq _ _).wp _ _ _ _
 refine wp_seq (QbS (st := ⟨uS ti st (.ref (reqG cs hs th gr)) (.slice (hsG M1) .none) (.slice (hsG O1) .none) .any .any .any .any .any, gObj st s m ++ idO2 ti so n M O⟩) mixS (s := Qj9) (C := C10) (by kernel_rfl) (by kernel_rfl) q4 s4 (u13 ti st s so _ _ _ n m M O) ?_)
 rintro ⟨t5, O5'⟩ E5 a5 w5 q5 k5 s5R ⟨tn, tb, e5, hw5⟩
 change O5' = (gObj st s m ++ idO2 ti so n M O ++ [.row tn 4 [[.int .i64 0, .slice [] .nil, .slice [] .nil, .lit (.map none)]]]) ++ [.row tb 1 [[.ptr 4 tn 0 0]]] at e5
 subst e5
 obtain ⟨q6, k6, s6⟩ := q5.meltBox1 (s5R.weak hw5) 10 rfl rfl
 show (Code.seq _ _).wp _ _ _ _
 refine wp_seq (QbS (st := ⟨uS ti st (.ref (reqG cs hs th gr)) (.slice (hsG M1) .none) (.slice (hsG O1) .none) (.ref [.ptr 4 tn 0 0]) .any .any .any .any, gObj st s m ++ idO2 ti so n M O ++ [.row tn 4 [[.int .i64 0, .slice [] .nil, .slice [] .nil, .lit (.map none)]]]⟩) mixS (s := Qka) (C := C10) (by kernel_rfl) (by kernel_rfl) q6 (s6.weak (by simp [WL, leG_self, leG_any])) (u14 ti st s so tn _ n m M O M1 O1 hM1 (by omega)) ?_)
 rintro ⟨t7, O7'⟩ E7 a7 w7 q7 k7 s7R ⟨sn, e7, hw7⟩
 change O7' = uO ti st s so tn sn n m M O M1 O1 at e7
 subst e7
 have s7 := s7R.weak hw7
 have k07 := ((k04.trans k5).trans k6).trans k7
 show (Code.seq _ _).wp _ _ _ _
 refine wp_seq (QbS (st := ⟨uS ti st (.ref (reqG cs hs th gr)) (.slice (hsG M1) .none) (.slice (hsG O1) .none) (.ref [.ptr 4 tn 0 0]) .any .any .any .any, uO ti st s so tn sn n m M O M1 O1⟩) mixS (s := Qkb) (C := C10) (by kernel_rfl) (by kernel_rfl) q7 s7 (u15 ti st _ _ _ cs hs th ht (by omega) gr _ rfl) ?_)
 rintro ⟨t8, O8'⟩ E8 a8 w8 q8 k8 s8R h8
 obtain ⟨x11, X, hx, e8, s8⟩ : ∃ x11 X, ((hs = [] ∧ x11 = .slice [] .nil ∧ X = []) ∨ ∃ v, x11 = .own 6 v 0 hs.length ∧ X = [.row v 32 (hsG hs)]) ∧ O8' = uO ti st s so tn sn n m M O M1 O1 ++ X ∧ SlotsR E8 a8 (uS ti st (.ref (reqG cs hs th gr)) (.slice (hsG M1) .none) (.slice (hsG O1) .none) (.ref [.ptr 4 tn 0 0]) x11 .any .any .any) := by
  rcases h8 with ⟨h1, e, hw⟩ | ⟨v, e, hw⟩
  · exact ⟨_, [], .inl ⟨h1, rfl, rfl⟩, by rw [List.append_nil]; exact e, s8R.weak hw⟩
  · exact ⟨_, _, .inr ⟨v, rfl, rfl⟩, e, s8R.weak hw⟩
 subst e8
 show (Code.seq _ _).wp _ _ _ _
 refine wp_seq (QbS (st := ⟨uS ti st (.ref (reqG cs hs th gr)) (.slice (hsG M1) .none) (.slice (hsG O1) .none) (.ref [.ptr 4 tn 0 0]) x11 .any .any .any, uO ti st s so tn sn n m M O M1 O1 ++ X⟩) mixS (s := Qkc) (C := C10) (by kernel_rfl) (by kernel_rfl) q8 s8 (u23 ti st s so tn sn n m M O M1 O1 _ _ _ x11 X cs hs th gr (by omega) (by omega) hx) ?_)
 rintro ⟨t9, O9'⟩ E9 a9 w9 q9 k9 s9R ⟨v, e9, hw9⟩
 change O9' = uO ti st s so tn sn n m M O M1 O1 ++ [.row v 32 (hsG (hs ++ cs.map (·.1)))] at e9
 subst e9
 have s9 := s9R.weak hw9
 obtain ⟨st', Ex, e10, q10, k10, s10⟩ := (Into.melt (st := ⟨uS ti st (.ref (reqG cs hs th gr)) (.slice (hsG M1) .none) (.slice (hsG O1) .none) (.ref [.ptr 4 tn 0 0]) (.own 6 v 0 (hs ++ cs.map (·.1)).length) .any .any .any, uO ti st s so tn sn n m M O M1 O1 ++ [.row v 32 (hsG (hs ++ cs.map (·.1)))]⟩) (N := fun st' => st' = ⟨uS ti st (.ref (reqG cs hs th gr)) (.slice (hsG M1) .none) (.slice (hsG O1) .none) (.ref [.ptr 4 tn 0 0]) (.slice (hsG (hs ++ cs.map (·.1))) .none) .any .any .any, uO ti st s so tn sn n m M O M1 O1⟩) 11 2 rfl rfl (hsG_len _).symm (frz_hs _ 1 _) (Into.here rfl)) E9 a9 w9 q9 s9
 subst e10
 have K10 := ((k07.trans k8).trans k9).trans k10
 refine wp_mono (vc_sound mixS _ (retQ Tryz.prog [.tmp 6] _) ⟨_, _⟩ _ a9 w9 (C := C10) (by kernel_rfl) q10 s10 (vcS_ok (C := C10) _ _ _ _ _ (by kernel_rfl) ?_ (u27 m hm ti st s so tn sn n M O M1 O1 _ _ (by rw [List.length_append, List.length_map]; omega) T2 hT2 hM1 hO1).ok)) (fun e a' w' hpost => Post.trans K10 hpost)
 intro e s h
 cases e with
 | normal => obtain ⟨so', h1, h2⟩ := h; exact ⟨so', tn, sn, h1, h2⟩
 | ret => obtain ⟨so', h1, h2⟩ := h; exact ⟨so', tn, sn, h1, h2⟩
 | exit k => exact h.elim
theorem QhJ (m : GM) (hm : GMOK m) (ti st s so : Nat) (cs : List Cm) (hs : List Hs) (th : Tag) (ht : th = .nil → hs = []) (gr n : Int) (M O M1 O1 : List Hs)
 (hcase : (gr ≠ 1 ∧ M1 = M ∧ O1 = O) ∨ (gr = 1 ∧ ∃ T1 : WSt, VisL m (Qar (ofM M O)) hs ([], []) T1 ∧ M1 = M ++ T1.2 ∧ O1 = woL O T1.2 ∧ (M.length : Int) + T1.2.length ≤ n ∧ T1.2.length ≤ 100000))
 (T2 : WSt) (hT2 : VisL m (fun h => (look (ofM M1 O1) h).isSome) (hs ++ cs.map (·.1)) ([], []) T2) (hc : cs.length ≤ 100000) (hh : hs.length ≤ 100000) (hM : M.length ≤ 100000) (hO : O.length ≤ 100000) (hM1 : M1.length ≤ 1000000) (hO1 : O1.length + T2.2.length ≤ 1000000) :
 GCalls Tryz.prog 12 [.ptr 2 ti 0 0, .ptr 0 st 0 0, .agg (reqG cs hs th gr)] (gObj st s m ++ idO2 ti so n M O) (fun g O' => ∃ so', g = .lit .nilIface ∧ O' = gObj st s m ++ idO2 ti so' n M1 (O1 ++ T2.2)) := by
 refine GCalls.into ((Qja m hm ti st s so cs hs th ht gr n M O M1 O1 hcase T2 hT2 hc hh hM hO hM1 hO1).mono ?_)
 rintro g O' ⟨so', tn, sn, rfl, rfl⟩
 exact GInto.pick (X := gObj st s m ++ idO2 ti so' n M1 (O1 ++ T2.2)) [0, 1, 2, 6] ⟨⟨_, rfl, .refl _⟩, ⟨_, rfl, .refl _⟩, ⟨_, rfl, OLe.row ⟨⟨GLe.refl _, GLe.refl _, GLe.refl _, GLe.map _ _ _, trivial⟩, trivial⟩⟩, ⟨_, rfl, .refl _⟩, trivial⟩ (by decide) rfl ⟨so', rfl, rfl⟩
def inM (m : GM) (l : List Hs) : List Hs := l.filter fun h => (look m h).isSome
theorem Qgl {a : List Hs} (h : SS a) : a.Nodup := h.imp fun {x y} q e => by rw [e] at q; exact LT.irrefl _ q
structure Good (m : GM) : Prop where
 ok : GOK m
 keys : (m.map (·.1)).Nodup
 closed : ∀ x y, y ∈ parsM m x → (look m y).isSome = true
 acyc : ∀ x, ¬ Reach (parsM m) (parsM m x) x
theorem Good.gm {m : GM} (h : Good m) : GMOK m := ⟨by have := h.ok.len; omega, h.ok.row⟩
theorem Reach.trans {nx : Hs → List Hs} {l l' : List Hs} {x : Hs} (h : Reach nx l' x) (hl : ∀ y ∈ l', Reach nx l y) : Reach nx l x := by
 induction h with
 | base x hx => exact hl x hx
 | step x y _ hy ih => exact .step x y ih hy
theorem Reach.sub {nx : Hs → List Hs} {l l' : List Hs} {x : Hs} (h : Reach nx l' x) (hl : ∀ y ∈ l', y ∈ l) : Reach nx l x := h.trans fun y hy => .base y (hl y hy)
theorem Reach.nil {nx : Hs → List Hs} {x : Hs} (h : Reach nx [] x) : False := by
 induction h with
 | base x hx => cases hx
 | step _ _ _ _ ih => exact ih
theorem Qju {m : GM} {x y : Hs} (h : y ∈ parsM m x) : (look m x).isSome = true := by
 cases e : look m x with
 | some l => rfl
 | none => rw [parsM_none e] at h; cases h
theorem Reach.inM {m : GM} {l : List Hs} {x : Hs} (h : Reach (parsM m) l x) (hx : (look m x).isSome = true) : Reach (parsM m) (inM m l) x := by
 induction h with
 | base x h => exact .base x (List.mem_filter.2 ⟨h, hx⟩)
 | step x y _ hy ih => exact .step x y (ih (Qju hy)) hy
theorem QkQ (m : GM) (dn : Hs → Bool) : ∀ (n : Nat) (r S out : List Hs), S.Nodup → (∀ x ∈ S, (look m x).isSome = true) → m.length < S.length + n → ∃ T, VisL m dn r (S, out) T ∧ T.1.Nodup ∧ (∀ x ∈ T.1, (look m x).isSome = true) ∧ S.length ≤ T.1.length := by
 intro n
 induction n with
 | zero =>
  intro r S out h1 h2 h3;have := Qaz S (m.map (·.1)) h1 fun x hx => QbF (h2 x hx)
  rw [List.length_map] at this;omega
 | succ n ihn =>
  intro r;induction r with
  | nil => exact fun S out h1 h2 h3 => ⟨_, .nil _, h1, h2, Nat.le_refl _⟩
  | cons p r ih =>
   intro S out h1 h2 h3;cases hp : QaP m dn S p with
   | false =>
    obtain ⟨T, a, b⟩ := ih S out h1 h2 h3;exact ⟨T, .skip p r (S, out) T hp a, b⟩
   | true =>
    obtain ⟨p1, p2, _⟩ := QcW hp;obtain ⟨⟨S1, o1⟩, a1, a2, a3, a4⟩ := ihn (parsM m p) (S ++ [p]) out (by
     rw [List.nodup_append];exact ⟨h1, by simp, fun a ha b hb => by rw [List.mem_singleton.1 hb]; exact fun e => p2 (e ▸ ha)⟩) (fun x hx => by
     rcases List.mem_append.1 hx with q | q
     · exact h2 x q
     · rw [List.mem_singleton.1 q]; exact p1) (by rw [List.length_append, List.length_singleton]; omega)
    simp only [List.length_append, List.length_singleton] at a2 a3 a4;obtain ⟨T, b1, b2, b3, b4⟩ := ih S1 (o1 ++ [p]) a2 a3 (by omega);exact ⟨T, .go p r (S, out) (S1, o1) T hp a1 b1, b2, b3, by omega⟩
theorem QfR {m : GM} {dn : Hs → Bool} (hg : ∀ x, ¬ Reach (parsM m) (parsM m x) x) {r : List Hs} {so T : WSt} (h : VisL m dn r so T) :
 (∀ x ∈ so.2, x ∈ so.1) → (∀ k ∈ so.1, k ∉ so.2 → ∀ p ∈ r, Reach (parsM m) (parsM m k) p) →
 ∃ new, T.2 = so.2 ++ new ∧ (∀ x, x ∈ T.1 ↔ x ∈ so.1 ∨ x ∈ new) ∧ new.Nodup ∧ (∀ x ∈ new, x ∉ so.1 ∧ (look m x).isSome = true ∧ dn x = false ∧ Reach (parsM m) r x) ∧
  (∀ p ∈ r, (look m p).isSome = true → dn p = false → p ∈ T.2) ∧ (∀ i x, new[i]? = some x → ∀ y ∈ parsM m x, (look m y).isSome = true → dn y = false → y ∈ so.2 ++ new.take i) := by
 induction h with
 | nil so => exact fun _ _ => ⟨[], by simp, by simp, List.nodup_nil, by simp, by simp, by simp⟩
 | skip p r so T hp _ ih =>
  intro hS hK;obtain ⟨new, h1, h2, h3, h4, h5, h6⟩ := ih hS fun k hk hn q hq => hK k hk hn q (by simp [hq]);refine ⟨new, h1, h2, h3, fun x hx => ?_, fun q hq hl hd => ?_, h6⟩
  · obtain ⟨a, b, c, d⟩ := h4 x hx;exact ⟨a, b, c, d.sub fun y hy => by simp [hy]⟩
  · rcases List.mem_cons.1 hq with e | e
    · subst e;have hin : q ∈ so.1 := by
       unfold QaP at hp;rw [hl, hd] at hp
       simpa using hp
      by_cases ho : q ∈ so.2
      · rw [h1]; exact List.mem_append_left _ ho
      · exact absurd (hK q hin ho q (by simp)) (hg q)
    · exact h5 q e hl hd
 | go p r so so1 T hp _ _ ih1 ih2 =>
  intro hS hK;obtain ⟨p1, p2, p3⟩ := QcW hp;obtain ⟨n1, a1, a2, a3, a4, a5, a6⟩ := ih1 (fun x hx => List.mem_append_left _ (hS x hx)) (fun k hk hn y hy => by
   rcases List.mem_append.1 hk with q | q
   · exact .step p y (hK k q hn p (by simp)) hy
   · rw [List.mem_singleton.1 q]; exact .base y hy)
  simp only at a1 a2 a4 a5 a6
  have hso1 : ∀ x ∈ so1.2 ++ [p], x ∈ so1.1 := fun x hx => by
   rw [a2];rw [a1] at hx;simp only [List.mem_append, List.mem_singleton] at hx ⊢;rcases hx with (q | q) | q
   · exact .inl (.inl (hS x q))
   · exact .inr q
   · exact .inl (.inr q)
  obtain ⟨n2, b1, b2, b3, b4, b5, b6⟩ := ih2 hso1 (fun k hk hn q hq => by
   simp only at hk hn
   rw [a2] at hk;rw [a1] at hn;simp only [List.mem_append, List.mem_singleton, not_or] at hk hn;rcases hk with (e | e) | e
   · exact hK k e hn.1.1 q (by simp [hq])
   · exact absurd e hn.2
   · exact absurd e hn.1.2)
  simp only at b1 b2 b4 b5 b6
  have e2 : T.2 = so.2 ++ (n1 ++ [p] ++ n2) := by rw [b1, a1]; simp
  refine ⟨n1 ++ [p] ++ n2, e2, fun x => ?_, ?_, fun x hx => ?_, fun q hq hl hd => ?_, fun i x hi y hy hl hd => ?_⟩
  · rw [b2, a2];simp only [List.mem_append, List.mem_singleton];constructor
    · rintro (((h | h) | h) | h)
      · exact .inl h
      · exact .inr (.inl (.inr h))
      · exact .inr (.inl (.inl h))
      · exact .inr (.inr h)
    · rintro (h | (h | h) | h)
      · exact .inl (.inl (.inl h))
      · exact .inl (.inr h)
      · exact .inl (.inl (.inr h))
      · exact .inr h
  · rw [List.nodup_append, List.nodup_append];refine ⟨⟨a3, by simp, fun a ha b hb e => ?_⟩, b3, fun a ha b hb e => ?_⟩
    · rw [List.mem_singleton.1 hb] at e;exact (a4 a ha).1 (by rw [e]; simp)
    · refine (b4 b hb).1 (hso1 b ?_)
      rw [← e, a1];simp only [List.mem_append, List.mem_singleton] at ha ⊢;exact ha.imp .inr id
  · rcases List.mem_append.1 hx with q | q
    · rcases List.mem_append.1 q with q | q
      · obtain ⟨c1, c2, c3, c4⟩ := a4 x q;exact ⟨fun e => c1 (List.mem_append_left _ e), c2, c3, c4.trans fun y hy => .step p y (.base p (by simp)) hy⟩
      · rw [List.mem_singleton.1 q]; exact ⟨p2, p1, p3, .base p (by simp)⟩
    · obtain ⟨c1, c2, c3, c4⟩ := b4 x q;exact ⟨fun e => c1 (by rw [a2]; simp [e]), c2, c3, c4.sub fun y hy => by simp [hy]⟩
  · rcases List.mem_cons.1 hq with e | e
    · rw [e2, e]; simp
    · exact b5 q e hl hd
  · have hin : ∀ z, (z ∈ so.2 ++ n1 ++ [p] ∨ z ∈ so.2 ++ n1 ++ [p] ++ n2.take (i - n1.length - 1)) → n1.length < i → z ∈ so.2 ++ (n1 ++ [p] ++ n2).take i := fun z hz hi => by
     have et : (n1 ++ [p] ++ n2).take i = n1 ++ [p] ++ n2.take (i - n1.length - 1) := by
      rw [List.take_append, List.take_of_length_le (by simp; omega)]
      congr 2
      simp; omega
     rw [et];rcases hz with q | q
     · simp only [List.mem_append, List.mem_singleton] at q ⊢;rcases q with (q | q) | q
       · exact .inl q
       · exact .inr (.inl (.inl q))
       · exact .inr (.inl (.inr q))
     · simp only [List.mem_append, List.mem_singleton] at q ⊢;rcases q with ((q | q) | q) | q
       · exact .inl q
       · exact .inr (.inl (.inl q))
       · exact .inr (.inl (.inr q))
       · exact .inr (.inr q)
    by_cases h1 : i < n1.length
    · have e1 : n1[i]? = some x := by rw [List.append_assoc, List.getElem?_append_left h1] at hi; exact hi
      have := a6 i x e1 y hy hl hd;have et : (n1 ++ [p] ++ n2).take i = n1.take i := by rw [List.append_assoc, List.take_append_of_le_length (by omega)]
      rw [et]; exact this
    · by_cases h2 : i = n1.length
      · subst h2;have e1 : x = p := by
         rw [List.append_assoc, List.getElem?_append_right (Nat.le_refl _), Nat.sub_self] at hi
         simpa using hi.symm
        subst e1;have := a5 y hy hl hd;rw [a1] at this;have et : (n1 ++ [x] ++ n2).take n1.length = n1 := by rw [List.append_assoc]; exact List.take_left
        rw [et]; exact this
      · have e1 : n2[i - n1.length - 1]? = some x := by
         rw [List.append_assoc, List.getElem?_append_right (by omega), List.singleton_append] at hi;obtain ⟨j, hj⟩ : ∃ j, i - n1.length = j + 1 := ⟨i - n1.length - 1, by omega⟩
         rw [hj] at hi ⊢
         simpa using hi
        have := b6 _ x e1 y hy hl hd;rw [a1] at this;exact hin y (.inr this) (by omega)
theorem Qhd {m : GM} {dn : Hs → Bool} (hg : ∀ x, ¬ Reach (parsM m) (parsM m x) x) {hs : List Hs} {T : WSt} (h : VisL m dn hs ([], []) T) :
 (∀ x, x ∈ T.1 ↔ x ∈ T.2) ∧ T.2.Nodup ∧ (∀ x ∈ T.2, (look m x).isSome = true ∧ dn x = false ∧ Reach (parsM m) hs x) ∧
  (∀ p ∈ hs, (look m p).isSome = true → dn p = false → p ∈ T.2) ∧ (∀ i x, T.2[i]? = some x → ∀ y ∈ parsM m x, (look m y).isSome = true → dn y = false → y ∈ T.2.take i) := by
 obtain ⟨new, h1, h2, h3, h4, h5, h6⟩ := QfR hg h (by simp) (by simp)
 simp only [List.nil_append] at h1 h6
 subst h1
 refine ⟨fun x => by rw [h2]; simp, h3, fun x hx => ?_, h5, h6⟩
 obtain ⟨_, b, c, d⟩ := h4 x hx
 exact ⟨b, c, d⟩
theorem QmH {l : List Hs} (h : l.Nodup) {i j : Nat} {x : Hs} (hi : l[i]? = some x) (hj : l[j]? = some x) : i = j := by
 obtain ⟨a, ha⟩ := List.getElem?_eq_some_iff.1 hi
 obtain ⟨b, hb⟩ := List.getElem?_eq_some_iff.1 hj
 exact (List.getElem_inj h).1 (by rw [ha, hb])
theorem Qnz {m : GM} {dn : Hs → Bool} {a b : List Hs} : ∀ {so T : WSt}, VisL m dn (a ++ b) so T → ∃ T1, VisL m dn a so T1 ∧ VisL m dn b T1 T := by
 induction a with
 | nil => exact fun h => ⟨_, .nil _, h⟩
 | cons p r ih =>
  intro so T h;rw [List.cons_append] at h;cases hp : QaP m dn so.1 p with
  | false =>
   obtain ⟨T1, h1, h2⟩ := ih (h.inv_skip hp);exact ⟨T1, .skip p r so T1 hp h1, h2⟩
  | true =>
   obtain ⟨so1, h1, h2⟩ := h.inv_go hp;obtain ⟨T1, h3, h4⟩ := ih h2;exact ⟨T1, .go p r so so1 T1 hp h1 h3, h4⟩
theorem QjP {α : Type} (m : List (Hs × α)) (h : Hs) (v : α) : (mset m h v).map (·.1) = if (look m h).isSome = true then m.map (·.1) else m.map (·.1) ++ [h] := by
 induction m with
 | nil => simp [mset, look]
 | cons p r ih =>
  rw [mset, look];by_cases e : h = p.1
  · rw [if_pos e, if_pos e]; simp [e]
  · rw [if_neg e, if_neg e, List.map_cons, ih];split <;> simp
theorem QbE {α : Type} {m : List (Hs × α)} {x : Hs} (h : x ∈ m.map (·.1)) : (look m x).isSome = true := by
 induction m with
 | nil => cases h
 | cons p r ih =>
  rw [look];by_cases e : x = p.1
  · rw [if_pos e]; rfl
  · rw [if_neg e];rw [List.map_cons] at h;rcases List.mem_cons.1 h with q | q
    · exact absurd q e
    · exact ih q
theorem Qbq : ∀ {cs : List Cm} {m M : GM}, QaI m cs = .ok M → (m.map (·.1)).Nodup → (M.map (·.1)).Nodup ∧ (∀ h l, look m h = some l → look M h = some l) ∧ (∀ c ∈ cs, look M c.1 = some c.2) ∧ (∀ h l, look M h = some l → look m h = some l ∨ (h, l) ∈ cs)
 | [], m, M, h, hk => by
  rw [QaI] at h; cases h;exact ⟨hk, fun _ _ h => h, by simp, fun _ _ h => .inl h⟩
 | c :: r, m, M, h, hk => by
  rw [QaI] at h;unfold Qcm at h;cases el : look m c.1 with
  | some l =>
   simp only [el] at h;split at h
   · rename_i m' e;split at e
     · rename_i e2;cases e;obtain ⟨h1, h2, h3, h4⟩ := Qbq h hk;refine ⟨h1, h2, fun d hd => ?_, fun x l hx => (h4 x l hx).imp id fun q => List.mem_cons_of_mem _ q⟩;rcases List.mem_cons.1 hd with q | q
       · rw [q, h2 _ _ el, e2]
       · exact h3 d q
     · cases e
   · cases h
  | none =>
   simp only [el] at h;have hk' : ((mset m c.1 c.2).map (·.1)).Nodup := by
    rw [QjP, el];simp only [Option.isSome_none, Bool.false_eq_true, if_false];rw [List.nodup_append];refine ⟨hk, by simp, fun a ha b hb e => ?_⟩;rw [List.mem_singleton.1 hb] at e;have := QbE ha;rw [e, el] at this; cases this
   obtain ⟨h1, h2, h3, h4⟩ := Qbq h hk';refine ⟨h1, fun x l hx => h2 x l ?_, fun d hd => ?_, fun x l hx => ?_⟩
   · rw [look_mset, if_neg (fun e => by rw [e, el] at hx; cases hx)]; exact hx
   · rcases List.mem_cons.1 hd with q | q
     · rw [q]; exact h2 _ _ (by rw [look_mset, if_pos rfl])
     · exact h3 d q
   · rcases h4 x l hx with q | q
     · rw [look_mset] at q;split at q
       · rename_i e;cases q;exact .inr (by rw [e]; simp)
       · exact .inl q
     · exact .inr (List.mem_cons_of_mem _ q)
theorem Qdh {gr : Int} {m M : GM} {cs : List Cm} {hs : List Hs} (h : Qaj gr m cs hs = .ok M) : Qay gr hs.length cs = none ∧ QaI m cs = .ok M ∧ Qby M cs hs = none ∧ Qa9 m M cs = none ∧ M.length ≤ 1000 := by
 unfold Qaj at h
 split at h
 · cases h
 · rename_i e1;split at h
   · cases h
   · rename_i M' e2;split at h
     · cases h
     · rename_i e3;split at h
       · cases h
       · rename_i e4;split at h
         · cases h
         · cases h;exact ⟨e1, e2, e3, e4, by omega⟩
theorem QjQ {M : GM} {cs : List Cm} {hs : List Hs} (h : Qby M cs hs = none) : (∀ c ∈ cs, ∀ y ∈ c.2, (look M y).isSome = true) ∧ ∀ y ∈ hs, (look M y).isSome = true := by
 unfold Qby at h
 have hn : ∀ n y, Qak M n y = none → (look M y).isSome = true := fun n y q => by
  unfold Qak at q;split at q
  · rename_i e; rw [e]; rfl
  · cases q
 split at h
 · cases h
 · rename_i e;refine ⟨fun c hc y hy => ?_, fun y hy => hn 11 y (List.findSome?_eq_none_iff.1 h y hy)⟩;exact hn 10 y (List.findSome?_eq_none_iff.1 (List.findSome?_eq_none_iff.1 e c hc) y hy)
theorem Qek {gr : Int} {m M : GM} {cs : List Cm} {hs : List Hs} (hm : Good m) (h : Qaj gr m cs hs = .ok M) : Good M := by
 obtain ⟨e1, e2, e3, e4, e5⟩ := Qdh h
 obtain ⟨_, _, _, n4⟩ := Qcv e1
 obtain ⟨_, r2⟩ := Qd5 e2 hm.ok.row fun c hc => (n4 c hc).1
 obtain ⟨k1, k2, k3, k4⟩ := Qbq e2 hm.keys
 obtain ⟨l1, _⟩ := QjQ e3
 refine ⟨⟨e5, r2⟩, k1, fun x y hy => ?_, fun x hx => ?_⟩
 · cases el : look M x with
   | none => rw [parsM_none el] at hy; cases hy
   | some l =>
    rw [parsM_some el] at hy;rcases k4 x l el with q | q
    · have := hm.closed x y (by rw [parsM_some q]; exact hy);obtain ⟨z, hz⟩ := Option.isSome_iff_exists.1 this;rw [k2 y z hz]; rfl
    · exact l1 _ q y hy
 · cases el : look M x with
   | none => rw [parsM_none el] at hx; exact hx.nil
   | some l =>
    rw [parsM_some el] at hx;cases eo : look m x with
    | some l' =>
     have e : l' = l := by
      have := k2 x l' eo;rw [el] at this; cases this; rfl
     subst e;have : ∀ z, Reach (parsM M) l' z → Reach (parsM m) l' z ∧ (look m z).isSome = true := fun z hz => by
      induction hz with
      | base z hz => exact ⟨.base z hz, hm.closed x z (by rw [parsM_some eo]; exact hz)⟩
      | step z y _ hy ih =>
       obtain ⟨lz, hlz⟩ := Option.isSome_iff_exists.1 ih.2;rw [parsM_some (k2 z lz hlz)] at hy;have hy' : y ∈ parsM m z := by rw [parsM_some hlz]; exact hy
       exact ⟨.step z y ih.1 hy', hm.closed z y hy'⟩
     exact hm.acyc x (by rw [parsM_some eo]; exact (this x hx).1)
    | none =>
     rcases k4 x l el with q | q
     · rw [eo] at q; cases q
     · unfold Qa9 at e4;have := List.findSome?_eq_none_iff.1 e4 _ q;unfold QbN at this;rw [eo] at this;simp only [Option.isSome_none, Bool.false_eq_true, if_false] at this;split at this
       · cases this
       · rename_i hn; exact hn hx
def QaX (m m' : GM) : Prop := ∀ h, look m h = look m' h
theorem QaX.pars {m m' : GM} (h : QaX m m') : parsM m = parsM m' := funext fun x => by unfold parsM; rw [h x]
theorem QaX.len {m m' : GM} (h : QaX m m') (k : (m.map (·.1)).Nodup) (k' : (m'.map (·.1)).Nodup) : m.length = m'.length := by
 have a := Qaz _ (m'.map (·.1)) k fun x hx => QbF (by rw [← h x]; exact QbE hx)
 have b := Qaz _ (m.map (·.1)) k' fun x hx => QbF (by rw [h x]; exact QbE hx)
 simp only [List.length_map] at a b
 omega
theorem QaX.symm {m m' : GM} (h : QaX m m') : QaX m' m := fun x => (h x).symm
theorem QdB : ∀ {cs : List Cm} {m m' : GM}, QaX m m' → (∃ e, QaI m cs = .error e ∧ QaI m' cs = .error e) ∨ ∃ M M', QaI m cs = .ok M ∧ QaI m' cs = .ok M' ∧ QaX M M'
 | [], m, m', h => .inr ⟨m, m', rfl, rfl, h⟩
 | c :: r, m, m', h => by
  rw [QaI, QaI];unfold Qcm
  rw [← h c.1];cases el : look m c.1 with
  | some l =>
   simp only
   by_cases e : l = c.2
   · rw [if_pos e, if_pos e]; exact QdB h
   · rw [if_neg e, if_neg e]; exact .inl ⟨_, rfl, rfl⟩
  | none =>
   simp only
   exact QdB fun x => by rw [look_mset, look_mset, h x]
theorem Qfn {M M' : GM} (h : QaX M M') (cs : List Cm) (hs : List Hs) : Qby M cs hs = Qby M' cs hs := by
 have : Qak M = Qak M' := funext fun n => funext fun y => by unfold Qak; rw [h y]
 unfold Qby; rw [this]
theorem Qhw {m m' M M' : GM} (h : QaX m m') (H : QaX M M') (cs : List Cm) : Qa9 m M cs = Qa9 m' M' cs := by
 have : QbN m M = QbN m' M' := funext fun c => by unfold QbN; rw [h c.1, H.pars]
 unfold Qa9; rw [this]
theorem Qgy {m m' : GM} (h : QaX m m') (k : (m.map (·.1)).Nodup) (k' : (m'.map (·.1)).Nodup) (gr : Int) (cs : List Cm) (hs : List Hs) :
 (∃ e, Qaj gr m cs hs = .error e ∧ Qaj gr m' cs hs = .error e) ∨ ∃ M M', Qaj gr m cs hs = .ok M ∧ Qaj gr m' cs hs = .ok M' ∧ QaX M M' := by
 unfold Qaj
 cases Qay gr hs.length cs with
 | some e => exact .inl ⟨e, rfl, rfl⟩
 | none =>
  simp only
  rcases QdB (cs := cs) h with ⟨⟨x, n⟩, e1, e2⟩ | ⟨M, M', e1, e2, H⟩
  · rw [e1, e2]; exact .inl ⟨_, rfl, rfl⟩
  · rw [e1, e2];simp only
    rw [Qfn H];cases Qby M' cs hs with
    | some e => exact .inl ⟨e, rfl, rfl⟩
    | none =>
     simp only
     rw [Qhw h H];cases Qa9 m' M' cs with
     | some e => exact .inl ⟨e, rfl, rfl⟩
     | none =>
      simp only
      rw [H.len (Qbq e1 k).1 (Qbq e2 k').1];split
      · exact .inl ⟨_, rfl, rfl⟩
      · exact .inr ⟨M, M', rfl, rfl, H⟩
abbrev rObj (rt : Nat) (L : GM) : List GObj := [.row rt 1 [[.slice (csG L) .none]]]
abbrev SSC (L : GM) : Prop := L.Pairwise fun a b => LT a.1 b.1
def Qb4 (L : GM) (h : Hs) : Option Nat := L.findIdx? fun c => decide (c.1 = h)
def QcJ (L : GM) (h : Hs) : Int := match Qb4 L h with
 | some i => (i : Int)
 | none => -1
theorem QcQ : ∀ (L : GM) (h : Hs), (∀ i, Qb4 L h = some i → i < L.length ∧ look L h = some (L.getD i default).2 ∧ (L.getD i default).1 = h) ∧ (Qb4 L h = none → look L h = none)
 | [], h => ⟨fun i e => by simp [Qb4] at e, fun _ => rfl⟩
 | c :: r, h => by
  unfold Qb4;rw [List.findIdx?_cons, look];by_cases e : c.1 = h
  · rw [decide_eq_true e, if_pos e.symm];exact ⟨fun i hi => by simp at hi; subst hi; exact ⟨by simp, by simp, by simpa using e⟩, fun q => by simp at q⟩
  · rw [decide_eq_false e, if_neg (c := h = c.1) (fun q => e q.symm)];obtain ⟨h1, h2⟩ := QcQ r h;refine ⟨fun i hi => ?_, fun q => h2 (by unfold Qb4; simpa using q)⟩;cases hr : Qb4 r h with
    | none => unfold Qb4 at hr; rw [hr] at hi; simp at hi
    | some j =>
     have hr' := hr;unfold Qb4 at hr';rw [hr'] at hi;simp at hi;subst hi;obtain ⟨a, b, c⟩ := h1 j hr;exact ⟨by simp; exact a, by simpa using b, by simpa using c⟩
theorem Qg6 {L : GM} (h : SSC L) {i j : Nat} (h1 : i < j) (h2 : j < L.length) : LT (L.getD i default).1 (L.getD j default).1 := by
 have := (List.pairwise_iff_getElem.1 h) i j (by omega) h2 h1
 have e1 : L.getD i default = L[i] := by simp [List.getD, show i < L.length by omega]
 have e2 : L.getD j default = L[j] := by simp [List.getD, h2]
 rw [e1, e2]; exact this
theorem Qmx {L : GM} (hL : SSC L) {h : Hs} {k : Nat} (hk : k ≤ L.length) (h1 : ∀ i, i < k → LT (L.getD i default).1 h) (h2 : ∀ i, k ≤ i → i < L.length → ¬ LT (L.getD i default).1 h) :
 (k < L.length → (L.getD k default).1 = h → Qb4 L h = some k) ∧ ((k < L.length → (L.getD k default).1 ≠ h) → Qb4 L h = none) := by
 have eg : ∀ i (q : i < L.length), L[i] = L.getD i default := fun i q => by simp [List.getD, q]
 refine ⟨fun a e => ?_, fun a => ?_⟩
 · unfold Qb4;rw [List.findIdx?_eq_some_iff_getElem];refine ⟨a, by rw [eg k a]; exact decide_eq_true e, fun j hj => ?_⟩;rw [eg j (by omega)];have := h1 j hj;simp only [decide_eq_true_eq];intro q;rw [q] at this;exact LT.irrefl _ this
 · unfold Qb4;rw [List.findIdx?_eq_none_iff];intro c hc;obtain ⟨j, hj, rfl⟩ := List.getElem_of_mem hc;rw [eg j hj];simp only [decide_eq_false_iff_not];intro q;rcases Nat.lt_trichotomy j k with q1 | q1 | q1
   · have := h1 j q1;rw [q] at this;exact LT.irrefl _ this
   · subst q1; exact a hj q
   · have hk2 : k < L.length := by omega
     have n1 := a hk2;have n2 := h2 k (Nat.le_refl _) hk2;have l1 : LT h (L.getD k default).1 := LT.total (by cases e : ltB (L.getD k default).1.1 h.1 with | true => exact absurd e n2 | false => rfl) n1;have l2 := Qg6 hL q1 hj;rw [q] at l2;exact LT.irrefl _ (l1.trans l2)
theorem Qmy (L : GM) (h : Hs) : decide (0 ≤ QcJ L h) = (look L h).isSome := by
 obtain ⟨h1, h2⟩ := QcQ L h
 unfold QcJ
 cases e : Qb4 L h with
 | none => rw [h2 e]; rfl
 | some i => rw [(h1 i e).2.1]; simp
def zb17 := ai @Qae <| ai @comG.eq_1 <| ai @v33 <| @v32
theorem Qmz (L : GM) (hL : SSC L) (hl : L.length ≤ 1000000) (h : Hs) (rt : Nat) : GCalls Tryz.prog 92 [.ptr 0 rt 0 0, .agg (bytesG h.1)] (rObj rt L) (fun g O' => g = .int .i64 (QcJ L h) ∧ O' = rObj rt L) := by
 refine h92.ca ?_
 refine vq2 @Qae @v32 ?_
 refine Qab (ι := { p : Nat × Nat // p.1 ≤ p.2 ∧ p.2 ≤ L.length ∧ (∀ i, i < p.1 → LT (L.getD i default).1 h) ∧ (∀ i, p.2 ≤ i → i < L.length → ¬ LT (L.getD i default).1 h) }) (fun p => ⟨[.ptr 0 rt 0 0, .any, .any, .ref (bytesG h.1), .any, .int .i64 (p.1.1 : Nat), .int .i64 (p.1.2 : Nat)] ++ List.replicate 46 .any, rObj rt L⟩) (fun p => p.1.2 - p.1.1) ?_ ?_
 · exact Into.first ⟨(0, L.length), Nat.zero_le _, Nat.le_refl _, fun i hi => by omega, fun i h1 h2 => by omega⟩ ⟨[], by simp⟩ (by simp [WL, leG_self, leG_any])
 · rintro ⟨⟨lo, hi⟩, hlh, hhl, ha, hb⟩
   change lo ≤ hi at hlh
   change hi ≤ L.length at hhl
   have ha : ∀ i, i < lo → LT (L.getD i default).1 h := ha;have hb : ∀ i, hi ≤ i → i < L.length → ¬ LT (L.getD i default).1 h := hb;by_cases hc : lo < hi
   · have d0 : ((lo : Int) < (hi : Int)) = True := eq_true (by omega);obtain ⟨m, hm⟩ : ∃ m, (lo + hi) / 2 = m := ⟨_, rfl⟩
     have em : ((lo : Int) + (hi : Int)).tdiv 2 = (m : Int) := by
      rw [show (lo : Int) + (hi : Int) = ((lo + hi : Nat) : Int) by omega, ← hm]; rfl
     have en : norm .i64 (m : Int) = (m : Int) := QaZ (by omega);have eS := Qa0 L m (by omega);obtain ⟨xh, xp, hx⟩ : ∃ xh xp, L.getD m default = (xh, xp) := ⟨_, _, rfl⟩
     have hup : LT xh h → ∀ i, i < m + 1 → LT (L.getD i default).1 h := fun q i hi => by
      by_cases e : i = m
      · subst e; rw [hx]; exact q
      · have := Qg6 hL (show i < m by omega) (by omega);rw [hx] at this;exact LT.trans this q
     have hdn : ¬ LT xh h → ∀ i, m ≤ i → i < L.length → ¬ LT (L.getD i default).1 h := fun q i h1 h2 => by
      by_cases e : i = m
      · subst e; rw [hx]; exact q
      · have := Qg6 hL (show m < i by omega) h2;rw [hx] at this;exact fun r => q (LT.trans this r)
     rw [hx] at eS;have cL := Qne xh.1 h.1 xh.2 h.2;cases el : ltB xh.1 h.1 with
     | true =>
      rw [el] at cL;refine vq5 d0 em en eS zb17 ?_;refine ⟨by decide, by omega, by omega, ?_⟩;refine cL.then ?_ (by rfl)
      refine vq0 ?_;exact Into.at ⟨(m + 1, hi), by show m + 1 ≤ hi; omega, hhl, hup el, hb⟩ (by show hi - (m + 1) < hi - lo; omega) ⟨[], by simp⟩ (by simp [WL, leG_self, leG_any, Qaa])
     | false =>
      rw [el] at cL;refine vq5 d0 em en eS zb17 ?_;refine ⟨by decide, by omega, by omega, ?_⟩;refine cL.then ?_ (by rfl)
      refine vq0 ?_;exact Into.at ⟨(lo, m), by show lo ≤ m; omega, by show m ≤ L.length; omega, ha, hdn (by unfold LT; rw [el]; simp)⟩ (by show m - lo < hi - lo; omega) ⟨[], by simp⟩ (by simp [WL, leG_self, leG_any, Qaa])
   · have d0 : ((lo : Int) < (hi : Int)) = False := eq_false (by omega);have e : hi = lo := by omega
     subst e;obtain ⟨f1, f2⟩ := Qmx hL hhl ha hb;by_cases hk : hi < L.length
     · have d1 : ((hi : Int) < (L.length : Int)) = True := eq_true (by omega);have eS := Qa0 L hi hk;obtain ⟨xh, xp, hx⟩ : ∃ xh xp, L.getD hi default = (xh, xp) := ⟨_, _, rfl⟩
       rw [hx] at eS f1 f2;by_cases e : xh = h
       · subst e;have eZ : QcJ L xh = (hi : Int) := by unfold QcJ; rw [f1 hk rfl]
         have ce := QaA xh xh;rw [decide_eq_true rfl] at ce;rw [eZ];refine vq5 d0 d1 eS ce zb17 ?_;omega
       · have eZ : QcJ L h = -1 := by unfold QcJ; rw [f2 fun _ => e]
         have ce := QaA xh h;rw [decide_eq_false e] at ce;rw [eZ];refine vq5 d0 d1 eS ce zb17 ?_;omega
     · have d1 : ((hi : Int) < (L.length : Int)) = False := eq_false (by omega);have eZ : QcJ L h = -1 := by unfold QcJ; rw [f2 fun q => absurd q hk]
       rw [eZ];exact vd3 d0 d1 @Qae
theorem rHas (L : GM) (hL : SSC L) (hl : L.length ≤ 1000000) (h : Hs) (rt : Nat) : GCalls Tryz.prog 58 [.ptr 0 rt 0 0, .agg (bytesG h.1)] (rObj rt L) (fun g O' => g = .bool (look L h).isSome ∧ O' = rObj rt L) := by
 have cF := Qmz L hL hl h rt
 have eh := Qmy L h
 by_cases c : 0 ≤ QcJ L h
 · have d : (0 ≤ QcJ L h) = True := eq_true c;rw [decide_eq_true c] at eh
   rw [← eh];refine h58.ca ?_;refine vq1 @v32 ?_;refine cF.mono ?_;rintro g O' ⟨rfl, rfl⟩;exact vd1 d
 · have d : (0 ≤ QcJ L h) = False := eq_false c;rw [decide_eq_false c] at eh
   rw [← eh];refine h58.ca ?_;refine vq1 @v32 ?_;refine cF.mono ?_;rintro g O' ⟨rfl, rfl⟩;refine vq1 d ?_;rfl
theorem rPar1 (L : GM) (hL : SSC L) (hl : L.length ≤ 1000000) (h : Hs) (rt : Nat) (i : Nat) (hi : i < L.length) (e : QcJ L h = (i : Int)) (x : Cm) (hx : L.getD i default = x) : GCalls Tryz.prog 59 [.ptr 0 rt 0 0, .agg (bytesG h.1)] (rObj rt L) (fun g O' => g = .slice (hsG x.2) .none ∧ O' = rObj rt L) := by
 have cF := Qmz L hL hl h rt
 rw [e] at cF
 have d : (0 ≤ (i : Int)) = True := eq_true (by omega)
 have eS := Qa0 L i hi
 rw [hx] at eS
 obtain ⟨xh, xp⟩ := x
 refine h59.ca ?_
 refine vq1 @v32 ?_
 refine cF.mono ?_
 rintro g O' ⟨rfl, rfl⟩
 refine vq3 d eS zb17 ?_
 omega
theorem rPar0 (L : GM) (hL : SSC L) (hl : L.length ≤ 1000000) (h : Hs) (rt : Nat) (e : QcJ L h = -1) : GCalls Tryz.prog 59 [.ptr 0 rt 0 0, .agg (bytesG h.1)] (rObj rt L) (fun g O' => g = .slice [] .nil ∧ O' = rObj rt L) := by
 have cF := Qmz L hL hl h rt
 rw [e] at cF
 have d : ((0 : Int) ≤ -1) = False := eq_false (by omega)
 refine h59.ca ?_
 refine vq1 @v32 ?_
 refine cF.mono ?_
 rintro g O' ⟨rfl, rfl⟩
 exact vd3 d @false_imp_iff @true_and
theorem QfS (L : GM) (hL : SSC L) (hl : L.length ≤ 1000000) (h : Hs) (rt : Nat) : GCalls Tryz.prog 59 [.ptr 0 rt 0 0, .agg (bytesG h.1)] (rObj rt L) (fun g O' => g = .slice (hsG (parsM L h)) .none ∧ O' = rObj rt L) := by
 obtain ⟨h1, h2⟩ := QcQ L h
 cases e : Qb4 L h with
 | some i =>
  obtain ⟨a, b, _⟩ := h1 i e;rw [parsM_some b];exact rPar1 L hL hl h rt i a (by unfold QcJ; rw [e]) _ rfl
 | none =>
  rw [parsM_none (h2 e)];refine GCalls.into ((rPar0 L hL hl h rt (by unfold QcJ; rw [e])).mono ?_);rintro g O' ⟨rfl, rfl⟩;exact GInto.weak (O := rObj rt L) (X := []) (by rw [leG_none]; rfl) (.here ⟨rfl, rfl⟩)
def idxC : GM → Hs → Nat
 | [], _ => 0
 | x :: r, h => if ltB x.1.1 h.1 = true then idxC r h + 1 else 0
def putC (L : GM) (c : Cm) : GM := if (look L c.1).isSome = true then L else L.take (idxC L c.1) ++ [c] ++ L.drop (idxC L c.1)
theorem QoZ : ∀ (l : GM) (h : Hs) (k : Nat), k < l.length → idxC (l.drop k) h = if ltB (l.getD k default).1.1 h.1 = true then idxC (l.drop (k + 1)) h + 1 else 0 := fun l h k hk => by
 rw [Qjc hk]; rfl
theorem QmA (l : GM) (n : Nat) : (csG l).take n = csG (l.take n) := by simp [csG, List.map_take]
theorem QmB (l : GM) (n : Nat) : (csG l).drop n = csG (l.drop n) := by simp [csG, List.map_drop]
theorem QmC (l : GM) : List.take l.length (csG l) = csG l := List.take_of_length_le (by rw [Qae]; exact Nat.le_refl _)
theorem rPut0 (L : GM) (hL : SSC L) (hl : L.length ≤ 1000000) (c : Cm) (hc : c.2.length ≤ 1000000) (rt : Nat) (e : (look L c.1).isSome = true) : GCalls Tryz.prog 60 [.ptr 0 rt 0 0, .agg (comG c)] (rObj rt L) (fun g O' => g = .tuple [] ∧ O' = rObj rt L) := by
 obtain ⟨ch, cp⟩ := c
 have cH := rHas L hL hl ch rt
 simp only at e
 rw [e] at cH
 refine h60.ca ?_
 refine vq3 @comG.eq_1 @v33 @v32 ?_
 refine cH.mono ?_
 rintro g O' ⟨rfl, rfl⟩
 exact vd0
def zb18 := ai @Qae <| ai @comG.eq_1 <| ai @Qa7 <| ai @QmA <| ai @QmB <| ai @QmC <| ai @Qbr <| ai @List.drop_zero.{0} <| ai @hsG_len <| ai @all_hsG <| ai @v33 <| @v32
theorem Qo0 (L : GM) (hL : SSC L) (hl : L.length ≤ 1000000) (c : Cm) (hc : c.2.length ≤ 1000000) (rt : Nat) (e : (look L c.1).isSome = false) : GCalls Tryz.prog 60 [.ptr 0 rt 0 0, .agg (comG c)] (rObj rt L) (fun g O' => ∃ u v, g = .tuple [] ∧ O' = [.row rt 1 [[.slice (csG (L.take (idxC L c.1)) ++ [bytesG c.1.1 ++ [.slice (hsG c.2) (.tok 2 u)]] ++ csG (L.drop (idxC L c.1))) (.tok 1 v)]], .tok v 33, .tok u 32]) := by
 obtain ⟨ch, cp⟩ := c
 change cp.length ≤ 1000000 at hc
 have cH := rHas L hL hl ch rt
 simp only at e ⊢
 rw [e] at cH
 refine h60.ca ?_
 refine vq3 @comG.eq_1 @v33 @v32 ?_
 refine cH.mono ?_
 rintro g O' ⟨rfl, rfl⟩
 refine vq0 ?_
 refine Qab (ι := { k : Nat // k ≤ L.length ∧ idxC (L.drop k) ch + k = idxC L ch }) (fun k => ⟨[.ptr 0 rt 0 0, .any, .any, .ref (comG (ch, cp)), .int .i64 (k.1 : Nat)] ++ List.replicate 56 .any, rObj rt L⟩) (fun k => L.length - k.1) ?_ ?_
 · exact Into.first ⟨0, by omega, by simp⟩ ⟨[], by simp⟩ (by simp [WL, leG_self, leG_any, Qaa, comG])
 · rintro ⟨k, hk, he⟩;by_cases h' : k < L.length
   · have d0 : ((k : Int) < (L.length : Int)) = True := eq_true (by omega);have ea := Qa0 L k h';rw [QoZ L ch k h'] at he;obtain ⟨xh, xp, hx⟩ : ∃ xh xp, L.getD k default = (xh, xp) := ⟨_, _, rfl⟩
     rw [hx] at ea he;simp only at he
     have cL := Qne xh.1 ch.1 xh.2 ch.2;cases el : ltB xh.1 ch.1 with
     | true =>
      rw [el, if_pos rfl] at he;rw [el] at cL;refine vq3 d0 ea zb17 ?_;refine ⟨by omega, ?_⟩;refine cL.then ?_ (by rfl)
      refine vq0 ?_;exact Into.at ⟨k + 1, by omega, by omega⟩ (by show L.length - (k + 1) < L.length - k; omega) ⟨[], by simp⟩ (by simp [WL, leG_self, leG_any, Qaa, comG])
     | false =>
      rw [el, if_neg (by simp), Nat.zero_add] at he;rw [el] at cL;have tl : (List.take k L).length = k := by rw [List.length_take]; omega
      have tl3 : (List.drop k (List.take L.length L)).length = L.length - k := by rw [List.take_length, List.length_drop]
      refine vq3 d0 ea zb17 ?_;refine ⟨by omega, ?_⟩;refine cL.then ?_ (by rfl)
      refine vq5 d0 ea tl tl3 zb18 ?_;refine ⟨by omega, by omega, by omega, by omega, by omega, fun s1 => ⟨by omega, by omega, fun s2 => ⟨⟨[_], rfl⟩, by omega, by omega, fun s3 => ⟨by omega, by omega, by omega, ?_, ?_, fun s4 => ⟨s2, s4, ?_⟩⟩⟩⟩⟩
      · rw [List.length_append, Qae, tl]; simp only [List.length_singleton]; omega
      · rw [List.length_append, Qae, tl]; simp only [List.length_singleton]; omega
      · rw [List.take_length, he]
   · have d0 : ((k : Int) < (L.length : Int)) = False := eq_false (by omega);have he : k = idxC L ch := by
      rw [List.drop_of_length_le (by omega)] at he
      rw [← he]; simp [idxC]
     have tl : (List.take k L).length = k := by rw [List.length_take]; omega
     have tl3 : (List.drop k (List.take L.length L)).length = L.length - k := by rw [List.take_length, List.length_drop]
     refine vq4 d0 tl tl3 zb18 ?_;refine ⟨by omega, by omega, by omega, by omega, by omega, fun s1 => ⟨by omega, by omega, fun s2 => ⟨⟨[_], rfl⟩, by omega, by omega, fun s3 => ⟨by omega, by omega, by omega, ?_, ?_, fun s4 => ⟨s2, s4, ?_⟩⟩⟩⟩⟩
     · rw [List.length_append, Qae, tl]; simp only [List.length_singleton]; omega
     · rw [List.length_append, Qae, tl]; simp only [List.length_singleton]; omega
     · rw [List.take_length, he]
theorem Qcc (h : Hs) (l : List Hs) (t : Tag) : GLes (bytesG h.1 ++ [.slice (hsG l) t]) (comG (h, l)) := GLes.app (GLes.refl _) ⟨GLe.none, trivial⟩
theorem rPut1 (L : GM) (hL : SSC L) (hl : L.length ≤ 1000000) (c : Cm) (hc : c.2.length ≤ 1000000) (rt : Nat) (e : (look L c.1).isSome = false) : GCalls Tryz.prog 60 [.ptr 0 rt 0 0, .agg (comG c)] (rObj rt L) (fun g O' => g = .tuple [] ∧ O' = rObj rt (putC L c)) := by
 refine GCalls.frame (Qo0 L hL hl c hc rt e) [0] ⟨⟨_, rfl, .refl _⟩, trivial⟩ (by simp) (GLes.refl _) rfl rfl ?_
 rintro g O' ⟨u, v, rfl, rfl⟩
 refine ⟨_, rObj rt (putC L c), [(false, 0)], ⟨rfl, rfl⟩, GLe.refl _, ⟨⟨_, rfl, OLe.row ⟨⟨GLe.trans GLe.none (GLe.slice ?_), trivial⟩, trivial⟩⟩, trivial⟩, by simp, rfl⟩
 unfold putC
 rw [if_neg (by rw [e]; simp), Qbg, Qbg]
 exact QaS.app (QaS.app (QaS.refl _) ⟨Qcc _ _ _, trivial⟩) (QaS.refl _)
theorem rPut (L : GM) (hL : SSC L) (hl : L.length ≤ 1000000) (c : Cm) (hc : c.2.length ≤ 1000000) (rt : Nat) : GCalls Tryz.prog 60 [.ptr 0 rt 0 0, .agg (comG c)] (rObj rt L) (fun g O' => g = .tuple [] ∧ O' = rObj rt (putC L c)) := by
 cases e : (look L c.1).isSome with
 | true =>
  have := rPut0 L hL hl c hc rt e;unfold putC;rw [if_pos e];exact this
 | false => exact rPut1 L hL hl c hc rt e
def hL (k : Nat) : Hs := hq (UInt8.ofNat (k / 256)) (UInt8.ofNat k) 1
def cL (k : Nat) : Cm := (hL k, if k = 0 then [] else [hL (k - 1)])
def seg (a j : Nat) : List Cm := (List.range j).map fun i => cL (a + i)
abbrev chain (n : Nat) : GM := seg 0 n
def insC : GM → Cm → GM
 | [], c => [c]
 | x :: r, c => if ltB x.1.1 c.1.1 = true then x :: insC r c else c :: x :: r
theorem Qnu : ∀ (L : GM) (c : Cm), L.take (idxC L c.1) ++ [c] ++ L.drop (idxC L c.1) = insC L c
 | [], c => rfl
 | x :: r, c => by
  unfold idxC insC;by_cases e : ltB x.1.1 c.1.1 = true
  · rw [if_pos e, if_pos e, List.take_succ_cons, List.drop_succ_cons, ← Qnu r c]; rfl
  · rw [if_neg e, if_neg e]; rfl
theorem Qgu : ∀ (L : GM) (c z : Cm), z ∈ insC L c ↔ z ∈ L ∨ z = c
 | [], c, z => by simp [insC]
 | x :: r, c, z => by
  unfold insC;split
  · simp only [List.mem_cons, Qgu r c z, or_assoc]
  · simp only [List.mem_cons];constructor
    · rintro (h | h)
      · exact .inr h
      · exact .inl h
    · rintro (h | h)
      · exact .inr h
      · exact .inl h
theorem Qi0 : ∀ (L : GM) (c : Cm), (insC L c).length = L.length + 1
 | [], c => rfl
 | x :: r, c => by
  unfold insC; split
  · rw [List.length_cons, Qi0 r c, List.length_cons]
  · rfl
theorem Qgv {α : Type} {m : List (Hs × α)} {h : Hs} (e : look m h = none) : ∀ x ∈ m, x.1 ≠ h := fun x hx q => by
 have := QbE (m := m) (x := h) (List.mem_map.2 ⟨x, hx, q⟩)
 rw [e] at this; cases this
theorem QlA : ∀ {L : GM} (c : Cm), SSC L → (∀ x ∈ L, x.1 ≠ c.1) → SSC (insC L c)
 | [], c, _, _ => by simp [insC, SSC]
 | x :: r, c, hs, hn => by
  unfold insC;obtain ⟨h1, h2⟩ := List.pairwise_cons.1 hs;split
  · rename_i e;refine List.pairwise_cons.2 ⟨fun z hz => ?_, QlA c h2 fun y hy => hn y (by simp [hy])⟩;rcases (Qgu r c z).1 hz with q | rfl
    · exact h1 z q
    · exact e
  · rename_i e;have hx : LT c.1 x.1 := LT.total (by cases q : ltB x.1.1 c.1.1 with | true => exact absurd q e | false => rfl) (hn x (by simp));refine List.pairwise_cons.2 ⟨fun z hz => ?_, hs⟩;rcases List.mem_cons.1 hz with rfl | q
    · exact hx
    · exact hx.trans (h1 z q)
theorem Qi1 : ∀ (L : GM) (c : Cm) (h : Hs), look L c.1 = none → look (insC L c) h = if h = c.1 then some c.2 else look L h
 | [], c, h, _ => rfl
 | x :: r, c, h, e => by
  rw [look] at e;by_cases q : c.1 = x.1
  · rw [if_pos q] at e; cases e
  · rw [if_neg q] at e;unfold insC;split
    · rw [look, Qi1 r c h e, look];by_cases p : h = x.1
      · rw [if_pos p, if_neg (c := h = c.1) (fun w => q (w.symm.trans p)), if_pos p]
      · rw [if_neg p, if_neg p]
    · rw [look]
theorem Qeh {L : GM} {c : Cm} (e : look L c.1 = none) : putC L c = insC L c := by
 unfold putC
 rw [e, if_neg (by simp), Qnu]
theorem Qei {L : GM} {c : Cm} {l : List Hs} (e : look L c.1 = some l) : putC L c = L := by
 unfold putC
 rw [if_pos (by rw [e]; rfl)]
theorem QpH {L : GM} (c : Cm) (h : SSC L) : SSC (putC L c) := by
 cases e : look L c.1 with
 | none => rw [Qeh e]; exact QlA c h (Qgv e)
 | some l => rw [Qei e]; exact h
theorem Qm8 (L : GM) (c : Cm) : (putC L c).length ≤ L.length + 1 := by
 cases e : look L c.1 with
 | none => rw [Qeh e, Qi0]; exact Nat.le_refl _
 | some l => rw [Qei e]; omega
theorem QlB (L : GM) (c : Cm) (h : Hs) : look (putC L c) h = if (look L c.1).isSome = true then look L h else if h = c.1 then some c.2 else look L h := by
 cases e : look L c.1 with
 | none => rw [Qeh e, Qi1 L c h e]; rfl
 | some l => rw [Qei e]; rfl
theorem Qm9 {L : GM} {c : Cm} {n : Nat} (h : ∀ p ∈ L, p.2.length ≤ n) (hc : c.2.length ≤ n) : ∀ p ∈ putC L c, p.2.length ≤ n := fun p hp => by
 cases e : look L c.1 with
 | none =>
  rw [Qeh e] at hp;rcases (Qgu L c p).1 hp with q | rfl
  · exact h p q
  · exact hc
 | some l => rw [Qei e] at hp; exact h p hp
def QbW (L : GM) (cs : List Cm) : GM := cs.foldl putC L
theorem QfD (L : GM) (cs : List Cm) (k : Nat) (h : k < cs.length) : QbW L (cs.take (k + 1)) = putC (QbW L (cs.take k)) (cs.getD k default) := by
 unfold QbW
 rw [Qo7 h, List.foldl_append]; rfl
theorem Qec : ∀ (cs : List Cm) {L : GM}, SSC L → SSC (QbW L cs)
 | [], L, h => h
 | c :: r, L, h => Qec r (QpH c h)
theorem QeS : ∀ (cs : List Cm) (L : GM), (QbW L cs).length ≤ L.length + cs.length
 | [], L => by simp [QbW]
 | c :: r, L => by
  have := QeS r (putC L c);have := Qm8 L c;show (QbW (putC L c) r).length ≤ _;rw [List.length_cons]; omega
theorem Qe2 {n : Nat} : ∀ (cs : List Cm) {L : GM}, (∀ p ∈ L, p.2.length ≤ n) → (∀ c ∈ cs, c.2.length ≤ n) → ∀ p ∈ QbW L cs, p.2.length ≤ n
 | [], L, h, _ => h
 | c :: r, L, h, hc => Qe2 r (Qm9 h (hc c (by simp))) fun x hx => hc x (by simp [hx])
theorem QcA {L : GM} (h : SSC L) : (L.map (·.1)).Nodup := by
 rw [List.nodup_iff_pairwise_ne, List.pairwise_map]
 exact h.imp fun q e => by rw [e] at q; exact LT.irrefl _ q
theorem Qgn {m M X : GM} {c : Cm} (h : QaX m X) (e : Qcm m c = .ok M) : QaX M (putC X c) := by
 unfold Qcm at e
 intro x
 rw [QlB, ← h c.1, ← h x]
 cases el : look m c.1 with
 | some l =>
  simp only [el] at e;split at e
  · cases e; rfl
  · cases e
 | none =>
  simp only [el] at e;cases e;rw [look_mset]; rfl
theorem Qhn : ∀ {cs : List Cm} {m M X : GM}, QaX m X → QaI m cs = .ok M → QaX M (QbW X cs)
 | [], m, M, X, h, e => by rw [QaI] at e; cases e; exact h
 | c :: r, m, M, X, h, e => by
  rw [QaI] at e;split at e
  · rename_i m' e1;exact Qhn (cs := r) (Qgn h e1) e
  · cases e
theorem QdX (l : List Hs) : (sortR l).length ≤ l.length :=
 Qaz _ _ (Qgl (sortR_ss l)) fun x hx => (sortR_mem l x).1 hx
theorem Qhp (l : List Hs) : Qdv l = true ↔ ¬ l.Nodup := by
 unfold Qdv
 rw [decide_eq_true_eq]
 constructor
 · intro h n;have := Qaz l (sortR l) n fun x hx => (sortR_mem l x).2 hx
   omega
 · intro h;refine Nat.lt_of_not_le fun q => h ?_;have hs := Qgl (sortR_ss l);have hle := QdX l;have key : ∀ (a b : List Hs), a.Nodup → (∀ x ∈ a, x ∈ b) → b.length ≤ a.length → b.Nodup := by
    intro a;induction a with
    | nil => intro b _ _ hb; have : b = [] := List.length_eq_zero_iff.1 (by simpa using hb); rw [this]; exact List.nodup_nil
    | cons x r ih =>
     intro b hn hs hb;obtain ⟨h1, h2⟩ := List.nodup_cons.1 hn;obtain ⟨p, q, rfl⟩ := List.append_of_mem (hs x (by simp));have h3 : (p ++ q).Nodup := ih (p ++ q) h2 (fun y hy => by
      have := hs y (by simp [hy]);have hne : y ≠ x := fun e => h1 (e ▸ hy)
      simp at this ⊢;rcases this with t | t | t
      · exact .inl t
      · exact absurd t hne
      · exact .inr t) (by simp at hb ⊢; omega)
     have hx : x ∉ p ++ q := fun hm => by
      have hlen : (x :: r).length ≤ (p ++ q).length := Qaz _ _ hn fun y hy => by
       have := hs y hy;simp at this hm ⊢;rcases this with t | t | t
       · exact .inl t
       · rw [t]; exact hm
       · exact .inr t
      simp at hlen hb;omega
     rw [List.nodup_append] at h3;rw [List.nodup_append, List.nodup_cons];simp at hx;refine ⟨h3.1, ⟨hx.2, h3.2.1⟩, fun a ha b hb => ?_⟩;rcases List.mem_cons.1 hb with e | e
     · rw [e]; exact fun w => hx.1 (w ▸ ha)
     · exact h3.2.2 a ha b e
   exact key (sortR l) l hs (fun x hx => (sortR_mem l x).1 hx) q
def QeL (m : GM) : List Hs := sortR (m.map (·.1))
theorem QeM (m : GM) (z : Hs) : z ∈ QeL m ↔ (look m z).isSome = true := by
 unfold QeL
 rw [sortR_mem]
 exact ⟨QbE, QbF⟩
theorem QkP {m : GM} (h : (m.map (·.1)).Nodup) : (QeL m).length ≤ m.length := by
 unfold QeL
 have := QdX (m.map (·.1))
 rw [List.length_map] at this
 exact this
def UpL (m : GM) : List Hs → List Hs → Prop
 | _, [] => True
 | acc, x :: r => (∀ y ∈ parsM m x, y ∈ acc) ∧ UpL m (acc ++ [x]) r
theorem UpL.app {m : GM} : ∀ (a b acc : List Hs), UpL m acc (a ++ b) ↔ UpL m acc a ∧ UpL m (acc ++ a) b
 | [], b, acc => by simp [UpL]
 | x :: r, b, acc => by
  rw [List.cons_append, UpL, UpL, UpL.app r b (acc ++ [x]), and_assoc];simp
theorem UpL.filter {m : GM} (p : Hs → Bool) : ∀ (l acc acc' : List Hs), (∀ y ∈ acc, y ∈ acc') → (∀ y ∈ l, p y = false → y ∈ acc') → UpL m acc l → UpL m acc' (l.filter p)
 | [], _, _, _, _, _ => trivial
 | x :: r, acc, acc', h1, h2, h => by
  rw [UpL] at h;rw [List.filter_cons];cases hp : p x with
  | true =>
   rw [if_pos rfl, UpL];refine ⟨fun y hy => h1 y (h.1 y hy), UpL.filter p r _ _ (fun y hy => ?_) (fun y hy hpy => List.mem_append_left _ (h2 y (by simp [hy]) hpy)) h.2⟩;rcases List.mem_append.1 hy with q | q
   · exact List.mem_append_left _ (h1 y q)
   · exact List.mem_append_right _ q
  | false =>
   rw [if_neg (by simp)];refine UpL.filter p r _ _ (fun y hy => ?_) (fun y hy hpy => h2 y (by simp [hy]) hpy) h.2;rcases List.mem_append.1 hy with q | q
   · exact h1 y q
   · rw [List.mem_singleton.1 q]; exact h2 x (by simp) hp
theorem UpL.of {m : GM} {T acc : List Hs} (h : ∀ (i : Nat) x, T[i]? = some x → ∀ y ∈ parsM m x, y ∈ acc ∨ y ∈ T.take i) : UpL m acc T := by
 have : ∀ b a : List Hs, T = a ++ b → UpL m (acc ++ a) b := by
  intro b;induction b with
  | nil => exact fun _ _ => trivial
  | cons x r ih =>
   intro a e;rw [UpL];refine ⟨fun y hy => ?_, ?_⟩
   · have hx : T[a.length]? = some x := by rw [e, List.getElem?_append_right (Nat.le_refl _), Nat.sub_self]; rfl
     have ht : T.take a.length = a := by rw [e]; exact List.take_left
     have := h a.length x hx y hy;rw [ht] at this;exact List.mem_append.2 this
   · rw [List.append_assoc];exact ih (a ++ [x]) (by rw [e]; simp)
 have := this T [] rfl
 rwa [List.append_nil] at this
theorem UpL.at_ {m : GM} : ∀ {l acc : List Hs}, UpL m acc l → ∀ (i : Nat) (x : Hs), l[i]? = some x → ∀ y ∈ parsM m x, y ∈ acc ++ l.take i
 | [], acc, _, i, x, hi, y, hy => by simp at hi
 | z :: r, acc, h, 0, x, hi, y, hy => by
  simp at hi; subst hi;rw [UpL] at h
  simpa using h.1 y hy
 | z :: r, acc, h, i + 1, x, hi, y, hy => by
  rw [UpL] at h;have := UpL.at_ h.2 i x (by simpa using hi) y hy
  simpa using this
theorem UpL.congr {m m1 : GM} : ∀ (l acc : List Hs), (∀ x ∈ l, parsM m1 x = parsM m x) → UpL m acc l → UpL m1 acc l
 | [], _, _, _ => trivial
 | x :: r, acc, h, hu => by
  rw [UpL] at hu ⊢;rw [h x (by simp)];exact ⟨hu.1, UpL.congr r _ (fun y hy => h y (by simp [hy])) hu.2⟩
structure Qgh (m : GM) (M O : List Hs) : Prop where
 nd : (M ++ O).Nodup
 all : ∀ x, x ∈ M ++ O ↔ (look m x).isSome = true
 up : UpL m [] (M ++ O)
theorem Qgi {l : List Hs} {b : Int} {a : List (Hs × Int)} {x : Hs} : ∀ {k : Nat}, k ≤ l.length → x ∉ l.take k → look (numK l b a k) x = look a x
 | 0, _, _ => rfl
 | k + 1, hk, hx => by
  rw [takeH (by omega)] at hx;simp only [List.mem_append, List.mem_singleton, not_or] at hx;rw [numK, look_mset, if_neg hx.2];exact Qgi (by omega) hx.1
theorem Qpc {l : List Hs} {j : Nat} {x : Hs} (h : l[j]? = some x) : l.getD j h0 = x := by simp [List.getD, h]
theorem Qia {l : List Hs} {b : Int} {a : List (Hs × Int)} (hn : l.Nodup) {j : Nat} {x : Hs} (hx : l[j]? = some x) : ∀ {k : Nat}, j < k → k ≤ l.length → look (numK l b a k) x = some (b + j)
 | 0, h, _ => by omega
 | k + 1, h, hk => by
  rw [numK, look_mset];by_cases e : j = k
  · subst e;rw [if_pos (Qpc hx).symm]
  · have hne : x ≠ l.getD k h0 := fun q => by
     have h2 : l[k]? = some x := by
      rw [List.getElem?_eq_getElem (by omega)];rw [List.getD_eq_getElem?_getD, List.getElem?_eq_getElem (by omega)] at q;exact congrArg some q.symm
     exact e (QmH hn hx h2)
    rw [if_neg hne];exact Qia hn hx (by omega) (by omega)
theorem id_m {M O : List Hs} (hn : (M ++ O).Nodup) {j : Nat} {x : Hs} (hx : M[j]? = some x) : look (ofM M O) x = some (j : Int) := by
 obtain ⟨h1, h2, h3⟩ := List.nodup_append.1 hn
 have hxM : x ∈ M := List.mem_of_getElem? hx
 rw [ofM, Qgi (Nat.le_refl _) (fun q => by rw [List.take_length] at q; exact h3 x hxM x q rfl), Qia h1 hx (List.getElem?_eq_some_iff.1 hx).1 (Nat.le_refl _), Int.zero_add]
theorem id_o {M O : List Hs} (hn : (M ++ O).Nodup) {j : Nat} {x : Hs} (hx : O[j]? = some x) : look (ofM M O) x = some (1099511627776 + (j : Int)) := by
 obtain ⟨h1, h2, h3⟩ := List.nodup_append.1 hn
 rw [ofM, Qia h2 hx (List.getElem?_eq_some_iff.1 hx).1 (Nat.le_refl _)]
theorem Qpd {M O : List Hs} {x : Hs} (hx : x ∉ M ++ O) : look (ofM M O) x = none := by
 simp only [List.mem_append, not_or] at hx
 rw [ofM, Qgi (Nat.le_refl _) (by rw [List.take_length]; exact hx.2), Qgi (Nat.le_refl _) (by rw [List.take_length]; exact hx.1)]
 rfl
theorem QkT {M O : List Hs} (hn : (M ++ O).Nodup) (x : Hs) : (look (ofM M O) x).isSome = decide (x ∈ M ++ O) := by
 by_cases h : x ∈ M ++ O
 · rw [decide_eq_true h];rcases List.mem_append.1 h with q | q
   · obtain ⟨j, hj⟩ := List.getElem?_of_mem q;rw [id_m hn hj]; rfl
   · obtain ⟨j, hj⟩ := List.getElem?_of_mem q;rw [id_o hn hj]; rfl
 · rw [decide_eq_false h, Qpd h]; rfl
theorem Qdt {M O : List Hs} (hn : (M ++ O).Nodup) (hl : M.length ≤ 1000000) (x : Hs) : Qar (ofM M O) x = decide (x ∈ M) := by
 unfold Qar
 by_cases h : x ∈ M
 · obtain ⟨j, hj⟩ := List.getElem?_of_mem h;have := (List.getElem?_eq_some_iff.1 hj).1;rw [decide_eq_true h, id_m hn hj];exact decide_eq_true (by show (j : Int) < 1099511627776; omega)
 · rw [decide_eq_false h];by_cases h2 : x ∈ O
   · obtain ⟨j, hj⟩ := List.getElem?_of_mem h2;rw [id_o hn hj];exact decide_eq_false (by show ¬ (1099511627776 + (j : Int)) < 1099511627776; omega)
   · rw [Qpd (by simp [h, h2])]
theorem QfF {m : GM} {M : List Hs} (hu : UpL m [] M) {z y : Hs} (hz : z ∈ M) (hy : y ∈ parsM m z) : y ∈ M := by
 obtain ⟨i, hi⟩ := List.getElem?_of_mem hz
 have := hu.at_ i z hi y hy
 rw [List.nil_append] at this
 exact List.mem_of_mem_take this
theorem QmJ {m m1 : GM} {M O : List Hs} (h : Qgh m M O) (hg1 : Good m1) (hext : ∀ x l, look m x = some l → look m1 x = some l) {gr : Int} {hs : List Hs} {cs : List Cm}
 (hcs : ∀ x, (look m1 x).isSome = true → (look m x).isSome = true ∨ x ∈ cs.map (·.1)) {M1 O1 : List Hs} (hMl : M.length ≤ 1000000)
 (hcase : (gr ≠ 1 ∧ M1 = M ∧ O1 = O) ∨ (gr = 1 ∧ ∃ T1 : WSt, VisL m1 (Qar (ofM M O)) hs ([], []) T1 ∧ M1 = M ++ T1.2 ∧ O1 = woL O T1.2))
 {T2 : WSt} (hT2 : VisL m1 (fun h => (look (ofM M1 O1) h).isSome) (hs ++ cs.map (·.1)) ([], []) T2) :
 Qgh m1 M1 (O1 ++ T2.2) ∧ ∀ x, x ∈ M1 ↔ x ∈ M ∨ (gr = 1 ∧ Reach (parsM m1) (inM m1 hs) x) := by
 have hth : ∀ x, (look m x).isSome = true → (look m1 x).isSome = true ∧ parsM m1 x = parsM m x := fun x hx => by
  obtain ⟨l, hl⟩ := Option.isSome_iff_exists.1 hx;exact ⟨by rw [hext x l hl]; rfl, by rw [parsM_some hl, parsM_some (hext x l hl)]⟩
 have up1 : UpL m1 [] (M ++ O) := UpL.congr _ _ (fun x hx => (hth x ((h.all x).1 hx)).2) h.up
 obtain ⟨upM, upO⟩ := (UpL.app M O []).1 up1
 rw [List.nil_append] at upO
 obtain ⟨nM, nO, nMO⟩ := List.nodup_append.1 h.nd
 have key : (M1 ++ O1).Nodup ∧ (∀ x ∈ M1 ++ O1, (look m1 x).isSome = true) ∧ UpL m1 [] (M1 ++ O1) ∧ (∀ x ∈ M ++ O, x ∈ M1 ++ O1) ∧ ∀ x, x ∈ M1 ↔ x ∈ M ∨ (gr = 1 ∧ Reach (parsM m1) (inM m1 hs) x) := by
  rcases hcase with ⟨hg, rfl, rfl⟩ | ⟨hg, T1, hT1, rfl, rfl⟩
  · exact ⟨h.nd, fun x hx => (hth x ((h.all x).1 hx)).1, up1, fun x hx => hx, fun x => ⟨.inl, fun q => q.elim id fun e => absurd e.1 hg⟩⟩
  · obtain ⟨_, t1, t2, t3, t4⟩ := Qhd hg1.acyc hT1;have hmb : ∀ x, Qar (ofM M O) x = decide (x ∈ M) := Qdt h.nd hMl;have tM : ∀ x ∈ T1.2, x ∉ M := fun x hx q => by
     have := (t2 x hx).2.1;rw [hmb, decide_eq_true q] at this; cases this
    have hwo : ∀ x, x ∈ woL O T1.2 ↔ x ∈ O ∧ x ∉ T1.2 := fun x => by unfold woL; rw [List.mem_filter]; simp
    refine ⟨?_, fun x hx => ?_, ?_, fun x hx => ?_, fun x => ?_⟩
    · rw [List.nodup_append, List.nodup_append];refine ⟨⟨nM, t1, fun a ha b hb e => tM b hb (e ▸ ha)⟩, nO.sublist List.filter_sublist, fun a ha b hb e => ?_⟩;obtain ⟨q1, q2⟩ := (hwo b).1 hb;rcases List.mem_append.1 ha with q | q
      · exact nMO a q b q1 e
      · exact q2 (e ▸ q)
    · rcases List.mem_append.1 hx with q | q
      · rcases List.mem_append.1 q with q | q
        · exact (hth x ((h.all x).1 (List.mem_append_left _ q))).1
        · exact (t2 x q).1
      · exact (hth x ((h.all x).1 (List.mem_append_right _ ((hwo x).1 q).1))).1
    · rw [UpL.app, UpL.app];rw [List.nil_append, List.nil_append];refine ⟨⟨upM, UpL.of fun i x hi y hy => ?_⟩, ?_⟩
      · by_cases q : y ∈ M
        · exact .inl q
        · exact .inr (t4 i x hi y hy (hg1.closed x y hy) (by rw [hmb]; exact decide_eq_false q))
      · exact UpL.filter _ O M _ (fun y hy => List.mem_append_left _ hy) (fun y _ hp => List.mem_append_right _ (by simpa using hp)) upO
    · by_cases q : x ∈ T1.2
      · exact List.mem_append_left _ (List.mem_append_right _ q)
      · rcases List.mem_append.1 hx with r | r
        · exact List.mem_append_left _ (List.mem_append_left _ r)
        · exact List.mem_append_right _ ((hwo x).2 ⟨r, q⟩)
    · rw [List.mem_append];constructor
      · rintro (q | q)
        · exact .inl q
        · obtain ⟨a, _, c⟩ := t2 x q;exact .inr ⟨hg, c.inM a⟩
      · rintro (q | ⟨_, q⟩)
        · exact .inl q
        · induction q with
          | base x hx =>
           obtain ⟨a, b⟩ := List.mem_filter.1 hx;by_cases q : x ∈ M
           · exact .inl q
           · exact .inr (t3 x a b (by rw [hmb]; exact decide_eq_false q))
          | step z y _ hy ih =>
           rcases ih with r | r
           · exact .inl (QfF upM r hy)
           · by_cases q : y ∈ M
             · exact .inl q
             · obtain ⟨i, hi⟩ := List.getElem?_of_mem r;exact .inr (List.mem_of_mem_take (t4 i z hi y hy (hg1.closed z y hy) (by rw [hmb]; exact decide_eq_false q)))
 obtain ⟨k1, k2, k3, k4, k5⟩ := key
 refine ⟨?_, k5⟩
 obtain ⟨_, t1, t2, t3, t4⟩ := Qhd hg1.acyc hT2
 have hdn : ∀ x, (look (ofM M1 O1) x).isSome = decide (x ∈ M1 ++ O1) := QkT k1
 have tN : ∀ x ∈ T2.2, x ∉ M1 ++ O1 := fun x hx q => by
  have := (t2 x hx).2.1;rw [hdn, decide_eq_true q] at this; cases this
 refine ⟨?_, fun x => ?_, ?_⟩
 · rw [← List.append_assoc, List.nodup_append];exact ⟨k1, t1, fun a ha b hb e => tN b hb (e ▸ ha)⟩
 · rw [← List.append_assoc, List.mem_append];constructor
   · rintro (q | q)
     · exact k2 x q
     · exact (t2 x q).1
   · intro hx;by_cases q : x ∈ M1 ++ O1
     · exact .inl q
     · rcases hcs x hx with r | r
       · exact absurd (k4 x ((h.all x).2 r)) q
       · exact .inr (t3 x (List.mem_append_right _ r) hx (by rw [hdn]; exact decide_eq_false q))
 · rw [← List.append_assoc, UpL.app, List.nil_append];refine ⟨k3, UpL.of fun i x hi y hy => ?_⟩;by_cases q : y ∈ M1 ++ O1
   · exact .inl q
   · exact .inr (t4 i x hi y hy (hg1.closed x y hy) (by rw [hdn]; exact decide_eq_false q))
end Gv.Tryz
namespace Gv.Sp
open Gv
abbrev S := Int × Int
def has (l : List S) (n : Int) : Prop := ∃ s ∈ l, 0 ≤ n ∧ s.1 ≤ n ∧ n ≤ s.2
theorem has_nil (n : Int) : has [] n ↔ False := by simp [has]
theorem has_cons (s : S) (l : List S) (n : Int) : has (s :: l) n ↔ (0 ≤ n ∧ s.1 ≤ n ∧ n ≤ s.2) ∨ has l n := by simp [has]
theorem has_app (a b : List S) (n : Int) : has (a ++ b) n ↔ has a n ∨ has b n := by
 induction a with
 | nil => simp [has_nil]
 | cons s r ih => rw [List.cons_append, has_cons, has_cons, ih, or_assoc]
theorem has_perm {a b : List S} (h : a.Perm b) (n : Int) : has a n ↔ has b n := by
 simp only [has, h.mem_iff]
def Rt : Int → List S → Prop
 | _, [] => True
 | b, s :: r => b ≤ s.1 ∧ s.1 ≤ s.2 ∧ Rt (s.2 + 2) r
theorem Rt.weak {b b' : Int} : ∀ {l : List S}, Rt b l → b' ≤ b → Rt b' l
 | [], _, _ => trivial
 | s :: r, ⟨h1, h2, h3⟩, h => ⟨by omega, h2, h3⟩
theorem Rt.ge {n : Int} : ∀ {l : List S} {b : Int}, Rt b l → has l n → b ≤ n
 | [], b, _, h => by simp [has] at h
 | s :: r, b, ⟨h1, h2, h3⟩, h => by
  rcases (has_cons s r n).1 h with h | h
  · omega
  · have := h3.ge h; omega
theorem Rt.mem {s : S} : ∀ {l : List S} {b : Int}, Rt b l → s ∈ l → b ≤ s.1 ∧ s.1 ≤ s.2
 | [], b, _, h => by simp at h
 | x :: r, b, ⟨h1, h2, h3⟩, h => by
  rcases List.mem_cons.1 h with rfl | h
  · exact ⟨h1, h2⟩
  · have := h3.mem h; omega
theorem Rt.lo {s : S} {l : List S} {b : Int} (h : Rt b l) (hb : 0 ≤ b) (hs : s ∈ l) : has l s.1 := ⟨s, hs, by have := h.mem hs; omega⟩
theorem Rt.hi {s : S} {l : List S} {b : Int} (h : Rt b l) (hb : 0 ≤ b) (hs : s ∈ l) : has l s.2 := ⟨s, hs, by have := h.mem hs; omega⟩
theorem uniq : ∀ {l l' : List S} {b b' : Int}, Rt b l → Rt b' l' → 0 ≤ b → 0 ≤ b' → (∀ n, has l n ↔ has l' n) → l = l'
 | [], [], _, _, _, _, _, _, _ => rfl
 | [], y :: r, _, b', _, h', _, h0', h => absurd ((h y.1).2 (h'.lo h0' (by simp))) (by simp [has])
 | x :: r, [], b, _, h', _, h0', _, h => absurd ((h x.1).1 (h'.lo h0' (by simp))) (by simp [has])
 | (x1, x2) :: r, (y1, y2) :: q, b, b', hx, hy, hb, hb', h => by
  have e1 : has ((y1, y2) :: q) x1 := (h _).1 (hx.lo hb (s := (x1, x2)) (by simp));have e2 : has ((x1, x2) :: r) y1 := (h _).2 (hy.lo hb' (s := (y1, y2)) (by simp));obtain ⟨p1, p2, p3⟩ := hx;obtain ⟨q1, q2, q3⟩ := hy;simp only at p1 p2 p3 q1 q2 q3
  have g1 : y1 ≤ x1 := by
   rcases (has_cons _ _ _).1 e1 with e | e
   · exact e.2.1
   · have := q3.ge e; omega
  have g2 : x1 ≤ y1 := by
   rcases (has_cons _ _ _).1 e2 with e | e
   · exact e.2.1
   · have := p3.ge e; omega
  have g : x1 = y1 := by omega
  have k1 : ¬ x2 < y2 := fun hlt => by
   have e := (h (x2 + 1)).2 ((has_cons _ _ _).2 (.inl ⟨by omega, by show y1 ≤ _; omega, by show _ ≤ y2; omega⟩));rcases (has_cons _ _ _).1 e with e | e
   · have := e.2.2; simp only at this; omega
   · have := p3.ge e; omega
  have k2 : ¬ y2 < x2 := fun hlt => by
   have e := (h (y2 + 1)).1 ((has_cons _ _ _).2 (.inl ⟨by omega, by show x1 ≤ _; omega, by show _ ≤ x2; omega⟩));rcases (has_cons _ _ _).1 e with e | e
   · have := e.2.2; simp only at this; omega
   · have := q3.ge e; omega
  have k : x2 = y2 := by omega
  subst g; subst k;have hr : ∀ n, has r n ↔ has q n := fun n => by
   constructor
   · intro hn;rcases (has_cons _ _ _).1 ((h n).1 ((has_cons _ _ _).2 (.inr hn))) with e | e
     · have := p3.ge hn; have := e.2.2; simp only at this; omega
     · exact e
   · intro hn;rcases (has_cons _ _ _).1 ((h n).2 ((has_cons _ _ _).2 (.inr hn))) with e | e
     · have := q3.ge hn; have := e.2.2; simp only at this; omega
     · exact e
  rw [uniq p3 q3 (by omega) (by omega) hr]
theorem Rt_snoc (x : S) : ∀ (A : List S) (b : Int), Rt b (A ++ [x]) ↔ Rt b A ∧ b ≤ x.1 ∧ x.1 ≤ x.2 ∧ ∀ y ∈ A, y.2 + 2 ≤ x.1
 | [], b => by simp [Rt]
 | y :: r, b => by
  rw [List.cons_append];show b ≤ y.1 ∧ y.1 ≤ y.2 ∧ Rt (y.2 + 2) (r ++ [x]) ↔ (b ≤ y.1 ∧ y.1 ≤ y.2 ∧ Rt (y.2 + 2) r) ∧ _;rw [Rt_snoc x r];constructor
  · rintro ⟨h1, h2, h3, h4, h5, h6⟩;exact ⟨⟨h1, h2, h3⟩, by omega, h5, fun z hz => by
     rcases List.mem_cons.1 hz with rfl | hz
     · exact h4
     · exact h6 z hz⟩
  · rintro ⟨⟨h1, h2, h3⟩, h4, h5, h6⟩;exact ⟨h1, h2, h3, h6 y (by simp), h5, fun z hz => h6 z (by simp [hz])⟩
def ins : List S → S → List S
 | [], s => [s]
 | x :: r, s => if x.2 + 1 < s.1 then x :: ins r s else if s.2 + 1 < x.1 then s :: x :: r else ins r (min s.1 x.1, max s.2 x.2)
theorem Qlc : ∀ (l : List S) (s : S) (b : Int), Rt b l → b ≤ s.1 → s.1 ≤ s.2 → Rt b (ins l s)
 | [], s, b, _, h1, h2 => ⟨h1, h2, trivial⟩
 | x :: r, s, b, ⟨p1, p2, p3⟩, h1, h2 => by
  unfold ins;split
  · exact ⟨p1, p2, Qlc r s _ p3 (by omega) h2⟩
  · split
    · exact ⟨h1, h2, by omega, p2, p3⟩
    · exact Qlc r _ b (p3.weak (by omega)) (by show _ ≤ min _ _; omega) (by show min _ _ ≤ max _ _; omega)
theorem Qif (n : Int) : ∀ (l : List S) (s : S) (b : Int), Rt b l → s.1 ≤ s.2 → (has (ins l s) n ↔ has l n ∨ (0 ≤ n ∧ s.1 ≤ n ∧ n ≤ s.2))
 | [], s, b, _, _ => by simp [ins, has_cons, has_nil]
 | x :: r, s, b, ⟨p1, p2, p3⟩, h2 => by
  unfold ins;split
  · rw [has_cons, Qif n r s _ p3 h2, has_cons, or_assoc]
  · split
    · rw [has_cons s, or_comm]
    · rw [Qif n r _ _ p3 (by show min _ _ ≤ max _ _; omega), has_cons];constructor
      · rintro (h | ⟨q1, q2, q3⟩)
        · exact .inl (.inr h)
        · simp only at q2 q3
          by_cases e : s.1 ≤ n ∧ n ≤ s.2
          · exact .inr ⟨q1, e⟩
          · exact .inl (.inl ⟨q1, by omega, by omega⟩)
      · rintro ((⟨q1, q2, q3⟩ | h) | ⟨q1, q2, q3⟩)
        · exact .inr ⟨q1, by show min _ _ ≤ _; omega, by show _ ≤ max _ _; omega⟩
        · exact .inl h
        · exact .inr ⟨q1, by show min _ _ ≤ _; omega, by show _ ≤ max _ _; omega⟩
theorem ins_len : ∀ (l : List S) (s : S), (ins l s).length ≤ l.length + 1
 | [], s => by simp [ins]
 | x :: r, s => by
  unfold ins;split
  · have := ins_len r s; simp; omega
  · split
    · simp
    · have := ins_len r (min s.1 x.1, max s.2 x.2); simp; omega
def put (acc : List S) (s : S) : List S := if max s.1 0 ≤ s.2 then ins acc (max s.1 0, s.2) else acc
def nfA (acc : List S) : List S → List S
 | [] => acc
 | s :: r => nfA (put acc s) r
def nf (l : List S) : List S := nfA [] l
theorem put_rt {acc : List S} (s : S) (h : Rt 0 acc) : Rt 0 (put acc s) := by
 unfold put; split
 · exact Qlc _ _ _ h (by show _ ≤ max _ _; omega) (by assumption)
 · exact h
theorem put_has {acc : List S} (s : S) (h : Rt 0 acc) (n : Int) : has (put acc s) n ↔ has acc n ∨ (0 ≤ n ∧ s.1 ≤ n ∧ n ≤ s.2) := by
 unfold put; split
 · rw [Qif n _ _ _ h (by assumption)];constructor
   · rintro (q | ⟨q1, q2, q3⟩)
     · exact .inl q
     · exact .inr ⟨q1, by simp only at q2; omega, q3⟩
   · rintro (q | ⟨q1, q2, q3⟩)
     · exact .inl q
     · exact .inr ⟨q1, by show max _ _ ≤ _; omega, q3⟩
 · constructor
   · exact .inl
   · rintro (q | ⟨q1, q2, q3⟩)
     · exact q
     · omega
theorem Qnr : ∀ (l acc : List S), Rt 0 acc → Rt 0 (nfA acc l)
 | [], acc, h => h
 | s :: r, acc, h => Qnr r _ (put_rt s h)
theorem Qld (n : Int) : ∀ (l acc : List S), Rt 0 acc → (has (nfA acc l) n ↔ has acc n ∨ has l n)
 | [], acc, h => by simp [nfA, has_nil]
 | s :: r, acc, h => by
  show has (nfA (put acc s) r) n ↔ _;rw [Qld n r _ (put_rt s h), put_has s h, has_cons, or_assoc]
theorem Qpq (l : List S) : Rt 0 (nf l) := Qnr l [] trivial
theorem nf_has (l : List S) (n : Int) : has (nf l) n ↔ has l n := by rw [nf, Qld n l [] trivial, has_nil, false_or]
theorem Qle : ∀ (l acc : List S), (nfA acc l).length ≤ acc.length + l.length
 | [], acc => by simp [nfA]
 | s :: r, acc => by
  have h := Qle r (put acc s);have : (put acc s).length ≤ acc.length + 1 := by
   unfold put; split
   · exact ins_len _ _
   · omega
  show (nfA (put acc s) r).length ≤ _;simp; omega
theorem nf_len (l : List S) : (nf l).length ≤ l.length := by have := Qle l []; simpa [nf] using this
theorem nf_eq {l r : List S} (h : Rt 0 r) (hn : ∀ n, has r n ↔ has l n) : nf l = r := uniq (Qpq l) h (by omega) (by omega) fun n => by rw [nf_has, hn]
theorem nf_congr {a b : List S} (h : ∀ n, has a n ↔ has b n) : nf a = nf b := nf_eq (Qpq b) fun n => by rw [nf_has, h]
def Ok (l : List S) : Prop := ∀ s ∈ l, (-9223372036854775808 ≤ s.1 ∧ s.1 ≤ 9223372036854775807) ∧ (-9223372036854775808 ≤ s.2 ∧ s.2 ≤ 9223372036854775807)
theorem Ok.has {l : List S} (h : Ok l) {n : Int} (hn : has l n) : n ≤ 9223372036854775807 := by obtain ⟨s, hs, h1, h2, h3⟩ := hn; have := (h s hs).2.2; omega
theorem ok_of {l : List S} {b : Int} (h : Rt b l) (hb : 0 ≤ b) (hn : ∀ n, Sp.has l n → n ≤ 9223372036854775807) : Ok l := fun s hs => by
 have h1 := h.mem hs
 have h2 := hn _ (h.hi hb hs)
 exact ⟨⟨by omega, by omega⟩, by omega, h2⟩
theorem nf_ok {l : List S} (h : Ok l) : Ok (nf l) := ok_of (Qpq l) (by omega) fun n hn => h.has ((nf_has l n).1 hn)
theorem Ok.app {a b : List S} (ha : Ok a) (hb : Ok b) : Ok (a ++ b) := fun s hs => (List.mem_append.1 hs).elim (ha s) (hb s)
theorem Ok.nil : Ok [] := fun s hs => by simp at hs
theorem Ok.at {l : List S} (h : Ok l) (i : Nat) : (-9223372036854775808 ≤ (l.getD i (0, 0)).1 ∧ (l.getD i (0, 0)).1 ≤ 9223372036854775807) ∧ (-9223372036854775808 ≤ (l.getD i (0, 0)).2 ∧ (l.getD i (0, 0)).2 ≤ 9223372036854775807) := by
 by_cases hi : i < l.length
 · rw [List.getD_eq_getElem?_getD, List.getElem?_eq_getElem hi]; exact h _ (List.getElem_mem hi)
 · rw [List.getD_eq_getElem?_getD, List.getElem?_eq_none (by omega)]; simp
theorem Rt.at {l : List S} {b : Int} (h : Rt b l) (i : Nat) (hi : i < l.length) : b ≤ (l.getD i (0, 0)).1 ∧ (l.getD i (0, 0)).1 ≤ (l.getD i (0, 0)).2 := by
 rw [List.getD_eq_getElem?_getD, List.getElem?_eq_getElem hi]; exact h.mem (List.getElem_mem hi)
def both (a b : List S) : List S :=
 match a, b with
 | [], _ => []
 | _ :: _, [] => []
 | x :: a, y :: b => (if max x.1 y.1 ≤ min x.2 y.2 then [(max x.1 y.1, min x.2 y.2)] else []) ++ if x.2 < y.2 then both a (y :: b) else both (x :: a) b
termination_by a.length + b.length
def Qva (low : Int) : List S → List S
 | [] => [(low, 9223372036854775807)]
 | s :: r => (if low < s.1 then [(low, s.1 - 1)] else []) ++ if s.2 = 9223372036854775807 then [] else Qva (s.2 + 1) r
def rest (l : List S) : List S := Qva 0 l
def uni (a b : List S) : List S := nf (a ++ b)
end Gv.Sp
namespace Gv
def spG (s : Sp.S) : List GVal := [.int .i64 s.1, .int .i64 s.2]
def spl (l : List Sp.S) : List (List GVal) := l.map spG
theorem Qai (l : List Sp.S) : (spl l).length = l.length := by simp [spl]
theorem Qfk (l : List Sp.S) (i : Nat) (h : i < l.length) : (spl l).getD i [] = spG (l.getD i (0, 0)) := by simp [spl, List.getD, h]
theorem QaQ (a b : List Sp.S) : spl (a ++ b) = spl a ++ spl b := by simp [spl]
theorem QhH (s : Sp.S) : spl [s] = [spG s] := rfl
theorem QcN : spl [] = [] := rfl
theorem QcX (s : Sp.S) (l : List Sp.S) : spl (s :: l) = spG s :: spl l := rfl
theorem Qc9 (l : List Sp.S) : (∀ x ∈ spl l, x.length = 2) = True := eq_true fun x hx => by obtain ⟨s, _, rfl⟩ := List.mem_map.1 hx; rfl
theorem QnK (l : List Sp.S) (i : Nat) (s : Sp.S) : (spl l).set i (spG s) = spl (l.set i s) := by simp [spl, List.map_set]
theorem Qj6 (O : List GObj) (n : Nat) (l : List Sp.S) : frzLL (Gv.frz O (n + 1)) (spl l) = some (spl l) :=
 Qcp fun x hx => by
  obtain ⟨s, _, rfl⟩ := List.mem_map.1 hx;simp only [spG, frzL, Gv.frz]
theorem Qj7 {α : Type} (A : List α) (x d : α) : (A ++ [x]).getD A.length d = x := by simp [List.getD]
theorem QhI (A : List Sp.S) (x y : Sp.S) : (spl (A ++ [x])).set A.length (spG y) = spl (A ++ [y]) := by
 rw [QnK, List.set_append_right _ _ (Nat.le_refl _), Nat.sub_self]; rfl
theorem QgF {l : List Sp.S} {k : Nat} (h : k < l.length) : l.drop k = l.getD k (0, 0) :: l.drop (k + 1) := by
 rw [List.drop_eq_getElem_cons h]; simp [List.getD, h]
theorem QgG {l : List Sp.S} {k : Nat} (h : k < l.length) : l.take (k + 1) = l.take k ++ [l.getD k (0, 0)] := by
 rw [List.take_add_one]; simp [List.getD, h]
end Gv
namespace Gv.Tryz
open Go Gv Go.Proofs
theorem Qpz (s x : Sp.S) (h1 : -9223372036854775808 ≤ s.1 ∧ s.1 ≤ 9223372036854775807) (h2 : -9223372036854775808 ≤ x.2 ∧ x.2 ≤ 9223372036854775807) :
 GPure Tryz.prog 91 [.agg (spG s), .agg (spG x)] (.bool (decide (x.2 + 1 < s.1))) := by
 refine h91.pa ?_
 unfold spG
 refine vq0 ?_
 trace_state
 exact ⟨fun h => by simp; omega, fun h => by simp; omega⟩
open Nat (reduceEqDiff reduceAdd reduceSub reduceLeDiff reduceMul reduceLT)
theorem Qgx (a b c d : Int) : Qaw [Sk.int, Sk.int] [.int .i64 a, .int .i64 b] [.int .i64 c, .int .i64 d] = some (decide (a = c) && decide (b = d)) := by
 simp only [Qaw, ceq, if_true, Bool.and_true]; rfl
theorem Qfj (a b : List Sp.S) (ta tb : Tag) (ha : a.length ≤ 17592186044416) : GPure Tryz.prog 64 [.slice (spl a) ta, .slice (spl b) tb] (.bool (decide (a = b))) := by
 refine h64.pa ?_
 refine vq1 @Qai ?_
 refine ⟨fun h => (decide_eq_false (fun e => h (by rw [e]))).symm, fun h => ?_⟩
 have hlen : a.length = b.length := by omega
 refine Qab (ι := { k : Nat // k ≤ a.length ∧ ∀ j, j < k → a.getD j (0, 0) = b.getD j (0, 0) }) (fun k => ⟨[.slice (spl a) ta, .slice (spl b) tb, .any, .any, .any, .int .i64 (k.1 : Nat)] ++ List.replicate 20 .any, []⟩) (fun k => a.length - k.1) ?_ ?_
 · exact Into.first ⟨0, by omega, by omega⟩ ⟨[], by simp⟩ (by simp [WL, leG_self, leG_any])
 · rintro ⟨k, hk, hj⟩;by_cases h : k < a.length
   · have d0 : ((k : Int) < (a.length : Int)) = True := eq_true (by omega);have eA := Qfk a k h;have eB := Qfk b k (by omega);refine vq6 @Qai d0 eA eB @spG.eq_1 @Qgx ?_;refine ⟨by omega, by omega, by omega, ?_⟩;by_cases e : a.getD k (0, 0) = b.getD k (0, 0)
     · have e1 : (decide ((a.getD k (0, 0)).1 = (b.getD k (0, 0)).1) && decide ((a.getD k (0, 0)).2 = (b.getD k (0, 0)).2)) = true := by rw [e]; simp
       rw [e1];refine Into.at ⟨k + 1, by omega, fun j hj' => ?_⟩ (by show _ < _; simp; omega) ⟨[], by simp⟩ (by simp [WL, leG_self, leG_any, Qaa]);by_cases ej : j = k
       · rw [ej, e]
       · exact hj j (by omega)
     · have e1 : (decide ((a.getD k (0, 0)).1 = (b.getD k (0, 0)).1) && decide ((a.getD k (0, 0)).2 = (b.getD k (0, 0)).2)) = false := by
        rw [Bool.eq_false_iff]; intro e'; simp at e'; exact e (Prod.ext e'.1 e'.2)
       rw [e1];exact (decide_eq_false (fun e' => e (by rw [e']))).symm
   · have d0 : ((k : Int) < (a.length : Int)) = False := eq_false (by omega);refine vq2 @Qai d0 ?_;refine (decide_eq_true ?_).symm;apply List.ext_getElem hlen;intro i h3 h4;have := hj i (by omega)
     simpa [List.getD, h3, h4] using this
end Gv.Tryz
