/- A walk in parts: some by conditions, some by hand. -/
import Derived.Test.YtomacbbghhabpaaP11
import Derived.Test.YtomacbbghhabpaaP6
import Derived.Test.YtomacbbghhabpaaP5
import Derived.Test.YtomacbbghhabpaaP10
import Derived.Test.YtomacbbghhabpaaP9
import Derived.Test.YtomacbbghhabpaaP8
set_option linter.defProp false
set_option linter.unusedSimpArgs false
set_option linter.unusedVariables false
set_option maxHeartbeats 4000000
set_option maxRecDepth 20000
namespace Gv
open Go Go.MapKept Go.ChangeMaps Go.Maps
variable {P : Program} {all : Array Oper} {QQ : Exit → Act → World → Prop} {E : Env} {st : GSt} {a : Act} {w : World} {o : Oper} {rest : List Oper}
@[reducible] def cfgOf {P : Program} {f : FuncId} {C : Cfg} {n : Nat} {rs : List ResultVar} {s : SCode} (_ : FnS P f C n rs s) : Cfg := C
def vcN (N : GSt → Prop) : Ex → GSt → Prop
 | .normal, s => N s
 | _, _ => False
def NW (s : List GVal) (O : List GObj) (st : GSt) : Prop := st.o = O ∧ WL st.s s
theorem wp_part {C : Cfg} (hmix : P.follows .mixedOrders = true) {c : Code} {s : SCode} (hs : slim C c = some s) (hc : codeOk C c = true) (h : HSim E st.o w) (ha : SlotsR E a st.s) {N : GSt → Prop} (hv : vcS P C.ro s (vcN N) st) {Q : Exit → Act → World → Prop}
 (hn : ∀ st' E' a' w', HSim E' st'.o w' → Keep E st.o w E' st'.o w' → SlotsR E' a' st'.s → N st' → Q .normal a' w') : c.wp P Q a w := by
 refine wp_mono (vc_sound hmix c (vcN N) st E a w hc h ha (vcS_ok c s (vcN N) (vcN N) st hs (fun _ _ h => h) hv)) ?_
 rintro e a' w' ⟨ex, st', E', hx, h1, h2, h3, h4⟩
 cases e <;> cases ex <;> first
  | exact hx.elim
  | exact h4.elim
  | exact hn st' E' a' w' h1 h2 h3 h4
theorem Post.trans {E0 E : Env} {O0 O : List GObj} {w0 w : World} {Q : Ex → GSt → Prop} {e : Exit} {a' : Act} {w' : World} (k : Keep E0 O0 w0 E O w) (h : Post E O w Q e a' w') : Post E0 O0 w0 Q e a' w' := by
 obtain ⟨ex, st', E', hx, h1, h2, h3, h4⟩ := h
 exact ⟨ex, st', E', hx, h1, k.trans h2, h3, h4⟩
theorem HSim.meltBox1 {O : List GObj} {t sz : Nat} {cs : List GVal} (h : HSim E (O ++ [.row t sz [cs]]) w) {s : List GVal} (ha : SlotsR E a s) (i : Nat) (hx : s.getD i .any = .ptr O.length t 0 0) (hsz : cs.length = sz) :
 HSim (E.frz [.row t sz [cs]] w) O w ∧ Keep E (O ++ [.row t sz [cs]]) w (E.frz [.row t sz [cs]] w) O w ∧ SlotsR (E.frz [.row t sz [cs]] w) a (s.set i (.ref cs)) := by
 obtain ⟨h0, h1, h2⟩ := h.melt
 refine ⟨h1, h2, by simp [ha.size], ha.defers, fun k g hg => ?_⟩
 rw [List.getElem?_set] at hg
 by_cases hk : i = k
 · subst hk;rw [if_pos rfl] at hg;split at hg
   · rename_i hlt;simp only [Option.some.injEq] at hg;subst hg;have := ha.at_ i _ (getD_of (d := GVal.any) hlt);rw [hx] at this
     revert this
     generalize a.tmps.getD i undef = tv;intro this;cases this with
     | ptr b off o st i j l hl hb ho =>
      have hreal := h0.real 0 _ rfl;obtain ⟨l', hl', hsz', hxs, hr⟩ := hreal;rw [hl] at hl'; cases hl';rw [hb] at hr;obtain ⟨cur, el, hcw, hcs, hct, hrows, hsn⟩ := hr;have hrow : ∀ j g, [cs].flatten[j]? = some g → ∃ v, (E.frz [.row t sz [cs]] w).snap b (off + j) = some v ∧ VR E v g := fun j g hj => by
       have := row_frz h0 (i := 0) rfl hl hb hj;obtain ⟨v, hv1, hv2⟩ := this;refine ⟨v, ?_, ?_⟩
       · rw [ho]; simpa using hv1
       · first | exact hv2 | exact hv2.2 | exact hv2.1
      refine .ref b off cs (fun j => ((E.frz [.row t sz [cs]] w).snap b (off + j)).getD undef) (fun j hj => ?_) (fun j g hg => ?_)
      · obtain ⟨v, hv, _⟩ := hrow j (cs[j]'(by omega)) (by simp);rw [hv]; rfl
      · obtain ⟨v, hv, hvr⟩ := hrow j g (by simpa using hg);rw [hv];exact hvr.mono h2.ext
   · cases hg
 · rw [if_neg hk] at hg;exact (ha.at_ k g hg).mono h2.ext
end Gv
namespace Gv
open Go
theorem HSim.pick {E : Env} {O X : List GObj} {w : World} (h : HSim E O w) (pl : List Nat) (hX : Fits O pl X) (hnd : pl.Nodup) (hc : clockOf X = none) : HSim E X w ∧ Keep E O w E X w := by
 have hpl : ∀ {i j k : Nat}, pl[i]? = some k → pl[j]? = some k → i = j := fun {i j k} hi hj => by
  obtain ⟨h1, e1⟩ := List.getElem?_eq_some_iff.1 hi;obtain ⟨h2, e2⟩ := List.getElem?_eq_some_iff.1 hj;have hp := List.pairwise_iff_getElem.1 hnd;rcases Nat.lt_trichotomy i j with q | q | q
  · exact absurd (e1.trans e2.symm) (hp i j h1 h2 q)
  · exact q
  · exact absurd (e2.trans e1.symm) (hp j i h2 h1 q)
 refine ⟨⟨?_, h.sealed, h.one, fun i x hx => ?_, fun i j oi oj b hij hi hj hbi hbj => ?_, h.glob⟩, ⟨.refl E, rfl, rfl, Nat.le_refl _, fun _ _ _ => rfl, fun _ _ _ hv => .inl hv, fun b ⟨i, x, hx, hb⟩ => ?_, trivial⟩⟩
 · obtain ⟨n, _, q⟩ := h.fin;exact ⟨n, (fun c e => by rw [hc] at e; cases e), q⟩
 · obtain ⟨j, y, _, hy, hle⟩ := hX.at_ i x hx;exact hle.real E w (h.real j y hy)
 · obtain ⟨i', yi, pi, hyi, li⟩ := hX.at_ i oi hi;obtain ⟨j', yj, pj, hyj, lj⟩ := hX.at_ j oj hj;rw [li.blk] at hbi;rw [lj.blk] at hbj;refine h.sep i' j' yi yj b (fun e => hij ?_) hyi hyj hbi hbj;rw [e] at pi;exact hpl pi pj
 · obtain ⟨j, y, _, hy, hle⟩ := hX.at_ i x hx;exact .inl ⟨j, y, hy, by rw [← hle.blk]; exact hb⟩
def FitsR (O : List GObj) : List Nat → List GObj → Prop
 | [], [] => True
 | j :: pl, x :: r => (∃ y, O[j]? = some y ∧ OLe x y) ∧ FitsR O pl r
 | _, _ => False
theorem FitsR.at_ {O : List GObj} : ∀ {pl : List Nat} {X : List GObj}, FitsR O pl X → ∀ (i j : Nat), pl[i]? = some j → ∃ x y, X[i]? = some x ∧ O[j]? = some y ∧ OLe x y
 | [], [], _, i, j, h => by simp at h
 | j :: pl, x :: r, h, 0, k, hk => by simp at hk; subst hk; obtain ⟨y, h1, h2⟩ := h.1; exact ⟨x, y, rfl, h1, h2⟩
 | j :: pl, x :: r, h, i + 1, k, hk => by simpa using FitsR.at_ h.2 i k (by simpa using hk)
 | [], _ :: _, h, _, _, _ => h.elim
 | _ :: _, [], h, _, _, _ => h.elim
theorem idx_spec : ∀ (pl : List Nat) (k : Nat), (k ∉ pl ∧ pl.findIdx? (· == k) = none) ∨ ∃ i, pl.findIdx? (· == k) = some i ∧ pl[i]? = some k
 | [], k => .inl ⟨by simp, rfl⟩
 | j :: pl, k => by
  rw [List.findIdx?_cons];by_cases e : j = k
  · subst e;exact .inr ⟨0, by simp, rfl⟩
  · have e' : (j == k) = false := by simpa using e
    rw [e'];rcases idx_spec pl k with ⟨h1, h2⟩ | ⟨i, h1, h2⟩
    · exact .inl ⟨by simp [h1]; exact fun q => e q.symm, by rw [h2]; rfl⟩
    · exact .inr ⟨i + 1, by rw [h1]; rfl, by simpa using h2⟩
def pickS (pl : List Nat) (k : Nat) : Bool × Nat := match pl.findIdx? (· == k) with
 | some i => (false, i)
 | none => (true, k)
theorem pickS_inj {pl : List Nat} {a b : Nat} (h : pickS pl a = pickS pl b) : a = b := by
 unfold pickS at h
 rcases idx_spec pl a with ⟨_, ha⟩ | ⟨i, ha, ha2⟩ <;> rcases idx_spec pl b with ⟨_, hb⟩ | ⟨j, hb, hb2⟩ <;> rw [ha, hb] at h <;> simp at h
 · exact h
 · subst h; rw [ha2] at hb2; cases hb2; rfl
theorem GCalls.readAt {P : Program} {f : FuncId} {args args' : List GVal} {X O : List GObj} {r : GVal} (h : GCalls P f args X (fun g O' => g = r ∧ O' = X)) (pl : List Nat) (hX : Fits O pl X) (hR : FitsR O pl X) (hnd : pl.Nodup) (ha : GLes args' args) (hcX : clockOf X = none) (hc : clockOf O = none) :
 GCalls P f args' O (fun g O' => g = r ∧ O' = O) := by
 refine GCalls.frame h pl hX hnd ha hcX hc ?_
 rintro g O' ⟨rfl, rfl⟩
 refine ⟨g, O, (List.range O.length).map (pickS pl), ⟨rfl, rfl⟩, GLe.refl g, Comes.of (by simp) fun k z s hz hs => ?_, ?_, hc⟩
 · have hk : k < O.length := (List.getElem?_eq_some_iff.1 hz).1;simp only [List.getElem?_map, List.getElem?_range hk, Option.map_some, Option.some.injEq] at hs;subst hs;unfold pickS;rcases idx_spec pl k with ⟨h1, h2⟩ | ⟨i, h1, h2⟩
   · rw [h2]; exact ⟨h1, z, hz, .refl _⟩
   · rw [h1];obtain ⟨x, y, a1, a2, a3⟩ := hR.at_ i k h2;rw [hz] at a2; cases a2;exact ⟨x, a1, a3⟩
 · rw [List.nodup_iff_pairwise_ne, List.pairwise_map];exact (List.pairwise_lt_range (n := O.length)).imp fun {a b} hab e => by have := pickS_inj e; omega
theorem GCalls.oneNew {P : Program} {f : FuncId} {args args' : List GVal} {x : GObj} {O : List GObj} {r : GVal} {x1 z1 y1 : Nat → GObj} (h : GCalls P f args [x] (fun g O' => ∃ so, g = r ∧ O' = [x1 so, y1 so])) (i : Nat) {xi : GObj} (hi : O[i]? = some xi) (hx : OLe xi x) (hz : ∀ so, OLe (x1 so) (z1 so)) (ha : GLes args' args) (hcX : clockOf [x] = none) (hc : clockOf O = none) (hz1 : ∀ so, (z1 so).isClock = false) (hy1 : ∀ so, (y1 so).isClock = false) :
 GCalls P f args' O (fun g O' => ∃ so, g = r ∧ O' = O.set i (z1 so) ++ [y1 so]) := by
 have hil := (List.getElem?_eq_some_iff.1 hi).1
 refine GCalls.frame h [i] ⟨⟨xi, hi, hx⟩, trivial⟩ (by simp) ha hcX hc ?_
 rintro g O' ⟨so, rfl, rfl⟩
 refine ⟨g, _, (List.range (O.length + 1)).map (fun k => if k = i then (false, 0) else if k = O.length then (false, 1) else (true, k)), ⟨so, rfl, rfl⟩, GLe.refl g, Comes.of (by simp) fun k z s hz' hs => ?_, ?_, ?_⟩
 · have hk : k < O.length + 1 := by have := (List.getElem?_eq_some_iff.1 hz').1; simpa using this
   simp only [List.getElem?_map, List.getElem?_range hk, Option.map_some, Option.some.injEq] at hs;subst hs;by_cases e : k = i
   · subst e;rw [List.getElem?_append_left (by simpa using hil), List.getElem?_set_self hil] at hz';cases hz';simp only [if_pos];exact ⟨x1 so, rfl, hz so⟩
   · by_cases e2 : k = O.length
     · subst e2;rw [List.getElem?_append_right (by simp)] at hz';simp at hz';subst hz';simp only [if_neg e, if_pos];exact ⟨y1 so, rfl, .refl _⟩
     · rw [List.getElem?_append_left (by simp; omega), List.getElem?_set_ne (fun q => e q.symm)] at hz';simp only [if_neg e, if_neg e2];exact ⟨by simp [e], z, hz', .refl _⟩
 · rw [List.nodup_iff_pairwise_ne, List.pairwise_map];refine List.Pairwise.imp_of_mem ?_ (List.pairwise_lt_range (n := O.length + 1));intro a b _ _ hab;by_cases a1 : a = i <;> by_cases b1 : b = i <;> by_cases a3 : a = O.length <;> by_cases b3 : b = O.length <;> simp_all <;> omega
 · match O, i with
   | [], _ => simp at hil
   | y :: r, 0 => 
    have := hz1 so;show clockOf (z1 so :: _) = none;cases hq : z1 so <;> first | rfl | (rw [hq] at this; cases this)
   | y :: r, k + 1 =>
    show clockOf (y :: _) = none;cases y <;> first | rfl | cases hc
theorem GInto.pick {g : GVal} {O X : List GObj} {N : GVal → List GObj → Prop} (pl : List Nat) (hX : Fits O pl X) (hnd : pl.Nodup) (hc : clockOf X = none) (h : N g X) : GInto g O N := fun E v w hs hv => by
 obtain ⟨h1, h2⟩ := hs.pick pl hX hnd hc
 exact ⟨g, X, E, h, h1, h2, hv⟩
structure VCs (P : Program) (R : List Nat) (s : SCode) (Q : Ex → GSt → Prop) (st : GSt) : Prop where
 ok : vcS P R s Q st
theorem wp_partV {P : Program} {E : Env} {st : GSt} {a : Act} {w : World} {C : Cfg} (hmix : P.follows .mixedOrders = true) {c : Code} {s : SCode} (hs : slim C c = some s) (hc : codeOk C c = true) (h : HSim E st.o w) (ha : SlotsR E a st.s) {N : GSt → Prop} (hv : VCs P C.ro s (vcN N) st) {Q : Exit → Act → World → Prop}
 (hn : ∀ st' E' a' w', HSim E' st'.o w' → Keep E st.o w E' st'.o w' → SlotsR E' a' st'.s → N st' → Q .normal a' w') : c.wp P Q a w := wp_part hmix hs hc h ha hv.ok hn
end Gv
namespace Gv.Try
open Go Gv Go.Proofs
open Nat (reduceEqDiff reduceAdd reduceSub reduceLeDiff reduceMul reduceLT)
abbrev uS (ti st : Nat) (x5 x7 x8 x10 x11 x63 x64 x65 : GVal) : List GVal := [.ptr 2 ti 0 0, .ptr 0 st 0 0, .any, .any, .any, x5, .any, x7, x8, .any, x10, x11, .any, .any, .any, .any, .any, .any, .any, .any, .any, .any, .any, .any, .any, .any, .any, .any, .any, .any, .any, .any, .any, .any, .any, .any, .any, .any, .any, .any, .any, .any, .any, .any, .any, .any, .any, .any, .any, .any, .any, .any, .any, .any, .any, .any, .any, .any, .any, .any, .any, .any, .any, x63, x64, x65, .any, .any, .any, .any, .any, .any, .any, .any, .any, .any, .any, .any, .any, .any, .any, .any, .any, .any, .any, .any]
abbrev C10 : Cfg := cfgOf h15
def zbIEg22 := ai @vcN.eq_1 <| ai @vcN.eq_2 <| ai @NW.eq_1 <| ai @leG_any <| ai @leG_self <| ai @and_true <| @true_and
theorem u0 (ti st : Nat) (R : List GVal) (hR : R.length = 3) (hs : allSolid R = True) (O : List GObj) : VCs Try.prog [5] s15_0 (vcN (NW (uS ti st (.ref R) .any .any .any .any .any .any .any) O)) (gstart 86 [.ptr 2 ti 0 0, .ptr 0 st 0 0, .agg R] O) := by
 refine ⟨?_⟩
 simp only [gstart, List.cons_append, List.nil_append, List.length_cons, List.length_nil, reduceAdd, reduceSub, List.replicate_succ, List.replicate_zero]
 exact vd3 hR hs zbIEg22
def zbIEg23 := ai @uS.eq_1 <| ai @vcN.eq_1 <| ai @vcN.eq_2 <| ai @NW.eq_1 <| ai @leG_any <| ai @leG_self <| ai @and_true <| @true_and
theorem u1 (ti st : Nat) (x5 : GVal) (O : List GObj) : VCs Try.prog [5] (.seq s15_1 s15_3) (vcN (NW (uS ti st x5 .any .any .any .any .any .any .any) O)) ⟨uS ti st x5 .any .any .any .any .any .any .any, O⟩ := by
 refine ⟨?_⟩
 exact vd1 zbIEg23
theorem u4 (ti st so : Nat) (x5 : GVal) (n : Int) (M O : List Hs) (g1 g2 : GObj) : VCs Try.prog [5] s15_4 (vcN (NW (uS ti st x5 (.slice (hsG M) .none) (.slice (hsG O) .none) .any .any .any .any .any) (g1 :: g2 :: idO2 ti so n M O))) ⟨uS ti st x5 .any .any .any .any .any .any .any, g1 :: g2 :: idO2 ti so n M O⟩ := by
 refine ⟨?_⟩
 exact vd1 zbIEg23
theorem u12n (ti st : Nat) (cs : List Cm) (hs : List Hs) (th : Tag) (gr : Int) (hg : gr ≠ 1) (x7 x8 : GVal) (O : List GObj) : VCs Try.prog [5] s15_12 (vcN (NW (uS ti st (.ref (reqG cs hs th gr)) x7 x8 .any .any .any .any .any) O)) ⟨uS ti st (.ref (reqG cs hs th gr)) x7 x8 .any .any .any .any .any, O⟩ := by
 refine ⟨?_⟩
 have d0 : (gr = 1) = False := eq_false hg
 exact vd2 d0 zbIEg23
theorem u12m (m : GM) (hm : GMOK m) (ti st s so : Nat) (cs : List Cm) (hs : List Hs) (th : Tag) (n : Int) (M O : List Hs) (T : WSt) (hT : VisL m (masterB (ofM M O)) hs ([], []) T) (hl : hs.length ≤ 1000000) (hM : M.length ≤ 1000000) (hO : O.length ≤ 1000000) (hTl : T.2.length ≤ 1000000) (hn : (M.length : Int) + T.2.length ≤ n) :
 VCs Try.prog [5] s15_12 (vcN (NW (uS ti st (.ref (reqG cs hs th 1)) (.slice (hsG (M ++ T.2)) .none) (.slice (hsG (woL O T.2)) .none) .any .any .any .any .any) (gObj st s m ++ idO2 ti so n M O))) ⟨uS ti st (.ref (reqG cs hs th 1)) (.slice (hsG M) .none) (.slice (hsG O) .none) .any .any .any .any .any, gObj st s m ++ idO2 ti so n M O⟩ := by
 refine ⟨?_⟩
 have cW := iWalkM m hm hs th st s ti so n M O T hT hl
 have d0 : (n < (M.length : Int) + T.2.length) = False := eq_false (by omega)
 have cC := iConcat M T.2 .none .none .full (by omega)
 have cO := iWithout O T.2 hO hTl
 refine vq1 @uS.eq_1 ?_
 refine cW.mono ?_
 rintro g O' ⟨rfl, rfl⟩
 refine vq2 @hsG_len d0 ?_
 refine cC.then ?_ (by rfl)
 refine vq0 ?_
 refine cO.then ?_ (by rfl)
 exact vd1 zbIEg22
theorem u13 (ti st s so : Nat) (x5 x7 x8 : GVal) (n : Int) (m : GM) (M O : List Hs) : VCs Try.prog [5] s15_13 (vcN fun st' => ∃ tn tb, NW (uS ti st x5 x7 x8 (.ptr 5 tb 0 0) .any .any .any .any) (gObj st s m ++ idO2 ti so n M O ++ [.row tn 4 [[.int .i64 0, .slice [] .nil, .slice [] .nil, .lit (.map none)]], .row tb 1 [[.ptr 4 tn 0 0]]]) st') ⟨uS ti st x5 x7 x8 .any .any .any .any .any, gObj st s m ++ idO2 ti so n M O⟩ := by
 refine ⟨?_⟩
 refine vq1 zbIEg23 ?_
 exact ⟨rfl, rfl, fun tn => ⟨rfl, fun tb => ⟨tn, tb, rfl, by simp [leG_self]⟩⟩⟩
abbrev nxO (tn sn : Nat) (M O : List Hs) : List GObj := [.row tn 4 [[.int .i64 0, .slice (hsG M) .none, .slice (hsG O) .none, .map 5 sn]], .map sn (kvG encI (ofM M O))]
theorem u14 (ti st s so tn : Nat) (x5 : GVal) (n : Int) (m : GM) (M O M1 O1 : List Hs) (hM : M1.length ≤ 1000000) (hO : O1.length ≤ 1000000) : VCs Try.prog [5] s15_14 (vcN fun st' => ∃ sn, NW (uS ti st x5 (.slice (hsG M1) .none) (.slice (hsG O1) .none) (.ref [.ptr 4 tn 0 0]) .any .any .any .any) (gObj st s m ++ idO2 ti so n M O ++ nxO tn sn M1 O1) st') ⟨uS ti st x5 (.slice (hsG M1) .none) (.slice (hsG O1) .none) (.ref [.ptr 4 tn 0 0]) .any .any .any .any, gObj st s m ++ idO2 ti so n M O ++ [.row tn 4 [[.int .i64 0, .slice [] .nil, .slice [] .nil, .lit (.map none)]]]⟩ := by
 refine ⟨?_⟩
 have cN := GCalls.oneNew (z1 := fun sn => .row tn 4 [[.int .i64 0, .slice (hsG M1) .none, .slice (hsG O1) .none, .map 5 sn]]) (args' := [.ptr 4 tn 0 0, .slice (hsG M1) .none, .slice (hsG O1) .none]) (iNumber tn (.int .i64 0) (.slice [] .nil) (.slice [] .nil) (.lit (.map none)) M1 O1 hM hO) (O := gObj st s m ++ idO2 ti so n M O ++ [.row tn 4 [[.int .i64 0, .slice [] .nil, .slice [] .nil, .lit (.map none)]]]) 4 rfl (.refl _) (fun so => OLe.row ⟨⟨GLe.refl _, GLe.refl _, GLe.refl _, GLe.map _ _ _, trivial⟩, trivial⟩) ⟨GLe.ptr _ _ _ _ _, GLe.refl _, GLe.refl _, trivial⟩ rfl rfl (fun _ => rfl) (fun _ => rfl)
 refine vq1 @uS.eq_1 ?_
 refine cN.mono ?_
 rintro g O' ⟨sn, rfl, rfl⟩
 refine vq1 zbIEg22 ?_
 exact ⟨sn, rfl⟩
def zbIEg24 := ai @vcN.eq_1 <| ai @vcN.eq_2 <| ai @NW.eq_1 <| ai @leG_any <| ai @leG_self <| ai @and_true <| ai @true_and <| ai @GVal.up.eq_1 <| ai @GVal.up.eq_2 <| ai @GVal.up.eq_3 <| @GVal.up.eq_4
theorem u15 (ti st : Nat) (x7 x8 x10 : GVal) (cs : List Cm) (hs : List Hs) (th : Tag) (ht : th = .nil → hs = []) (hl : hs.length ≤ 1000000) (gr : Int) (O : List GObj) (hc : clockOf O = none) : VCs Try.prog [5] s15_15 (vcN fun st' => (hs = [] ∧ NW (uS ti st (.ref (reqG cs hs th gr)) x7 x8 x10 (.slice [] .nil) .any .any .any) O st') ∨ ∃ v, NW (uS ti st (.ref (reqG cs hs th gr)) x7 x8 x10 (.own O.length v 0 hs.length) .any .any .any) (O ++ [.row v 32 (hsG hs)]) st') ⟨uS ti st (.ref (reqG cs hs th gr)) x7 x8 x10 .any .any .any .any, O⟩ := by
 refine ⟨?_⟩
 have cC := GCalls.newUp (hClone hs th (by omega) ht) (O := O) hc (by rintro g O' (⟨_, rfl, rfl⟩ | ⟨st, rfl, rfl⟩) <;> rfl)
 simp +contextual -implicitDefEqProofs (maxSteps := 2000000) (disch := omega) only [drawC, drawK, keepT, ↓lenV, binV, ↓loadV, ↓storeV, ↓fieldAddrV, ↓indexAddrV, ↓allocV, ↓boxV, ↓buildV, ↓buildSliceV, ↓nilV, ↓ifaceV, ↓appendV, ↓srcV, fillG, fillE, place, GVal.cells, GVal.ofConst, ↓resV, resG, ↓reduceIte, reduceEqDiff, reduceAdd, reduceSub, reduceLeDiff, reduceCtorEq, ↓asrcV, aggV, Tag.cap, GVal.solid, Nat.reduceBEq, reduceMul, reduceLT, vcA, ↓vcB, vcC, fbFg, uS, vcD]
 refine cC.mono ?_
 rintro g O' ⟨g0, O1, (⟨rfl, rfl, rfl⟩ | ⟨v, rfl, rfl⟩), rfl, rfl⟩
 · simp +contextual -implicitDefEqProofs (maxSteps := 2000000) (disch := omega) only [drawC, drawK, keepT, ↓lenV, binV, ↓loadV, ↓storeV, ↓fieldAddrV, ↓indexAddrV, ↓allocV, ↓boxV, ↓buildV, ↓buildSliceV, ↓nilV, ↓ifaceV, ↓appendV, ↓srcV, fillG, fillE, place, GVal.cells, GVal.ofConst, ↓resV, resG, ↓reduceIte, reduceEqDiff, reduceAdd, reduceSub, reduceLeDiff, reduceCtorEq, ↓asrcV, aggV, Tag.cap, GVal.solid, Nat.reduceBEq, reduceMul, reduceLT, vcA, ↓vcB, vcC, fbFg, vcN, NW, leG_any, leG_self, and_true, true_and, GVal.up, vcD]
   exact .inl trivial
 · simp +contextual -implicitDefEqProofs (maxSteps := 2000000) (disch := omega) only [drawC, drawK, keepT, ↓lenV, binV, ↓loadV, ↓storeV, ↓fieldAddrV, ↓indexAddrV, ↓allocV, ↓boxV, ↓buildV, ↓buildSliceV, ↓nilV, ↓ifaceV, ↓appendV, ↓srcV, fillG, fillE, place, GVal.cells, GVal.ofConst, ↓resV, resG, ↓reduceIte, reduceEqDiff, reduceAdd, reduceSub, reduceLeDiff, reduceCtorEq, ↓asrcV, aggV, Tag.cap, GVal.solid, Nat.reduceBEq, reduceMul, reduceLT, vcA, ↓vcB, vcC, fbFg, vcN, NW, leG_any, leG_self, and_true, true_and, GVal.up, vcD]
   exact .inr ⟨v, rfl, by rw [leG_self]; trivial⟩
abbrev uO (ti st s so tn sn : Nat) (n : Int) (m : GM) (M O M1 O1 : List Hs) : List GObj := gObj st s m ++ idO2 ti so n M O ++ nxO tn sn M1 O1
theorem u23 (ti st s so tn sn : Nat) (n : Int) (m : GM) (M O M1 O1 : List Hs) (x7 x8 x10 x11 : GVal) (X : List GObj) (cs : List Cm) (hs : List Hs) (th : Tag) (gr : Int) (hl : hs.length ≤ 1000000) (hc : cs.length ≤ 1000000)
 (hx : (hs = [] ∧ x11 = .slice [] .nil ∧ X = []) ∨ ∃ v, x11 = .own 6 v 0 hs.length ∧ X = [.row v 32 (hsG hs)]) :
 VCs Try.prog [5] s15_23 (vcN fun st' => ∃ v, NW (uS ti st (.ref (reqG cs hs th gr)) x7 x8 x10 (.own 6 v 0 (hs ++ cs.map (·.1)).length) .any .any .any) (uO ti st s so tn sn n m M O M1 O1 ++ [.row v 32 (hsG (hs ++ cs.map (·.1)))]) st') ⟨uS ti st (.ref (reqG cs hs th gr)) x7 x8 x10 x11 .any .any .any, uO ti st s so tn sn n m M O M1 O1 ++ X⟩ := by
 refine ⟨?_⟩
 refine vq2 @uS.eq_1 @csG_len ?_
 refine vcSLoop_by (ι := { p : Nat × Nat // p.1 ≤ cs.length }) (fun p => ⟨uS ti st (.ref (reqG cs hs th gr)) x7 x8 x10 (.own 6 p.1.2 0 (hs ++ (cs.map (·.1)).take p.1.1).length) (.slice (csG cs) .none) (.int .i64 cs.length) (.int .i64 (p.1.1 : Nat)), uO ti st s so tn sn n m M O M1 O1 ++ [.row p.1.2 32 (hsG (hs ++ (cs.map (·.1)).take p.1.1))]⟩) (fun p => cs.length - p.1.1) ?_ ?_
 · rcases hx with ⟨rfl, rfl, rfl⟩ | ⟨v, rfl, rfl⟩
   · refine Into.row 11 32 rfl rfl ?_;refine vq0 ?_;intro v;exact Into.first ⟨(0, v), Nat.zero_le _⟩ ⟨[], rfl⟩ (by simp [WL, leG_self, leG_any, csG_len])
   · exact Into.first ⟨(0, v), Nat.zero_le _⟩ ⟨[], by simp⟩ (by simp [WL, leG_self, leG_any, csG_len])
 · rintro ⟨⟨k, v⟩, hk⟩
   change k ≤ cs.length at hk
   by_cases h : k < cs.length
   · have d0 : ((k : Int) < (cs.length : Int)) = True := eq_true (by omega);have eC := csG_at cs k h;have eT : hs ++ (cs.map (·.1)).take (k + 1) = (hs ++ (cs.map (·.1)).take k) ++ [(cs.getD k default).1] := by
      rw [List.take_add_one]; simp [List.getD, h]
     have lT : (hs ++ (cs.map (·.1)).take k).length ≤ 2000000 := by
      have := List.length_take_le k (cs.map (·.1));rw [List.length_append];have h2 : (cs.map (·.1)).length = cs.length := List.length_map ..;omega
     generalize cs.getD k default = c at *;generalize hs ++ (cs.map (·.1)).take k = L at *;have l33 : (comG c).length = 33 := comG_len c;have t32 : List.take 32 (comG c) = bytesG c.1.1 := take32a c.1 _;have t33 : List.take 33 (comG c) = comG c := List.take_of_length_le (by rw [l33]; exact Nat.le_refl _);have dz : List.drop 33 ([.int .u8 0, .int .u8 0, .int .u8 0, .int .u8 0, .int .u8 0, .int .u8 0, .int .u8 0, .int .u8 0, .int .u8 0, .int .u8 0, .int .u8 0, .int .u8 0, .int .u8 0, .int .u8 0, .int .u8 0, .int .u8 0, .int .u8 0, .int .u8 0, .int .u8 0, .int .u8 0, .int .u8 0, .int .u8 0, .int .u8 0, .int .u8 0, .int .u8 0, .int .u8 0, .int .u8 0, .int .u8 0, .int .u8 0, .int .u8 0, .int .u8 0, .int .u8 0, .slice [] .nil] : List GVal) = [] := rfl;have s33 : allSolid (comG c) = True := by rw [show comG c = bytesG c.1.1 ++ [.slice (hsG c.2) .none] from rfl, solid33]; simp [GVal.solid]
     have eL : List.take L.length (hsG L) = hsG L := List.take_of_length_le (by rw [hsG_len]; exact Nat.le_refl _);refine vq1 (ai eL <| ai t33 <| ai dz <| ai s33 <| ai @List.append_nil.{0} <| ai @uS.eq_1 <| ai @uO.eq_1 <| ai @nxO.eq_1 <| ai @idO2.eq_1 <| ai @List.cons_append.{0} <| ai @List.nil_append.{0} <| ai d0 <| ai @csG_len <| ai eC <| ai l33 <| ai t32 <| ai @hsG_len <| ai @all_hsG <| ai @setO_3 <| ai @setO_4 <| ai @setO_5 <| ai @setO_6 <| ai @setO_7 <| ai @setO_8 <| @v32) ?_;refine ⟨by omega, fun sc => ⟨by omega, by omega, by omega, fun v2 => ?_⟩⟩;have eLen : (hs ++ (cs.map (·.1)).take (k + 1)).length = L.length + 1 := by rw [eT]; simp
     refine Into.at ⟨(k + 1, v2), h⟩ (by show _ < _; simp; omega) ⟨[.row sc 33 [comG c]], ?_⟩ ?_
     · show _ = (uO ti st s so tn sn n m M O M1 O1 ++ [.row v2 32 (hsG (hs ++ (cs.map (·.1)).take (k + 1)))]) ++ [.row sc 33 [comG c]];rw [eT, hsG_app];rfl
     · show WL _ (uS ti st (.ref (reqG cs hs th gr)) x7 x8 x10 (.own 6 v2 0 (hs ++ (cs.map (·.1)).take (k + 1)).length) (.slice (csG cs) .none) (.int .i64 cs.length) (.int .i64 (k + 1 : Nat)));rw [eLen];simp [WL, leG_self, leG_any, leG_int]
   · have d0 : ((k : Int) < (cs.length : Int)) = False := eq_false (by omega);have ek : (cs.map (·.1)).take k = cs.map (·.1) := List.take_of_length_le (by rw [List.length_map]; omega);rw [ek];refine vq2 d0 zbIEg23 ?_;exact ⟨v, rfl, by rw [leG_self]; trivial⟩
theorem u27 (m : GM) (hm : GMOK m) (ti st s so tn sn : Nat) (n : Int) (M O M1 O1 : List Hs) (x5 : GVal) (L : List Hs) (hL : L.length ≤ 1000000) (T : WSt) (hT : VisL m (fun h => (look (ofM M1 O1) h).isSome) L ([], []) T) (hM : M1.length ≤ 1000000) (hO : O1.length + T.2.length ≤ 1000000) :
 VCs Try.prog [5] s15_27 (retQ Try.prog [.tmp 6] fun g O' => ∃ so', g = .lit .nilIface ∧ O' = (uO ti st s so tn sn n m M O M1 O1).set 2 (.row ti 4 [[.int .i64 n, .slice (hsG M1) .none, .slice (hsG (O1 ++ T.2)) .none, .map 6 so']]) ++ [.map so' (kvG encI (ofM M1 (O1 ++ T.2)))]) ⟨uS ti st x5 (.slice (hsG M1) .none) (.slice (hsG O1) .none) (.ref [.ptr 4 tn 0 0]) (.slice (hsG L) .none) .any .any .any, uO ti st s so tn sn n m M O M1 O1⟩ := by
 refine ⟨?_⟩
 have cW := GCalls.readAt (args' := [.ptr 0 st 0 0, .slice (hsG L) .none, (.func (.func 37) [] [.ref [.ptr 4 tn 0 0]])]) (iWalkD m hm L .none st s tn sn (.int .i64 0) M1 O1 T hT hL) (O := uO ti st s so tn sn n m M O M1 O1) [0, 1, 4, 5]
  ⟨⟨_, rfl, .refl _⟩, ⟨_, rfl, .refl _⟩, ⟨_, rfl, OLe.row ⟨⟨GLe.refl _, GLe.refl _, GLe.refl _, GLe.map _ _ _, trivial⟩, trivial⟩⟩, ⟨_, rfl, .refl _⟩, trivial⟩
  ⟨⟨_, rfl, .refl _⟩, ⟨_, rfl, .refl _⟩, ⟨_, rfl, OLe.row ⟨⟨GLe.refl _, GLe.refl _, GLe.refl _, GLe.map _ _ _, trivial⟩, trivial⟩⟩, ⟨_, rfl, .refl _⟩, trivial⟩
  (by decide) ⟨GLe.refl _, GLe.refl _, GLe.func _ trivial ⟨GLe.ref ⟨GLe.ptr _ _ _ _ _, trivial⟩, trivial⟩, trivial⟩ rfl rfl
 have cC := iConcat O1 T.2 .none .none .full (by omega)
 have cN := GCalls.oneNew (z1 := fun so' => .row ti 4 [[.int .i64 n, .slice (hsG M1) .none, .slice (hsG (O1 ++ T.2)) .none, .map 6 so']]) (args' := [.ptr 2 ti 0 0, .slice (hsG M1) .none, .slice (hsG (O1 ++ T.2)) .none]) (iNumber ti (.int .i64 n) (.slice (hsG M) .none) (.slice (hsG O) .none) (.map 3 so) M1 (O1 ++ T.2) hM (by rw [List.length_append]; omega)) (O := uO ti st s so tn sn n m M O M1 O1) 2 rfl (.refl _) (fun so => OLe.row ⟨⟨GLe.refl _, GLe.refl _, GLe.refl _, GLe.map _ _ _, trivial⟩, trivial⟩) ⟨GLe.ptr _ _ _ _ _, GLe.refl _, GLe.refl _, trivial⟩ rfl rfl (fun _ => rfl) (fun _ => rfl)
 refine vq1 @uS.eq_1 ?_
 refine cW.mono ?_
 rintro g O' ⟨rfl, rfl⟩
 refine vq0 ?_
 refine cC.then ?_ (by rfl)
 refine vq0 ?_
 refine cN.mono ?_
 rintro g O' ⟨so', rfl, rfl⟩
 refine vq0 ?_
 exact ⟨so', rfl⟩
theorem req_solid (cs : List Cm) (hs : List Hs) (th : Tag) (gr : Int) : allSolid (reqG cs hs th gr) = True := by simp [reqG, allSolid, GVal.solid]
theorem iUpdateRaw (m : GM) (hm : GMOK m) (ti st s so : Nat) (cs : List Cm) (hs : List Hs) (th : Tag) (ht : th = .nil → hs = []) (gr n : Int) (M O M1 O1 : List Hs)
 (hcase : (gr ≠ 1 ∧ M1 = M ∧ O1 = O) ∨ (gr = 1 ∧ ∃ T1 : WSt, VisL m (masterB (ofM M O)) hs ([], []) T1 ∧ M1 = M ++ T1.2 ∧ O1 = woL O T1.2 ∧ (M.length : Int) + T1.2.length ≤ n ∧ T1.2.length ≤ 100000))
 (T2 : WSt) (hT2 : VisL m (fun h => (look (ofM M1 O1) h).isSome) (hs ++ cs.map (·.1)) ([], []) T2) (hc : cs.length ≤ 100000) (hh : hs.length ≤ 100000) (hM : M.length ≤ 100000) (hO : O.length ≤ 100000) (hM1 : M1.length ≤ 1000000) (hO1 : O1.length + T2.2.length ≤ 1000000) :
 GCalls Try.prog 15 [.ptr 2 ti 0 0, .ptr 0 st 0 0, .agg (reqG cs hs th gr)] (gObj st s m ++ idO2 ti so n M O) (fun g O' => ∃ so' tn sn, g = .lit .nilIface ∧ O' = (uO ti st s so tn sn n m M O M1 O1).set 2 (.row ti 4 [[.int .i64 n, .slice (hsG M1) .none, .slice (hsG (O1 ++ T2.2)) .none, .map 6 so']]) ++ [.map so' (kvG encI (ofM M1 (O1 ++ T2.2)))]) := by
 refine gcalls_of_wp (hf := Try.func15) (hb := rfl) (hn := Try.ntmps15) (hr := Try.results15) (hen := by kernel_rfl) (hargs := by simp) ?_
 intro E a w hs0 ha
 refine wp_seq (wp_partV (st := ⟨(gstart 86 [.ptr 2 ti 0 0, .ptr 0 st 0 0, .agg (reqG cs hs th gr)] []).s, gObj st s m ++ idO2 ti so n M O⟩) mixS (s := s15_0) (C := C10) (by kernel_rfl) (by kernel_rfl) hs0 ha (u0 ti st _ rfl (req_solid _ _ _ _) _) ?_)
 rintro ⟨t1, O1'⟩ E1 a1 w1 q1 k1 s1R ⟨e1, hw1⟩
 change O1' = gObj st s m ++ idO2 ti so n M O at e1
 subst e1
 have s1 := s1R.weak hw1
 show (Code.seq _ _).wp _ _ _ _
 refine wp_seq (wp_partV (st := ⟨uS ti st (.ref (reqG cs hs th gr)) .any .any .any .any .any .any .any, gObj st s m ++ idO2 ti so n M O⟩) mixS (s := .seq s15_1 s15_3) (C := C10) (by kernel_rfl) (by kernel_rfl) q1 s1 (u1 ti st _ _) ?_)
 rintro ⟨t2, O2'⟩ E2 a2 w2 q2 k2 s2R ⟨e2, hw2⟩
 change O2' = gObj st s m ++ idO2 ti so n M O at e2
 subst e2
 have s2 := s2R.weak hw2
 show (Code.seq _ _).wp _ _ _ _
 refine wp_seq (wp_partV (st := ⟨uS ti st (.ref (reqG cs hs th gr)) .any .any .any .any .any .any .any, gObj st s m ++ idO2 ti so n M O⟩) mixS (s := s15_4) (C := C10) (by kernel_rfl) (by kernel_rfl) q2 s2 (u4 ti st so _ n M O _ _) ?_)
 rintro ⟨t3, O3'⟩ E3 a3 w3 q3 k3 s3R ⟨e3, hw3⟩
 change O3' = gObj st s m ++ idO2 ti so n M O at e3
 subst e3
 have s3 := s3R.weak hw3
 have c12 : VCs Try.prog [5] s15_12 (vcN (NW (uS ti st (.ref (reqG cs hs th gr)) (.slice (hsG M1) .none) (.slice (hsG O1) .none) .any .any .any .any .any) (gObj st s m ++ idO2 ti so n M O))) ⟨uS ti st (.ref (reqG cs hs th gr)) (.slice (hsG M) .none) (.slice (hsG O) .none) .any .any .any .any .any, gObj st s m ++ idO2 ti so n M O⟩ := by
  rcases hcase with ⟨h1, rfl, rfl⟩ | ⟨rfl, T1, h1, rfl, rfl, h2, h3⟩
  · exact u12n ti st cs hs th gr h1 _ _ _
  · exact u12m m hm ti st s so cs hs th n M O T1 h1 (by omega) (by omega) (by omega) (by omega) h2
 show (Code.seq _ _).wp _ _ _ _
 refine wp_seq (wp_partV (st := ⟨uS ti st (.ref (reqG cs hs th gr)) (.slice (hsG M) .none) (.slice (hsG O) .none) .any .any .any .any .any, gObj st s m ++ idO2 ti so n M O⟩) mixS (s := s15_12) (C := C10) (by kernel_rfl) (by kernel_rfl) q3 s3 c12 ?_)
 rintro ⟨t4, O4'⟩ E4 a4 w4 q4 k4 s4R ⟨e4, hw4⟩
 change O4' = gObj st s m ++ idO2 ti so n M O at e4
 subst e4
 have s4 := s4R.weak hw4
 have k04 := ((k1.trans k2).trans k3).trans k4
 show (Code.seq _ _).wp _ _ _ _
 refine wp_seq (wp_partV (st := ⟨uS ti st (.ref (reqG cs hs th gr)) (.slice (hsG M1) .none) (.slice (hsG O1) .none) .any .any .any .any .any, gObj st s m ++ idO2 ti so n M O⟩) mixS (s := s15_13) (C := C10) (by kernel_rfl) (by kernel_rfl) q4 s4 (u13 ti st s so _ _ _ n m M O) ?_)
 rintro ⟨t5, O5'⟩ E5 a5 w5 q5 k5 s5R ⟨tn, tb, e5, hw5⟩
 change O5' = (gObj st s m ++ idO2 ti so n M O ++ [.row tn 4 [[.int .i64 0, .slice [] .nil, .slice [] .nil, .lit (.map none)]]]) ++ [.row tb 1 [[.ptr 4 tn 0 0]]] at e5
 subst e5
 obtain ⟨q6, k6, s6⟩ := q5.meltBox1 (s5R.weak hw5) 10 rfl rfl
 show (Code.seq _ _).wp _ _ _ _
 refine wp_seq (wp_partV (st := ⟨uS ti st (.ref (reqG cs hs th gr)) (.slice (hsG M1) .none) (.slice (hsG O1) .none) (.ref [.ptr 4 tn 0 0]) .any .any .any .any, gObj st s m ++ idO2 ti so n M O ++ [.row tn 4 [[.int .i64 0, .slice [] .nil, .slice [] .nil, .lit (.map none)]]]⟩) mixS (s := s15_14) (C := C10) (by kernel_rfl) (by kernel_rfl) q6 (s6.weak (by simp [WL, leG_self, leG_any])) (u14 ti st s so tn _ n m M O M1 O1 hM1 (by omega)) ?_)
 rintro ⟨t7, O7'⟩ E7 a7 w7 q7 k7 s7R ⟨sn, e7, hw7⟩
 change O7' = uO ti st s so tn sn n m M O M1 O1 at e7
 subst e7
 have s7 := s7R.weak hw7
 have k07 := ((k04.trans k5).trans k6).trans k7
 show (Code.seq _ _).wp _ _ _ _
 refine wp_seq (wp_partV (st := ⟨uS ti st (.ref (reqG cs hs th gr)) (.slice (hsG M1) .none) (.slice (hsG O1) .none) (.ref [.ptr 4 tn 0 0]) .any .any .any .any, uO ti st s so tn sn n m M O M1 O1⟩) mixS (s := s15_15) (C := C10) (by kernel_rfl) (by kernel_rfl) q7 s7 (u15 ti st _ _ _ cs hs th ht (by omega) gr _ rfl) ?_)
 rintro ⟨t8, O8'⟩ E8 a8 w8 q8 k8 s8R h8
 obtain ⟨x11, X, hx, e8, s8⟩ : ∃ x11 X, ((hs = [] ∧ x11 = .slice [] .nil ∧ X = []) ∨ ∃ v, x11 = .own 6 v 0 hs.length ∧ X = [.row v 32 (hsG hs)]) ∧ O8' = uO ti st s so tn sn n m M O M1 O1 ++ X ∧ SlotsR E8 a8 (uS ti st (.ref (reqG cs hs th gr)) (.slice (hsG M1) .none) (.slice (hsG O1) .none) (.ref [.ptr 4 tn 0 0]) x11 .any .any .any) := by
  rcases h8 with ⟨h1, e, hw⟩ | ⟨v, e, hw⟩
  · exact ⟨_, [], .inl ⟨h1, rfl, rfl⟩, by rw [List.append_nil]; exact e, s8R.weak hw⟩
  · exact ⟨_, _, .inr ⟨v, rfl, rfl⟩, e, s8R.weak hw⟩
 subst e8
 show (Code.seq _ _).wp _ _ _ _
 refine wp_seq (wp_partV (st := ⟨uS ti st (.ref (reqG cs hs th gr)) (.slice (hsG M1) .none) (.slice (hsG O1) .none) (.ref [.ptr 4 tn 0 0]) x11 .any .any .any, uO ti st s so tn sn n m M O M1 O1 ++ X⟩) mixS (s := s15_23) (C := C10) (by kernel_rfl) (by kernel_rfl) q8 s8 (u23 ti st s so tn sn n m M O M1 O1 _ _ _ x11 X cs hs th gr (by omega) (by omega) hx) ?_)
 rintro ⟨t9, O9'⟩ E9 a9 w9 q9 k9 s9R ⟨v, e9, hw9⟩
 change O9' = uO ti st s so tn sn n m M O M1 O1 ++ [.row v 32 (hsG (hs ++ cs.map (·.1)))] at e9
 subst e9
 have s9 := s9R.weak hw9
 obtain ⟨st', Ex, e10, q10, k10, s10⟩ := (Into.melt (st := ⟨uS ti st (.ref (reqG cs hs th gr)) (.slice (hsG M1) .none) (.slice (hsG O1) .none) (.ref [.ptr 4 tn 0 0]) (.own 6 v 0 (hs ++ cs.map (·.1)).length) .any .any .any, uO ti st s so tn sn n m M O M1 O1 ++ [.row v 32 (hsG (hs ++ cs.map (·.1)))]⟩) (N := fun st' => st' = ⟨uS ti st (.ref (reqG cs hs th gr)) (.slice (hsG M1) .none) (.slice (hsG O1) .none) (.ref [.ptr 4 tn 0 0]) (.slice (hsG (hs ++ cs.map (·.1))) .none) .any .any .any, uO ti st s so tn sn n m M O M1 O1⟩) 11 2 rfl rfl (hsG_len _).symm (frz_hs _ 1 _) (Into.here rfl)) E9 a9 w9 q9 s9
 subst e10
 have K10 := ((k07.trans k8).trans k9).trans k10
 refine wp_mono (vc_sound mixS _ (retQ Try.prog [.tmp 6] _) ⟨_, _⟩ _ a9 w9 (C := C10) (by kernel_rfl) q10 s10 (vcS_ok (C := C10) _ _ _ _ _ (by kernel_rfl) ?_ (u27 m hm ti st s so tn sn n M O M1 O1 _ _ (by rw [List.length_append, List.length_map]; omega) T2 hT2 hM1 hO1).ok)) (fun e a' w' hpost => Post.trans K10 hpost)
 intro e s h
 cases e with
 | normal => obtain ⟨so', h1, h2⟩ := h; exact ⟨so', tn, sn, h1, h2⟩
 | ret => obtain ⟨so', h1, h2⟩ := h; exact ⟨so', tn, sn, h1, h2⟩
 | exit k => exact h.elim
theorem iUpdate (m : GM) (hm : GMOK m) (ti st s so : Nat) (cs : List Cm) (hs : List Hs) (th : Tag) (ht : th = .nil → hs = []) (gr n : Int) (M O M1 O1 : List Hs)
 (hcase : (gr ≠ 1 ∧ M1 = M ∧ O1 = O) ∨ (gr = 1 ∧ ∃ T1 : WSt, VisL m (masterB (ofM M O)) hs ([], []) T1 ∧ M1 = M ++ T1.2 ∧ O1 = woL O T1.2 ∧ (M.length : Int) + T1.2.length ≤ n ∧ T1.2.length ≤ 100000))
 (T2 : WSt) (hT2 : VisL m (fun h => (look (ofM M1 O1) h).isSome) (hs ++ cs.map (·.1)) ([], []) T2) (hc : cs.length ≤ 100000) (hh : hs.length ≤ 100000) (hM : M.length ≤ 100000) (hO : O.length ≤ 100000) (hM1 : M1.length ≤ 1000000) (hO1 : O1.length + T2.2.length ≤ 1000000) :
 GCalls Try.prog 15 [.ptr 2 ti 0 0, .ptr 0 st 0 0, .agg (reqG cs hs th gr)] (gObj st s m ++ idO2 ti so n M O) (fun g O' => ∃ so', g = .lit .nilIface ∧ O' = gObj st s m ++ idO2 ti so' n M1 (O1 ++ T2.2)) := by
 refine GCalls.into ((iUpdateRaw m hm ti st s so cs hs th ht gr n M O M1 O1 hcase T2 hT2 hc hh hM hO hM1 hO1).mono ?_)
 rintro g O' ⟨so', tn, sn, rfl, rfl⟩
 exact GInto.pick (X := gObj st s m ++ idO2 ti so' n M1 (O1 ++ T2.2)) [0, 1, 2, 6] ⟨⟨_, rfl, .refl _⟩, ⟨_, rfl, .refl _⟩, ⟨_, rfl, OLe.row ⟨⟨GLe.refl _, GLe.refl _, GLe.refl _, GLe.map _ _ _, trivial⟩, trivial⟩⟩, ⟨_, rfl, .refl _⟩, trivial⟩ (by decide) rfl ⟨so', rfl, rfl⟩
def UpL (m : GM) : List Hs → List Hs → Prop
 | _, [] => True
 | acc, x :: r => (∀ y ∈ parsM m x, y ∈ acc) ∧ UpL m (acc ++ [x]) r
theorem UpL.app {m : GM} : ∀ (a b acc : List Hs), UpL m acc (a ++ b) ↔ UpL m acc a ∧ UpL m (acc ++ a) b
 | [], b, acc => by simp [UpL]
 | x :: r, b, acc => by
  rw [List.cons_append, UpL, UpL, UpL.app r b (acc ++ [x]), and_assoc];simp
theorem UpL.filter {m : GM} (p : Hs → Bool) : ∀ (l acc acc' : List Hs), (∀ y ∈ acc, y ∈ acc') → (∀ y ∈ l, p y = false → y ∈ acc') → UpL m acc l → UpL m acc' (l.filter p)
 | [], _, _, _, _, _ => trivial
 | x :: r, acc, acc', h1, h2, h => by
  rw [UpL] at h;rw [List.filter_cons];cases hp : p x with
  | true =>
   rw [if_pos rfl, UpL];refine ⟨fun y hy => h1 y (h.1 y hy), UpL.filter p r _ _ (fun y hy => ?_) (fun y hy hpy => List.mem_append_left _ (h2 y (by simp [hy]) hpy)) h.2⟩;rcases List.mem_append.1 hy with q | q
   · exact List.mem_append_left _ (h1 y q)
   · exact List.mem_append_right _ q
  | false =>
   rw [if_neg (by simp)];refine UpL.filter p r _ _ (fun y hy => ?_) (fun y hy hpy => h2 y (by simp [hy]) hpy) h.2;rcases List.mem_append.1 hy with q | q
   · exact h1 y q
   · rw [List.mem_singleton.1 q]; exact h2 x (by simp) hp
theorem UpL.of {m : GM} {T acc : List Hs} (h : ∀ (i : Nat) x, T[i]? = some x → ∀ y ∈ parsM m x, y ∈ acc ∨ y ∈ T.take i) : UpL m acc T := by
 have : ∀ b a : List Hs, T = a ++ b → UpL m (acc ++ a) b := by
  intro b;induction b with
  | nil => exact fun _ _ => trivial
  | cons x r ih =>
   intro a e;rw [UpL];refine ⟨fun y hy => ?_, ?_⟩
   · have hx : T[a.length]? = some x := by rw [e, List.getElem?_append_right (Nat.le_refl _), Nat.sub_self]; rfl
     have ht : T.take a.length = a := by rw [e]; exact List.take_left
     have := h a.length x hx y hy;rw [ht] at this;exact List.mem_append.2 this
   · rw [List.append_assoc];exact ih (a ++ [x]) (by rw [e]; simp)
 have := this T [] rfl
 rwa [List.append_nil] at this
theorem UpL.at_ {m : GM} : ∀ {l acc : List Hs}, UpL m acc l → ∀ (i : Nat) (x : Hs), l[i]? = some x → ∀ y ∈ parsM m x, y ∈ acc ++ l.take i
 | [], acc, _, i, x, hi, y, hy => by simp at hi
 | z :: r, acc, h, 0, x, hi, y, hy => by
  simp at hi; subst hi;rw [UpL] at h
  simpa using h.1 y hy
 | z :: r, acc, h, i + 1, x, hi, y, hy => by
  rw [UpL] at h;have := UpL.at_ h.2 i x (by simpa using hi) y hy
  simpa using this
theorem UpL.congr {m m1 : GM} : ∀ (l acc : List Hs), (∀ x ∈ l, parsM m1 x = parsM m x) → UpL m acc l → UpL m1 acc l
 | [], _, _, _ => trivial
 | x :: r, acc, h, hu => by
  rw [UpL] at hu ⊢;rw [h x (by simp)];exact ⟨hu.1, UpL.congr r _ (fun y hy => h y (by simp [hy])) hu.2⟩
structure NumOK (m : GM) (M O : List Hs) : Prop where
 nd : (M ++ O).Nodup
 all : ∀ x, x ∈ M ++ O ↔ (look m x).isSome = true
 up : UpL m [] (M ++ O)
theorem numK_no {l : List Hs} {b : Int} {a : List (Hs × Int)} {x : Hs} : ∀ {k : Nat}, k ≤ l.length → x ∉ l.take k → look (numK l b a k) x = look a x
 | 0, _, _ => rfl
 | k + 1, hk, hx => by
  rw [takeH (by omega)] at hx;simp only [List.mem_append, List.mem_singleton, not_or] at hx;rw [numK, look_mset, if_neg hx.2];exact numK_no (by omega) hx.1
theorem getD_at {l : List Hs} {j : Nat} {x : Hs} (h : l[j]? = some x) : l.getD j h0 = x := by simp [List.getD, h]
theorem numK_at {l : List Hs} {b : Int} {a : List (Hs × Int)} (hn : l.Nodup) {j : Nat} {x : Hs} (hx : l[j]? = some x) : ∀ {k : Nat}, j < k → k ≤ l.length → look (numK l b a k) x = some (b + j)
 | 0, h, _ => by omega
 | k + 1, h, hk => by
  rw [numK, look_mset];by_cases e : j = k
  · subst e;rw [if_pos (getD_at hx).symm]
  · have hne : x ≠ l.getD k h0 := fun q => by
     have h2 : l[k]? = some x := by
      rw [List.getElem?_eq_getElem (by omega)];rw [List.getD_eq_getElem?_getD, List.getElem?_eq_getElem (by omega)] at q;exact congrArg some q.symm
     exact e (nodup_at hn hx h2)
    rw [if_neg hne];exact numK_at hn hx (by omega) (by omega)
theorem id_m {M O : List Hs} (hn : (M ++ O).Nodup) {j : Nat} {x : Hs} (hx : M[j]? = some x) : look (ofM M O) x = some (j : Int) := by
 obtain ⟨h1, h2, h3⟩ := List.nodup_append.1 hn
 have hxM : x ∈ M := List.mem_of_getElem? hx
 rw [ofM, numK_no (Nat.le_refl _) (fun q => by rw [List.take_length] at q; exact h3 x hxM x q rfl), numK_at h1 hx (List.getElem?_eq_some_iff.1 hx).1 (Nat.le_refl _), Int.zero_add]
theorem id_o {M O : List Hs} (hn : (M ++ O).Nodup) {j : Nat} {x : Hs} (hx : O[j]? = some x) : look (ofM M O) x = some (1099511627776 + (j : Int)) := by
 obtain ⟨h1, h2, h3⟩ := List.nodup_append.1 hn
 rw [ofM, numK_at h2 hx (List.getElem?_eq_some_iff.1 hx).1 (Nat.le_refl _)]
theorem id_no {M O : List Hs} {x : Hs} (hx : x ∉ M ++ O) : look (ofM M O) x = none := by
 simp only [List.mem_append, not_or] at hx
 rw [ofM, numK_no (Nat.le_refl _) (by rw [List.take_length]; exact hx.2), numK_no (Nat.le_refl _) (by rw [List.take_length]; exact hx.1)]
 rfl
theorem id_some {M O : List Hs} (hn : (M ++ O).Nodup) (x : Hs) : (look (ofM M O) x).isSome = decide (x ∈ M ++ O) := by
 by_cases h : x ∈ M ++ O
 · rw [decide_eq_true h];rcases List.mem_append.1 h with q | q
   · obtain ⟨j, hj⟩ := List.getElem?_of_mem q;rw [id_m hn hj]; rfl
   · obtain ⟨j, hj⟩ := List.getElem?_of_mem q;rw [id_o hn hj]; rfl
 · rw [decide_eq_false h, id_no h]; rfl
theorem id_master {M O : List Hs} (hn : (M ++ O).Nodup) (hl : M.length ≤ 1000000) (x : Hs) : masterB (ofM M O) x = decide (x ∈ M) := by
 unfold masterB
 by_cases h : x ∈ M
 · obtain ⟨j, hj⟩ := List.getElem?_of_mem h;have := (List.getElem?_eq_some_iff.1 hj).1;rw [decide_eq_true h, id_m hn hj];exact decide_eq_true (by show (j : Int) < 1099511627776; omega)
 · rw [decide_eq_false h];by_cases h2 : x ∈ O
   · obtain ⟨j, hj⟩ := List.getElem?_of_mem h2;rw [id_o hn hj];exact decide_eq_false (by show ¬ (1099511627776 + (j : Int)) < 1099511627776; omega)
   · rw [id_no (by simp [h, h2])]
theorem reach_pars {m : GM} {M : List Hs} (hu : UpL m [] M) {z y : Hs} (hz : z ∈ M) (hy : y ∈ parsM m z) : y ∈ M := by
 obtain ⟨i, hi⟩ := List.getElem?_of_mem hz
 have := hu.at_ i z hi y hy
 rw [List.nil_append] at this
 exact List.mem_of_mem_take this
theorem num_step {m m1 : GM} {M O : List Hs} (h : NumOK m M O) (hg1 : Good m1) (hext : ∀ x l, look m x = some l → look m1 x = some l) {gr : Int} {hs : List Hs} {cs : List Cm}
 (hcs : ∀ x, (look m1 x).isSome = true → (look m x).isSome = true ∨ x ∈ cs.map (·.1)) {M1 O1 : List Hs} (hMl : M.length ≤ 1000000)
 (hcase : (gr ≠ 1 ∧ M1 = M ∧ O1 = O) ∨ (gr = 1 ∧ ∃ T1 : WSt, VisL m1 (masterB (ofM M O)) hs ([], []) T1 ∧ M1 = M ++ T1.2 ∧ O1 = woL O T1.2))
 {T2 : WSt} (hT2 : VisL m1 (fun h => (look (ofM M1 O1) h).isSome) (hs ++ cs.map (·.1)) ([], []) T2) :
 NumOK m1 M1 (O1 ++ T2.2) ∧ ∀ x, x ∈ M1 ↔ x ∈ M ∨ (gr = 1 ∧ Reach (parsM m1) (inM m1 hs) x) := by
 have hth : ∀ x, (look m x).isSome = true → (look m1 x).isSome = true ∧ parsM m1 x = parsM m x := fun x hx => by
  obtain ⟨l, hl⟩ := Option.isSome_iff_exists.1 hx;exact ⟨by rw [hext x l hl]; rfl, by rw [parsM_some hl, parsM_some (hext x l hl)]⟩
 have up1 : UpL m1 [] (M ++ O) := UpL.congr _ _ (fun x hx => (hth x ((h.all x).1 hx)).2) h.up
 obtain ⟨upM, upO⟩ := (UpL.app M O []).1 up1
 rw [List.nil_append] at upO
 obtain ⟨nM, nO, nMO⟩ := List.nodup_append.1 h.nd
 have key : (M1 ++ O1).Nodup ∧ (∀ x ∈ M1 ++ O1, (look m1 x).isSome = true) ∧ UpL m1 [] (M1 ++ O1) ∧ (∀ x ∈ M ++ O, x ∈ M1 ++ O1) ∧ ∀ x, x ∈ M1 ↔ x ∈ M ∨ (gr = 1 ∧ Reach (parsM m1) (inM m1 hs) x) := by
  rcases hcase with ⟨hg, rfl, rfl⟩ | ⟨hg, T1, hT1, rfl, rfl⟩
  · exact ⟨h.nd, fun x hx => (hth x ((h.all x).1 hx)).1, up1, fun x hx => hx, fun x => ⟨.inl, fun q => q.elim id fun e => absurd e.1 hg⟩⟩
  · obtain ⟨_, t1, t2, t3, t4⟩ := vis_spec0 hg1.acyc hT1;have hmb : ∀ x, masterB (ofM M O) x = decide (x ∈ M) := id_master h.nd hMl;have tM : ∀ x ∈ T1.2, x ∉ M := fun x hx q => by
     have := (t2 x hx).2.1;rw [hmb, decide_eq_true q] at this; cases this
    have hwo : ∀ x, x ∈ woL O T1.2 ↔ x ∈ O ∧ x ∉ T1.2 := fun x => by unfold woL; rw [List.mem_filter]; simp
    refine ⟨?_, fun x hx => ?_, ?_, fun x hx => ?_, fun x => ?_⟩
    · rw [List.nodup_append, List.nodup_append];refine ⟨⟨nM, t1, fun a ha b hb e => tM b hb (e ▸ ha)⟩, nO.sublist List.filter_sublist, fun a ha b hb e => ?_⟩;obtain ⟨q1, q2⟩ := (hwo b).1 hb;rcases List.mem_append.1 ha with q | q
      · exact nMO a q b q1 e
      · exact q2 (e ▸ q)
    · rcases List.mem_append.1 hx with q | q
      · rcases List.mem_append.1 q with q | q
        · exact (hth x ((h.all x).1 (List.mem_append_left _ q))).1
        · exact (t2 x q).1
      · exact (hth x ((h.all x).1 (List.mem_append_right _ ((hwo x).1 q).1))).1
    · rw [UpL.app, UpL.app];rw [List.nil_append, List.nil_append];refine ⟨⟨upM, UpL.of fun i x hi y hy => ?_⟩, ?_⟩
      · by_cases q : y ∈ M
        · exact .inl q
        · exact .inr (t4 i x hi y hy (hg1.closed x y hy) (by rw [hmb]; exact decide_eq_false q))
      · exact UpL.filter _ O M _ (fun y hy => List.mem_append_left _ hy) (fun y _ hp => List.mem_append_right _ (by simpa using hp)) upO
    · by_cases q : x ∈ T1.2
      · exact List.mem_append_left _ (List.mem_append_right _ q)
      · rcases List.mem_append.1 hx with r | r
        · exact List.mem_append_left _ (List.mem_append_left _ r)
        · exact List.mem_append_right _ ((hwo x).2 ⟨r, q⟩)
    · rw [List.mem_append];constructor
      · rintro (q | q)
        · exact .inl q
        · obtain ⟨a, _, c⟩ := t2 x q;exact .inr ⟨hg, c.inM a⟩
      · rintro (q | ⟨_, q⟩)
        · exact .inl q
        · induction q with
          | base x hx =>
           obtain ⟨a, b⟩ := List.mem_filter.1 hx;by_cases q : x ∈ M
           · exact .inl q
           · exact .inr (t3 x a b (by rw [hmb]; exact decide_eq_false q))
          | step z y _ hy ih =>
           rcases ih with r | r
           · exact .inl (reach_pars upM r hy)
           · by_cases q : y ∈ M
             · exact .inl q
             · obtain ⟨i, hi⟩ := List.getElem?_of_mem r;exact .inr (List.mem_of_mem_take (t4 i z hi y hy (hg1.closed z y hy) (by rw [hmb]; exact decide_eq_false q)))
 obtain ⟨k1, k2, k3, k4, k5⟩ := key
 refine ⟨?_, k5⟩
 obtain ⟨_, t1, t2, t3, t4⟩ := vis_spec0 hg1.acyc hT2
 have hdn : ∀ x, (look (ofM M1 O1) x).isSome = decide (x ∈ M1 ++ O1) := id_some k1
 have tN : ∀ x ∈ T2.2, x ∉ M1 ++ O1 := fun x hx q => by
  have := (t2 x hx).2.1;rw [hdn, decide_eq_true q] at this; cases this
 refine ⟨?_, fun x => ?_, ?_⟩
 · rw [← List.append_assoc, List.nodup_append];exact ⟨k1, t1, fun a ha b hb e => tN b hb (e ▸ ha)⟩
 · rw [← List.append_assoc, List.mem_append];constructor
   · rintro (q | q)
     · exact k2 x q
     · exact (t2 x q).1
   · intro hx;by_cases q : x ∈ M1 ++ O1
     · exact .inl q
     · rcases hcs x hx with r | r
       · exact absurd (k4 x ((h.all x).2 r)) q
       · exact .inr (t3 x (List.mem_append_right _ r) hx (by rw [hdn]; exact decide_eq_false q))
 · rw [← List.append_assoc, UpL.app, List.nil_append];refine ⟨k3, UpL.of fun i x hi y hy => ?_⟩;by_cases q : y ∈ M1 ++ O1
   · exact .inl q
   · exact .inr (t4 i x hi y hy (hg1.closed x y hy) (by rw [hdn]; exact decide_eq_false q))
abbrev mdObj (rt : Nat) (L : GM) (n : Int) (M O : List Hs) : List GObj := mObj (.int .i64 n) (.slice (hsG M) .none) (.slice (hsG O) .none) rt L
theorem at_qP {l : List Hs} {i : Nat} (h : i < l.length) : l[i]? = some (l.getD i h0) := by
 rw [List.getD_eq_getElem?_getD, List.getElem?_eq_getElem h]; rfl
def keepL (O gone : List Hs) : List Hs := O.filter fun x => !decide (x ∈ gone)
theorem hsG_appU (a b : List Hs) : hsG a ++ hsG b = hsG (a ++ b) := by simp [hsG]
theorem mID (L : GM) (nt : Nat) (n : Int) (M O : List Hs) (hn : (M ++ O).Nodup) (hM : M.length ≤ 1000000) (hO : O.length ≤ 1000000) (h : Hs) : GCalls Try.prog 58 [.ptr 0 nt 0 1, .agg (bytesG h.1)] (mdObj nt L n M O) (fun g O' => g = idV (ofM M O) h ∧ O' = mdObj nt L n M O) := by
 refine h58.ca ?_
 refine vq2 @hsG_len @v32 ?_
 refine vcSLoop_by (ι := { k : Nat // k ≤ M.length ∧ h ∉ M.take k }) (fun k => ⟨[.ptr 0 nt 0 1, .any, .any, .ref (bytesG h.1), .any, .any, .int .i64 (k.1 : Nat)] ++ List.replicate 40 .any, mdObj nt L n M O⟩) (fun k => M.length - k.1) ?_ ?_
 · exact Into.first ⟨0, Nat.zero_le _, by simp⟩ ⟨[], by simp⟩ (by simp [WL, leG_self, leG_any])
 · rintro ⟨k, hk, hno⟩
   change k ≤ M.length at hk
   by_cases hc : k < M.length
   · have d0 : ((k : Int) < (M.length : Int)) = True := eq_true (by omega);have eS := hsG_at M k hc;have ea := at_qP hc;have ht := takeH hc;have hi := @id_m M O hn k;generalize M.getD k h0 = x at *;have ce := cellsEq_hs x h;by_cases e : x = h
     · subst e;rw [decide_eq_true rfl] at ce;have ev : idV (ofM M O) x = .tuple [.int .i64 (k : Int), .bool true] := by unfold idV; rw [hi ea]; rfl
       refine vq5 d0 eS @hsG_len ce @v32 ?_;exact ⟨by omega, ev.symm⟩
     · rw [decide_eq_false e] at ce;refine vq5 d0 eS @hsG_len ce @v32 ?_;refine ⟨by omega, ?_⟩;exact Into.at ⟨k + 1, hc, by rw [ht, List.mem_append, List.mem_singleton]; exact fun q => q.elim hno fun q => e q.symm⟩ (by show M.length - (k + 1) < M.length - k; omega) ⟨[], by simp⟩ (by simp [WL, leG_self, leG_any, leG_int])
   · have d0 : ((k : Int) < (M.length : Int)) = False := eq_false (by omega);rw [List.take_of_length_le (by omega)] at hno;refine vq2 d0 @hsG_len ?_;refine vcSLoop_by (ι := { k : Nat // k ≤ O.length ∧ h ∉ O.take k }) (fun k => ⟨[.ptr 0 nt 0 1, .any, .any, .ref (bytesG h.1), .any, .any, .any, .int .i64 (k.1 : Nat)] ++ List.replicate 39 .any, mdObj nt L n M O⟩) (fun k => O.length - k.1) ?_ ?_
     · exact Into.first ⟨0, Nat.zero_le _, by simp⟩ ⟨[], by simp⟩ (by simp [WL, leG_self, leG_any])
     · rintro ⟨j, hj, hno2⟩
       change j ≤ O.length at hj
       by_cases hc : j < O.length
       · have d0 : ((j : Int) < (O.length : Int)) = True := eq_true (by omega);have eS := hsG_at O j hc;have ea := at_qP hc;have ht := takeH hc;have hi := @id_o M O hn j;generalize O.getD j h0 = x at *;have ce := cellsEq_hs x h;by_cases e : x = h
         · subst e;rw [decide_eq_true rfl] at ce;have ev : idV (ofM M O) x = .tuple [.int .i64 (1099511627776 + (j : Int)), .bool true] := by unfold idV; rw [hi ea]; rfl
           have en : norm .i64 (1099511627776 + (j : Int)) = 1099511627776 + (j : Int) := norm_i64 (by omega);refine vq6 d0 eS @hsG_len ce en @v32 ?_;exact ⟨by omega, ev.symm⟩
         · rw [decide_eq_false e] at ce;refine vq5 d0 eS @hsG_len ce @v32 ?_;refine ⟨by omega, ?_⟩;exact Into.at ⟨j + 1, hc, by rw [ht, List.mem_append, List.mem_singleton]; exact fun q => q.elim hno2 fun q => e q.symm⟩ (by show O.length - (j + 1) < O.length - j; omega) ⟨[], by simp⟩ (by simp [WL, leG_self, leG_any, leG_int])
       · have d0 : ((j : Int) < (O.length : Int)) = False := eq_false (by omega);rw [List.take_of_length_le (by omega)] at hno2;have ev : idV (ofM M O) h = .tuple [.int .i64 0, .bool false] := by unfold idV; rw [id_no (by rw [List.mem_append]; exact fun q => q.elim hno hno2)]; rfl
         refine vq2 d0 @hsG_len ?_;exact ev.symm
theorem mUpdFull (L : GM) (hL : SSC L) (hg : Good L) (rt : Nat) (n : Int) (M O : List Hs) (hM : M.length ≤ 10000) (cs : List Cm) (hs : List Hs) (th : Tag) (hh : hs.length ≤ 10000) (T : WSt) (hT : VisL L (fun x => decide (x ∈ M)) hs ([], []) T) (hTl : T.2.length ≤ 10000) (hn : n < (M.length : Int) + T.2.length) :
 GCalls Try.prog 29 [.ptr 0 rt 0 1, .ptr 0 rt 0 0, .agg (reqG cs hs th 1)] (mdObj rt L n M O) (fun g O' => g = .int .i64 13 ∧ O' = mdObj rt L n M O) := by
 have cW := fun (X : List GObj) => GCalls.keep1' (rWalkM _ _ _ L hL hg hs th (by omega) M .none (by omega) rt T hT) (O := mdObj rt L n M O ++ X) (args' := [.ptr 0 rt 0 0, .slice (hsG hs) th, .slice (hsG M) .none]) 0 rfl rfl rfl rfl
 have d0 : (n < (M.length : Int) + T.2.length) = True := eq_true hn
 have eL : (((hsG M ++ hsG T.2).length : Nat) : Int) = (M.length : Int) + T.2.length := by rw [List.length_append, hsG_len, hsG_len]; omega
 refine GCalls.dropTo ?_
 refine h29.ca ?_
 refine vq2 @hsG_len @all_hsG ?_
 refine ⟨by omega, by omega, fun s1 => ⟨⟨[_], rfl⟩, ?_⟩⟩
 refine (cW _).mono ?_
 rintro g O' ⟨rfl, rfl⟩
 refine vq4 @hsG_len @all_hsG d0 eL ?_
 exact ⟨by omega, by omega, fun s2 => ⟨_, mdObj rt L n M O, [.tok s2 32], rfl, leA_refl _, rfl, rfl⟩⟩
theorem mUpdRaw (L : GM) (hL : SSC L) (hg : Good L) (rt : Nat) (n : Int) (M O : List Hs) (hM : M.length ≤ 10000) (hO : O.length ≤ 10000) (cs : List Cm) (hs : List Hs) (th : Tag) (hh : hs.length ≤ 10000) (hc : cs.length ≤ 10000) (gr : Int) (M1 : List Hs) (T2 : WSt)
 (hgr : (gr ≠ 1 ∧ M1 = M) ∨ (gr = 1 ∧ ∃ T : WSt, VisL L (fun x => decide (x ∈ M)) hs ([], []) T ∧ T.2.length ≤ 10000 ∧ M1 = M ++ T.2 ∧ (M.length : Int) + T.2.length ≤ n))
 (hT2 : VisL L (fun x => decide (x ∈ M1 ++ keepL O M1)) (hs ++ cs.map (·.1)) ([], []) T2) (hT2l : T2.2.length ≤ 10000) :
 GCalls Try.prog 29 [.ptr 0 rt 0 1, .ptr 0 rt 0 0, .agg (reqG cs hs th gr)] (mdObj rt L n M O) (fun g O' => g = .int .i64 0 ∧ ∃ t1 t2 X, O' = .row rt 4 [[.slice (csG L) .none, .int .i64 n, .slice (hsG M1) t1, .slice (hsG (keepL O M1 ++ T2.2)) t2]] :: X) := by
 have hM1 : M1.length ≤ 20000 := by
  rcases hgr with ⟨_, rfl⟩ | ⟨_, T, _, h2, rfl, _⟩
  · omega
  · rw [List.length_append]; omega
 have hfl : ∀ k, (keepL (O.take k) M1).length ≤ k := fun k => by
  unfold keepL; refine Nat.le_trans (List.length_filter_le _ _) ?_; rw [List.length_take]; omega
 have hfO : (keepL O M1).length ≤ O.length := List.length_filter_le _ _
 have cI := fun y => hIn M1 .none y (by omega)
 have cW2 := fun (X : List GObj) th2 td2 => GCalls.keep1' (rWalkM _ _ _ L hL hg (hs ++ cs.map (·.1)) th2 (by rw [List.length_append, List.length_map]; omega) (M1 ++ keepL O M1) td2 (by rw [List.length_append]; omega) rt T2 hT2) (O := mdObj rt L n M O ++ X) (args' := [.ptr 0 rt 0 0, .slice (hsG (hs ++ cs.map (·.1))) th2, .slice (hsG (M1 ++ keepL O M1)) td2]) 0 rfl rfl rfl rfl
 rcases hgr with ⟨g1, g2⟩ | ⟨g1, T, hT, hTl, g2, hn⟩
 case' inl =>
  have d1 : (gr = 1) = False := eq_false g1;refine h29.calls mixS (by simp) ?_;simp only [gs0, s29, reduceAdd, reduceSub];simp +contextual -implicitDefEqProofs (maxSteps := 2000000) (disch := omega) only [drawC, drawK, keepT, ↓lenV, binV, ↓unV, optV, ↓loadV, ↓storeV, ↓fieldAddrV, ↓indexAddrV, ↓boxV, ↓buildSliceV, ↓sliceV, ↓nilV, ↓appendV, ↓srcV, bound, cutTag, hiTag, fillE, GVal.cells, GVal.ofConst, ↓resV, resG, ↓reduceIte, reduceEqDiff, reduceAdd, reduceSub, reduceLeDiff, reduceCtorEq, ↓asrcV, aggV, Tag.cap, GVal.solid, Nat.reduceBEq, reduceMul, reduceLT, vcA, ↓vcB, vcC, fbFg, hsG_len, all_hsG, d1, vcD]
 case' inr =>
  have d1 : (gr = 1) = True := eq_true g1;have d0 : (n < (M.length : Int) + T.2.length) = False := eq_false (by omega);have eL : (((hsG M ++ hsG T.2).length : Nat) : Int) = (M.length : Int) + T.2.length := by rw [List.length_append, hsG_len, hsG_len]; omega
  have cW := fun (X : List GObj) => GCalls.keep1' (rWalkM _ _ _ L hL hg hs th (by omega) M .none (by omega) rt T hT) (O := mdObj rt L n M O ++ X) (args' := [.ptr 0 rt 0 0, .slice (hsG hs) th, .slice (hsG M) .none]) 0 rfl rfl rfl rfl
  refine h29.calls mixS (by simp) ?_;simp only [gs0, s29, reduceAdd, reduceSub];simp +contextual -implicitDefEqProofs (maxSteps := 2000000) (disch := omega) only [drawC, drawK, keepT, ↓lenV, binV, ↓unV, optV, ↓loadV, ↓storeV, ↓fieldAddrV, ↓indexAddrV, ↓boxV, ↓buildSliceV, ↓sliceV, ↓nilV, ↓appendV, ↓srcV, bound, cutTag, hiTag, fillE, GVal.cells, GVal.ofConst, ↓resV, resG, ↓reduceIte, reduceEqDiff, reduceAdd, reduceSub, reduceLeDiff, reduceCtorEq, ↓asrcV, aggV, Tag.cap, GVal.solid, Nat.reduceBEq, reduceMul, reduceLT, vcA, ↓vcB, vcC, fbFg, hsG_len, all_hsG, d1, vcD, vnT]
  refine ⟨by omega, by omega, fun s1 => ⟨⟨[_], rfl⟩, ?_⟩⟩;refine (cW _).mono ?_;rintro g O' ⟨rfl, rfl⟩;simp +contextual -implicitDefEqProofs (maxSteps := 2000000) (disch := omega) only [drawC, drawK, keepT, ↓lenV, binV, ↓unV, optV, ↓loadV, ↓storeV, ↓fieldAddrV, ↓indexAddrV, ↓boxV, ↓buildSliceV, ↓sliceV, ↓nilV, ↓appendV, ↓srcV, bound, cutTag, hiTag, fillE, GVal.cells, GVal.ofConst, ↓resV, resG, ↓reduceIte, reduceEqDiff, reduceAdd, reduceSub, reduceLeDiff, reduceCtorEq, ↓asrcV, aggV, Tag.cap, GVal.solid, Nat.reduceBEq, reduceMul, reduceLT, vcA, ↓vcB, vcC, fbFg, hsG_len, all_hsG, d0, eL, vcD, vnT]
  refine ⟨by omega, by omega, fun s2 => ?_⟩
 all_goals
  refine vcSLoop_by (ι := { p : Nat × Nat // p.1 ≤ O.length }) (fun p => ⟨[.ptr 0 rt 0 1, .ptr 0 rt 0 0, .any, .any, .any, .ref (reqG cs hs th gr), .any, .slice (hsG M1) .none, .slice (hsG (keepL (O.take p.1.1) M1)) (.tok 1 p.1.2), .int .i64 (p.1.1 : Nat)] ++ List.replicate 98 .any, mdObj rt L n M O ++ [.tok p.1.2 32]⟩) (fun p => O.length - p.1.1) ?_ ?_
  · first
     | refine Into.drop (O := mdObj rt L n M O) (X := [.tok _ 32]) rfl ?_
     | skip
    refine Into.tok 8 32 [] rfl rfl ?_;simp +contextual -implicitDefEqProofs (maxSteps := 2000000) (disch := omega) only [drawC, drawK, keepT, ↓lenV, binV, ↓unV, optV, ↓loadV, ↓storeV, ↓fieldAddrV, ↓indexAddrV, ↓boxV, ↓buildSliceV, ↓sliceV, ↓nilV, ↓appendV, ↓srcV, bound, cutTag, hiTag, fillE, GVal.cells, GVal.ofConst, ↓resV, resG, ↓reduceIte, reduceEqDiff, reduceAdd, reduceSub, reduceLeDiff, reduceCtorEq, ↓asrcV, aggV, Tag.cap, GVal.solid, Nat.reduceBEq, reduceMul, reduceLT, vcA, ↓vcB, vcC, fbFg, vcD]
    intro so;exact Into.first ⟨(0, so), Nat.zero_le _⟩ ⟨[], by simp⟩ (by simp [WL, leG_self, leG_any, leG_none, keepL, hsG, g2])
  · rintro ⟨⟨k, so⟩, hk⟩
    change k ≤ O.length at hk
    have hfk := hfl k;by_cases h : k < O.length
    · have d0 : ((k : Int) < (O.length : Int)) = True := eq_true (by omega);have eS := hsG_at O k h;have ht := takeH h;generalize O.getD k h0 = y at *;have cIy := cI y;by_cases hm : y ∈ M1
      · rw [decide_eq_true hm] at cIy;have e2 : keepL (O.take (k + 1)) M1 = keepL (O.take k) M1 := by rw [ht, keepL, List.filter_append]; simp [hm, keepL]
        simp +contextual -implicitDefEqProofs (maxSteps := 2000000) (disch := omega) only [drawC, drawK, keepT, ↓lenV, binV, ↓unV, optV, ↓loadV, ↓storeV, ↓fieldAddrV, ↓indexAddrV, ↓boxV, ↓buildSliceV, ↓sliceV, ↓nilV, ↓appendV, ↓srcV, bound, cutTag, hiTag, fillE, GVal.cells, GVal.ofConst, ↓resV, resG, ↓reduceIte, reduceEqDiff, reduceAdd, reduceSub, reduceLeDiff, reduceCtorEq, ↓asrcV, aggV, Tag.cap, GVal.solid, Nat.reduceBEq, reduceMul, reduceLT, vcA, ↓vcB, vcC, fbFg, d0, eS, hsG_len, all_hsG, vcD, v32]
        refine ⟨by omega, ?_⟩;refine cIy.then ?_ (by rfl)
        simp +contextual -implicitDefEqProofs (maxSteps := 2000000) (disch := omega) only [drawC, drawK, keepT, ↓lenV, binV, ↓unV, optV, ↓loadV, ↓storeV, ↓fieldAddrV, ↓indexAddrV, ↓boxV, ↓buildSliceV, ↓sliceV, ↓nilV, ↓appendV, ↓srcV, bound, cutTag, hiTag, fillE, GVal.cells, GVal.ofConst, ↓resV, resG, ↓reduceIte, reduceEqDiff, reduceAdd, reduceSub, reduceLeDiff, reduceCtorEq, ↓asrcV, aggV, Tag.cap, GVal.solid, Nat.reduceBEq, reduceMul, reduceLT, vcA, ↓vcB, vcC, fbFg, vcD]
        exact Into.at ⟨(k + 1, so), h⟩ (by show O.length - (k + 1) < O.length - k; omega) ⟨[], by simp⟩ (by simp [WL, leG_self, leG_any, leG_int, e2])
      · rw [decide_eq_false hm] at cIy;have e2 : keepL (O.take (k + 1)) M1 = keepL (O.take k) M1 ++ [y] := by rw [ht, keepL, List.filter_append]; simp [hm, keepL]
        simp +contextual -implicitDefEqProofs (maxSteps := 2000000) (disch := omega) only [drawC, drawK, keepT, ↓lenV, binV, ↓unV, optV, ↓loadV, ↓storeV, ↓fieldAddrV, ↓indexAddrV, ↓boxV, ↓buildSliceV, ↓sliceV, ↓nilV, ↓appendV, ↓srcV, bound, cutTag, hiTag, fillE, GVal.cells, GVal.ofConst, ↓resV, resG, ↓reduceIte, reduceEqDiff, reduceAdd, reduceSub, reduceLeDiff, reduceCtorEq, ↓asrcV, aggV, Tag.cap, GVal.solid, Nat.reduceBEq, reduceMul, reduceLT, vcA, ↓vcB, vcC, fbFg, d0, eS, hsG_len, all_hsG, vcD, v32]
        refine ⟨by omega, ?_⟩;refine cIy.then ?_ (by rfl)
        simp +contextual -implicitDefEqProofs (maxSteps := 2000000) (disch := omega) only [drawC, drawK, keepT, ↓lenV, binV, ↓unV, optV, ↓loadV, ↓storeV, ↓fieldAddrV, ↓indexAddrV, ↓boxV, ↓buildSliceV, ↓sliceV, ↓nilV, ↓appendV, ↓srcV, bound, cutTag, hiTag, fillE, GVal.cells, GVal.ofConst, ↓resV, resG, ↓reduceIte, reduceEqDiff, reduceAdd, reduceSub, reduceLeDiff, reduceCtorEq, ↓asrcV, aggV, Tag.cap, GVal.solid, Nat.reduceBEq, reduceMul, reduceLT, vcA, ↓vcB, vcC, fbFg, eS, hsG_len, all_hsG, vcD, v32]
        refine ⟨by omega, by omega, by omega, by omega, fun so' => ?_⟩;exact Into.at ⟨(k + 1, so'), h⟩ (by show O.length - (k + 1) < O.length - k; omega) ⟨[], by simp⟩ (by simp [WL, leG_self, leG_any, leG_int, e2, hsG])
    · have d0 : ((k : Int) < (O.length : Int)) = False := eq_false (by omega);have e1 : O.take k = O := List.take_of_length_le (by omega);simp +contextual -implicitDefEqProofs (maxSteps := 2000000) (disch := omega) only [drawC, drawK, keepT, ↓lenV, binV, ↓unV, optV, ↓loadV, ↓storeV, ↓fieldAddrV, ↓indexAddrV, ↓boxV, ↓buildSliceV, ↓sliceV, ↓nilV, ↓appendV, ↓srcV, bound, cutTag, hiTag, fillE, GVal.cells, GVal.ofConst, ↓resV, resG, ↓reduceIte, reduceEqDiff, reduceAdd, reduceSub, reduceLeDiff, reduceCtorEq, ↓asrcV, aggV, Tag.cap, GVal.solid, Nat.reduceBEq, reduceMul, reduceLT, vcA, ↓vcB, vcC, fbFg, d0, hsG_len, all_hsG, e1, vcD]
      refine ⟨by omega, by omega, fun sh0 => ?_⟩;refine vcSLoop_by (ι := { p : Nat × Nat // p.1 ≤ cs.length }) (fun p => ⟨[.ptr 0 rt 0 1, .ptr 0 rt 0 0, .any, .any, .any, .ref (reqG cs hs th gr), .any, .slice (hsG M1) .none, .slice (hsG (keepL O M1)) (.tok 1 so), .any, .slice (hsG (hs ++ (cs.take p.1.1).map (·.1))) (.tok 2 p.1.2), .int .i64 (p.1.1 : Nat)] ++ List.replicate 96 .any, mdObj rt L n M O ++ [.tok so 32, .tok p.1.2 32]⟩) (fun p => cs.length - p.1.1) ?_ ?_
      · exact Into.first ⟨(0, sh0), Nat.zero_le _⟩ ⟨[], by simp⟩ (by simp [WL, leG_self, leG_any])
      · clear h d0 hk hfk;rintro ⟨⟨k, sh⟩, hk⟩
        change k ≤ cs.length at hk
        by_cases h : k < cs.length
        · have d0 : ((k : Int) < (cs.length : Int)) = True := eq_true (by omega);have eS := csG_at cs k h;have ht := takeC h;obtain ⟨x, hx⟩ : ∃ x, cs.getD k default = x := ⟨_, rfl⟩
          rw [hx] at eS ht;obtain ⟨xh, ps⟩ := x;have e2 : hsG (hs ++ (cs.take (k + 1)).map (·.1)) = hsG (hs ++ (cs.take k).map (·.1)) ++ [bytesG xh.1] := by rw [ht]; simp [hsG]
          have hl : (hs ++ (cs.take k).map (·.1)).length = hs.length + k := by rw [List.length_append, List.length_map, List.length_take]; omega
          simp +contextual -implicitDefEqProofs (maxSteps := 2000000) (disch := omega) only [drawC, drawK, keepT, ↓lenV, binV, ↓unV, optV, ↓loadV, ↓storeV, ↓fieldAddrV, ↓indexAddrV, ↓boxV, ↓buildSliceV, ↓sliceV, ↓nilV, ↓appendV, ↓srcV, bound, cutTag, hiTag, fillE, GVal.cells, GVal.ofConst, ↓resV, resG, ↓reduceIte, reduceEqDiff, reduceAdd, reduceSub, reduceLeDiff, reduceCtorEq, ↓asrcV, aggV, Tag.cap, GVal.solid, Nat.reduceBEq, reduceMul, reduceLT, vcA, ↓vcB, vcC, fbFg, d0, eS, csG_len, comG, hsG_len, all_hsG, hl, vcD, v33, v32]
          refine ⟨by omega, by omega, by omega, fun sh' => ?_⟩
          rw [← e2];exact Into.at ⟨(k + 1, sh'), h⟩ (by show cs.length - (k + 1) < cs.length - k; omega) ⟨[], by simp⟩ (by simp [WL, leG_self, leG_any, leG_int])
        · have d0 : ((k : Int) < (cs.length : Int)) = False := eq_false (by omega);have e1 : cs.take k = cs := List.take_of_length_le (by omega);simp +contextual -implicitDefEqProofs (maxSteps := 2000000) (disch := omega) only [drawC, drawK, keepT, ↓lenV, binV, ↓unV, optV, ↓loadV, ↓storeV, ↓fieldAddrV, ↓indexAddrV, ↓boxV, ↓buildSliceV, ↓sliceV, ↓nilV, ↓appendV, ↓srcV, bound, cutTag, hiTag, fillE, GVal.cells, GVal.ofConst, ↓resV, resG, ↓reduceIte, reduceEqDiff, reduceAdd, reduceSub, reduceLeDiff, reduceCtorEq, ↓asrcV, aggV, Tag.cap, GVal.solid, Nat.reduceBEq, reduceMul, reduceLT, vcA, ↓vcB, vcC, fbFg, d0, csG_len, hsG_len, all_hsG, e1, vcD]
          refine ⟨by omega, by omega, fun s4 => ⟨by omega, by omega, fun s5 => ?_⟩⟩;rw [hsG_appU];refine (cW2 [.tok so 32, .tok sh 32, .tok s5 32] (.tok 2 sh) (.tok 3 s5)).mono ?_;rintro g O' ⟨rfl, rfl⟩;simp +contextual -implicitDefEqProofs (maxSteps := 2000000) (disch := omega) only [drawC, drawK, keepT, ↓lenV, binV, ↓unV, optV, ↓loadV, ↓storeV, ↓fieldAddrV, ↓indexAddrV, ↓boxV, ↓buildSliceV, ↓sliceV, ↓nilV, ↓appendV, ↓srcV, bound, cutTag, hiTag, fillE, GVal.cells, GVal.ofConst, ↓resV, resG, ↓reduceIte, reduceEqDiff, reduceAdd, reduceSub, reduceLeDiff, reduceCtorEq, ↓asrcV, aggV, Tag.cap, GVal.solid, Nat.reduceBEq, reduceMul, reduceLT, vcA, ↓vcB, vcC, fbFg, hsG_len, all_hsG, vcD]
          refine ⟨by omega, by omega, fun s6 => ⟨.none, .tok 1 s6, _, by rw [hsG_appU]⟩⟩
theorem mUpd (L : GM) (hL : SSC L) (hg : Good L) (rt : Nat) (n : Int) (M O : List Hs) (hM : M.length ≤ 10000) (hO : O.length ≤ 10000) (cs : List Cm) (hs : List Hs) (th : Tag) (hh : hs.length ≤ 10000) (hc : cs.length ≤ 10000) (gr : Int) (M1 : List Hs) (T2 : WSt)
 (hgr : (gr ≠ 1 ∧ M1 = M) ∨ (gr = 1 ∧ ∃ T : WSt, VisL L (fun x => decide (x ∈ M)) hs ([], []) T ∧ T.2.length ≤ 10000 ∧ M1 = M ++ T.2 ∧ (M.length : Int) + T.2.length ≤ n))
 (hT2 : VisL L (fun x => decide (x ∈ M1 ++ keepL O M1)) (hs ++ cs.map (·.1)) ([], []) T2) (hT2l : T2.2.length ≤ 10000) :
 GCalls Try.prog 29 [.ptr 0 rt 0 1, .ptr 0 rt 0 0, .agg (reqG cs hs th gr)] (mdObj rt L n M O) (fun g O' => g = .int .i64 0 ∧ O' = mdObj rt L n M1 (keepL O M1 ++ T2.2)) := by
 refine GCalls.frame (mUpdRaw L hL hg rt n M O hM hO cs hs th hh hc gr M1 T2 hgr hT2 hT2l) [0] ⟨⟨_, rfl, .refl _⟩, trivial⟩ (by decide) (GLes.refl _) rfl rfl ?_
 rintro g O' ⟨rfl, t1, t2, X, rfl⟩
 exact ⟨_, mdObj rt L n M1 (keepL O M1 ++ T2.2), [(false, 0)], ⟨rfl, rfl⟩, GLe.refl _, ⟨⟨_, rfl, OLe.row ⟨⟨GLe.refl _, GLe.refl _, GLe.none, GLe.none, trivial⟩, trivial⟩⟩, trivial⟩, by decide, rfl⟩
abbrev mdG (L : GM) (n : Int) (M O : List Hs) : List GVal := [.slice (csG L) .none, .int .i64 n, .slice (hsG M) .none, .slice (hsG O) .none]
theorem mNew (n : Int) : GPure Try.prog 9 [.int .i64 n] (.agg (mdG [] n [] [])) := by
 refine h9.pa ?_
 refine vq0 ?_
 exact fun st => ⟨by rw [leG_none]; rfl, by rw [leG_none]; rfl, by rw [leG_none]; rfl⟩
theorem fa31_0 (o s i j : Nat) (K : GVal → Prop) : fieldAddrV Try.prog 31 (.ptr o s i j) 0 K = K (.ptr o s i j) := by
 simp only [fieldAddrV, fld31_0, Nat.add_zero]
theorem fa31_1 (o s i j : Nat) (K : GVal → Prop) : fieldAddrV Try.prog 31 (.ptr o s i j) 1 K = K (.ptr o s i (j + 1)) := by
 simp only [fieldAddrV, fld31_1]
theorem fa60_0 (cs : List GVal) (K : GVal → Prop) : fieldAddrV Try.prog 60 (.ref cs) 0 K = K (.ref cs) := by
 simp only [fieldAddrV, fld60_0, Nat.zero_le, true_and, List.drop_zero]
theorem mAdd1 (L : GM) (hL : SSC L) (hg : Good L) (n : Int) (M O : List Hs) (cs : List Cm) (hs : List Hs) (gr : Int) (hc : cs.length ≤ 1000000) (hh : hs.length ≤ 1000000) (hp : ∀ c ∈ cs, c.2.length ≤ 1000000) (x : Option Hs) (k : Int) (hk : k ≠ 0) (he : checkE gr L cs hs = some (x, k)) :
 GPure Try.prog 13 [.agg (mdG L n M O), .agg (reqG cs hs .none gr)] (.tuple [.agg (mdG L n M O), .int .i64 k, .agg (bytesG (x.getD h0).1), .bool x.isSome]) := by
 have cC := fun (s : Nat) (X : List GObj) => GCalls.keep1' (rCheckM _ _ _ L hL hg cs hs .none gr s hc hh hp) (O := mdObj s L n M O ++ X) 0 rfl rfl rfl rfl
 have d0 : (k = 0) = False := eq_false hk
 have ev : chkV (some (x, k)) = .tuple [.int .i64 k, .agg (bytesG (x.getD h0).1), .bool x.isSome] := by cases x <;> rfl
 rw [he, ev] at cC
 generalize x.getD h0 = y at *
 refine h13.pa ?_
 refine vq0 ?_
 intro s2 s4 s6
 refine (cC _ _).mono ?_
 rintro g O' ⟨rfl, rfl⟩
 exact vd2 d0 @v32
theorem mAdd3 (L : GM) (hL : SSC L) (hg : Good L) (n : Int) (M O : List Hs) (hM : M.length ≤ 10000) (hO : O.length ≤ 10000) (cs : List Cm) (hs : List Hs) (gr : Int) (hc : cs.length ≤ 10000) (hh : hs.length ≤ 10000) (hp : ∀ c ∈ cs, c.2.length ≤ 100000) (he : checkE gr L cs hs = none)
 (hL1 : SSC (putsC L cs)) (hg1 : Good (putsC L cs)) (M1 : List Hs) (T2 : WSt)
 (hgr : (gr ≠ 1 ∧ M1 = M) ∨ (gr = 1 ∧ ∃ T : WSt, VisL (putsC L cs) (fun x => decide (x ∈ M)) hs ([], []) T ∧ T.2.length ≤ 10000 ∧ M1 = M ++ T.2 ∧ (M.length : Int) + T.2.length ≤ n))
 (hT2 : VisL (putsC L cs) (fun x => decide (x ∈ M1 ++ keepL O M1)) (hs ++ cs.map (·.1)) ([], []) T2) (hT2l : T2.2.length ≤ 10000) :
 GPure Try.prog 13 [.agg (mdG L n M O), .agg (reqG cs hs .none gr)] (.tuple [.agg (mdG (putsC L cs) n M1 (keepL O M1 ++ T2.2)), .int .i64 0, .agg (bytesG h0.1), .bool false]) := by
 have cC := fun (s : Nat) (X : List GObj) => GCalls.keep1' (rCheckM _ _ _ L hL hg cs hs .none gr s (by omega) (by omega) (fun c hc => Nat.le_trans (hp c hc) (by omega))) (O := mdObj s L n M O ++ X) 0 rfl rfl rfl rfl
 have ev : chkV none = .tuple [.int .i64 0, .agg (bytesG h0.1), .bool false] := rfl
 rw [he, ev] at cC
 obtain ⟨z, hz⟩ : ∃ z, h0 = z := ⟨_, rfl⟩
 rw [hz] at cC ⊢
 have hl := hg.ok.len
 have cA := fun s => rAddM (.int .i64 n) (.slice (hsG M) .none) (.slice (hsG O) .none) L hL (by omega) cs .none s (by omega) hp
 generalize putsC L cs = L1 at *
 have cU := fun s => mUpd L1 hL1 hg1 s n M O hM hO cs hs .none hh hc gr M1 T2 hgr hT2 hT2l
 clear hgr hT2 hT2l hL1 hg1 hL hg hp hM hO
 refine h13.pa ?_
 simp +contextual -implicitDefEqProofs (maxSteps := 2000000) (disch := omega) only [drawC, drawK, keepT, binV, ↓loadV, ↓storeV, ↓allocV, ↓boxV, ↓buildV, fillG, place, GVal.cells, GVal.ofConst, ↓resV, resG, ↓reduceIte, reduceEqDiff, reduceAdd, reduceSub, reduceLeDiff, reduceCtorEq, aggV, Tag.cap, GVal.solid, Nat.reduceBEq, reduceMul, reduceLT, vcA, ↓vcB, vcC, fbFg, ↓fa31_0, ↓fa31_1, ↓fa60_0, vcD]
 intro s2 s4 s6
 refine (cC _ _).mono ?_
 rintro g O' ⟨rfl, rfl⟩
 simp +contextual -implicitDefEqProofs (maxSteps := 2000000) (disch := omega) only [drawC, drawK, keepT, binV, ↓loadV, ↓storeV, ↓allocV, ↓boxV, ↓buildV, fillG, place, GVal.cells, GVal.ofConst, ↓resV, resG, ↓reduceIte, reduceEqDiff, reduceAdd, reduceSub, reduceLeDiff, reduceCtorEq, aggV, Tag.cap, GVal.solid, Nat.reduceBEq, reduceMul, reduceLT, vcA, ↓vcB, vcC, fbFg, ↓fa31_0, ↓fa31_1, ↓fa60_0, vcD, vnT, v32]
 intro s9 s11
 refine GCalls.mono (GCalls.own1' (cA s11) (O := [_, _, _, _, _]) (O2 := [_, _, _, _, _]) 4 rfl rfl rfl rfl rfl rfl) ?_
 rintro g O' ⟨rfl, rfl⟩
 simp +contextual -implicitDefEqProofs (maxSteps := 2000000) (disch := omega) only [drawC, drawK, keepT, binV, ↓loadV, ↓storeV, ↓allocV, ↓boxV, ↓buildV, fillG, place, GVal.cells, GVal.ofConst, ↓resV, resG, ↓reduceIte, reduceEqDiff, reduceAdd, reduceSub, reduceLeDiff, reduceCtorEq, aggV, Tag.cap, GVal.solid, Nat.reduceBEq, reduceMul, reduceLT, vcA, ↓vcB, vcC, fbFg, ↓fa31_0, ↓fa31_1, ↓fa60_0, vcD, vnT, v32]
 refine GCalls.mono (GCalls.own1' (cU s11) (O := [_, _, _, _, _]) (O2 := [_, _, _, _, _]) 4 rfl rfl rfl rfl rfl rfl) ?_
 rintro g O' ⟨rfl, rfl⟩
 simp +contextual -implicitDefEqProofs (maxSteps := 2000000) (disch := omega) only [drawC, drawK, keepT, binV, ↓loadV, ↓storeV, ↓allocV, ↓boxV, ↓buildV, fillG, place, GVal.cells, GVal.ofConst, ↓resV, resG, ↓reduceIte, reduceEqDiff, reduceAdd, reduceSub, reduceLeDiff, reduceCtorEq, aggV, Tag.cap, GVal.solid, Nat.reduceBEq, reduceMul, reduceLT, vcA, ↓vcB, vcC, fbFg, ↓fa31_0, ↓fa31_1, ↓fa60_0, vcD, vnT, v32]
 rw [zeroH, hz]
 exact of_eq_true (leG_self _)
theorem mAdd2 (L : GM) (hL : SSC L) (hg : Good L) (n : Int) (M O : List Hs) (hM : M.length ≤ 10000) (cs : List Cm) (hs : List Hs) (hc : cs.length ≤ 10000) (hh : hs.length ≤ 10000) (hp : ∀ c ∈ cs, c.2.length ≤ 100000) (he : checkE 1 L cs hs = none)
 (hL1 : SSC (putsC L cs)) (hg1 : Good (putsC L cs)) (T : WSt) (hT : VisL (putsC L cs) (fun x => decide (x ∈ M)) hs ([], []) T) (hTl : T.2.length ≤ 10000) (hn : n < (M.length : Int) + T.2.length) :
 GPure Try.prog 13 [.agg (mdG L n M O), .agg (reqG cs hs .none 1)] (.tuple [.agg (mdG L n M O), .int .i64 13, .agg (bytesG h0.1), .bool false]) := by
 have d0 : ((13 : Int) = 0) = False := eq_false (by decide)
 have cC := fun (s : Nat) (X : List GObj) => GCalls.keep1' (rCheckM _ _ _ L hL hg cs hs .none 1 s (by omega) (by omega) (fun c hc => Nat.le_trans (hp c hc) (by omega))) (O := mdObj s L n M O ++ X) 0 rfl rfl rfl rfl
 have ev : chkV none = .tuple [.int .i64 0, .agg (bytesG h0.1), .bool false] := rfl
 rw [he, ev] at cC
 obtain ⟨z, hz⟩ : ∃ z, h0 = z := ⟨_, rfl⟩
 rw [hz] at cC ⊢
 have hl := hg.ok.len
 have cA := fun s => rAddM (.int .i64 n) (.slice (hsG M) .none) (.slice (hsG O) .none) L hL (by omega) cs .none s (by omega) hp
 generalize putsC L cs = L1 at *
 have cU := fun s => mUpdFull L1 hL1 hg1 s n M O hM cs hs .none hh T hT hTl hn
 clear hT hTl hn hL1 hg1 hL hg hp hM
 refine h13.pa ?_
 simp +contextual -implicitDefEqProofs (maxSteps := 2000000) (disch := omega) only [drawC, drawK, keepT, binV, ↓loadV, ↓storeV, ↓allocV, ↓boxV, ↓buildV, fillG, place, GVal.cells, GVal.ofConst, ↓resV, resG, ↓reduceIte, reduceEqDiff, reduceAdd, reduceSub, reduceLeDiff, reduceCtorEq, aggV, Tag.cap, GVal.solid, Nat.reduceBEq, reduceMul, reduceLT, vcA, ↓vcB, vcC, fbFg, ↓fa31_0, ↓fa31_1, ↓fa60_0, vcD]
 intro s2 s4 s6
 refine (cC _ _).mono ?_
 rintro g O' ⟨rfl, rfl⟩
 simp +contextual -implicitDefEqProofs (maxSteps := 2000000) (disch := omega) only [drawC, drawK, keepT, binV, ↓loadV, ↓storeV, ↓allocV, ↓boxV, ↓buildV, fillG, place, GVal.cells, GVal.ofConst, ↓resV, resG, ↓reduceIte, reduceEqDiff, reduceAdd, reduceSub, reduceLeDiff, reduceCtorEq, aggV, Tag.cap, GVal.solid, Nat.reduceBEq, reduceMul, reduceLT, vcA, ↓vcB, vcC, fbFg, ↓fa31_0, ↓fa31_1, ↓fa60_0, vcD, vnT, v32]
 intro s9 s11
 refine GCalls.mono (GCalls.own1' (cA s11) (O := [_, _, _, _, _]) (O2 := [_, _, _, _, _]) 4 rfl rfl rfl rfl rfl rfl) ?_
 rintro g O' ⟨rfl, rfl⟩
 simp +contextual -implicitDefEqProofs (maxSteps := 2000000) (disch := omega) only [drawC, drawK, keepT, binV, ↓loadV, ↓storeV, ↓allocV, ↓boxV, ↓buildV, fillG, place, GVal.cells, GVal.ofConst, ↓resV, resG, ↓reduceIte, reduceEqDiff, reduceAdd, reduceSub, reduceLeDiff, reduceCtorEq, aggV, Tag.cap, GVal.solid, Nat.reduceBEq, reduceMul, reduceLT, vcA, ↓vcB, vcC, fbFg, ↓fa31_0, ↓fa31_1, ↓fa60_0, vcD, vnT, v32]
 refine GCalls.mono (GCalls.own1' (cU s11) (O := [_, _, _, _, _]) (O2 := [_, _, _, _, _]) 4 rfl rfl rfl rfl rfl rfl) ?_
 rintro g O' ⟨rfl, rfl⟩
 simp +contextual -implicitDefEqProofs (maxSteps := 2000000) (disch := omega) only [drawC, drawK, keepT, binV, ↓loadV, ↓storeV, ↓allocV, ↓boxV, ↓buildV, fillG, place, GVal.cells, GVal.ofConst, ↓resV, resG, ↓reduceIte, reduceEqDiff, reduceAdd, reduceSub, reduceLeDiff, reduceCtorEq, aggV, Tag.cap, GVal.solid, Nat.reduceBEq, reduceMul, reduceLT, vcA, ↓vcB, vcC, fbFg, ↓fa31_0, ↓fa31_1, ↓fa60_0, d0, vcD, vnT, v32]
 rw [zeroH, hz]
 exact of_eq_true (leG_self _)
end Gv.Try
