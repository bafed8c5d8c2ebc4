/- Contracts: the reference's graph as the first field of a row of four cells: find, Has, Parents, put, Add, visit, Walk. -/
import Derived.Test.YtomacbbghhabpaaP10
import Derived.Test.YtomacbbghhabpaaP6
set_option linter.defProp false
set_option linter.unusedSimpArgs false
set_option linter.unusedVariables false
set_option maxHeartbeats 8000000
set_option maxRecDepth 20000
namespace Gv.Try
open Go Gv Go.Proofs
open Nat (reduceEqDiff reduceAdd reduceSub reduceLeDiff reduceMul reduceLT)
abbrev mObj (X1 X2 X3 : GVal) (rt : Nat) (L : GM) : List GObj := [.row rt 4 [[.slice (csG L) .none, X1, X2, X3]]]
def zbPAg25 := ai @csG_len <| ai @comG.eq_1 <| ai @v33 <| @v32
theorem rFindM (X1 X2 X3 : GVal) (L : GM) (hL : SSC L) (hl : L.length ≤ 1000000) (h : Hs) (rt : Nat) : GCalls Try.prog 59 [.ptr 0 rt 0 0, .agg (bytesG h.1)] (mObj X1 X2 X3 rt L) (fun g O' => g = .int .i64 (findZ L h) ∧ O' = mObj X1 X2 X3 rt L) := by
 refine h59.ca ?_
 refine vq2 @csG_len @v32 ?_
 refine vcSLoop_by (ι := { p : Nat × Nat // p.1 ≤ p.2 ∧ p.2 ≤ L.length ∧ (∀ i, i < p.1 → LT (L.getD i default).1 h) ∧ (∀ i, p.2 ≤ i → i < L.length → ¬ LT (L.getD i default).1 h) }) (fun p => ⟨[.ptr 0 rt 0 0, .any, .any, .ref (bytesG h.1), .any, .int .i64 (p.1.1 : Nat), .int .i64 (p.1.2 : Nat)] ++ List.replicate 46 .any, mObj X1 X2 X3 rt L⟩) (fun p => p.1.2 - p.1.1) ?_ ?_
 · exact Into.first ⟨(0, L.length), Nat.zero_le _, Nat.le_refl _, fun i hi => by omega, fun i h1 h2 => by omega⟩ ⟨[], by simp⟩ (by simp [WL, leG_self, leG_any])
 · rintro ⟨⟨lo, hi⟩, hlh, hhl, ha, hb⟩
   change lo ≤ hi at hlh
   change hi ≤ L.length at hhl
   have ha : ∀ i, i < lo → LT (L.getD i default).1 h := ha;have hb : ∀ i, hi ≤ i → i < L.length → ¬ LT (L.getD i default).1 h := hb;by_cases hc : lo < hi
   · have d0 : ((lo : Int) < (hi : Int)) = True := eq_true (by omega);obtain ⟨m, hm⟩ : ∃ m, (lo + hi) / 2 = m := ⟨_, rfl⟩
     have em : ((lo : Int) + (hi : Int)).tdiv 2 = (m : Int) := by
      rw [show (lo : Int) + (hi : Int) = ((lo + hi : Nat) : Int) by omega, ← hm]; rfl
     have en : norm .i64 (m : Int) = (m : Int) := norm_i64 (by omega);have eS := csG_at L m (by omega);obtain ⟨xh, xp, hx⟩ : ∃ xh xp, L.getD m default = (xh, xp) := ⟨_, _, rfl⟩
     have hup : LT xh h → ∀ i, i < m + 1 → LT (L.getD i default).1 h := fun q i hi => by
      by_cases e : i = m
      · subst e; rw [hx]; exact q
      · have := ssc_lt hL (show i < m by omega) (by omega);rw [hx] at this;exact LT.trans this q
     have hdn : ¬ LT xh h → ∀ i, m ≤ i → i < L.length → ¬ LT (L.getD i default).1 h := fun q i h1 h2 => by
      by_cases e : i = m
      · subst e; rw [hx]; exact q
      · have := ssc_lt hL (show m < i by omega) h2;rw [hx] at this;exact fun r => q (LT.trans this r)
     rw [hx] at eS;have cL := hLessR xh.1 h.1 xh.2 h.2;cases el : ltB xh.1 h.1 with
     | true =>
      rw [el] at cL;refine vq5 d0 em en eS zbPAg25 ?_;refine ⟨by decide, by omega, by omega, ?_⟩;refine cL.then ?_ (by rfl)
      refine vq0 ?_;exact Into.at ⟨(m + 1, hi), by show m + 1 ≤ hi; omega, hhl, hup el, hb⟩ (by show hi - (m + 1) < hi - lo; omega) ⟨[], by simp⟩ (by simp [WL, leG_self, leG_any, leG_int])
     | false =>
      rw [el] at cL;refine vq5 d0 em en eS zbPAg25 ?_;refine ⟨by decide, by omega, by omega, ?_⟩;refine cL.then ?_ (by rfl)
      refine vq0 ?_;exact Into.at ⟨(lo, m), by show lo ≤ m; omega, by show m ≤ L.length; omega, ha, hdn (by unfold LT; rw [el]; simp)⟩ (by show m - lo < hi - lo; omega) ⟨[], by simp⟩ (by simp [WL, leG_self, leG_any, leG_int])
   · have d0 : ((lo : Int) < (hi : Int)) = False := eq_false (by omega);have e : hi = lo := by omega
     subst e;obtain ⟨f1, f2⟩ := find_end hL hhl ha hb;by_cases hk : hi < L.length
     · have d1 : ((hi : Int) < (L.length : Int)) = True := eq_true (by omega);have eS := csG_at L hi hk;obtain ⟨xh, xp, hx⟩ : ∃ xh xp, L.getD hi default = (xh, xp) := ⟨_, _, rfl⟩
       rw [hx] at eS f1 f2;by_cases e : xh = h
       · subst e;have eZ : findZ L xh = (hi : Int) := by unfold findZ; rw [f1 hk rfl]
         have ce := cellsEq_hs xh xh;rw [decide_eq_true rfl] at ce;rw [eZ];refine vq5 d0 d1 eS ce zbPAg25 ?_;omega
       · have eZ : findZ L h = -1 := by unfold findZ; rw [f2 fun _ => e]
         have ce := cellsEq_hs xh h;rw [decide_eq_false e] at ce;rw [eZ];refine vq5 d0 d1 eS ce zbPAg25 ?_;omega
     · have d1 : ((hi : Int) < (L.length : Int)) = False := eq_false (by omega);have eZ : findZ L h = -1 := by unfold findZ; rw [f2 fun q => absurd q hk]
       rw [eZ];exact vd3 d0 d1 @csG_len
theorem rHasM (X1 X2 X3 : GVal) (L : GM) (hL : SSC L) (hl : L.length ≤ 1000000) (h : Hs) (rt : Nat) : GCalls Try.prog 43 [.ptr 0 rt 0 0, .agg (bytesG h.1)] (mObj X1 X2 X3 rt L) (fun g O' => g = .bool (look L h).isSome ∧ O' = mObj X1 X2 X3 rt L) := by
 have cF := rFindM X1 X2 X3 L hL hl h rt
 have eh := has_find L h
 by_cases c : 0 ≤ findZ L h
 · have d : (0 ≤ findZ L h) = True := eq_true c;rw [decide_eq_true c] at eh
   rw [← eh];refine h43.ca ?_;refine vq1 @v32 ?_;refine cF.mono ?_;rintro g O' ⟨rfl, rfl⟩;exact vd1 d
 · have d : (0 ≤ findZ L h) = False := eq_false c;rw [decide_eq_false c] at eh
   rw [← eh];refine h43.ca ?_;refine vq1 @v32 ?_;refine cF.mono ?_;rintro g O' ⟨rfl, rfl⟩;refine vq1 d ?_;rfl
theorem rPar1M (X1 X2 X3 : GVal) (L : GM) (hL : SSC L) (hl : L.length ≤ 1000000) (h : Hs) (rt : Nat) (i : Nat) (hi : i < L.length) (e : findZ L h = (i : Int)) (x : Cm) (hx : L.getD i default = x) : GCalls Try.prog 45 [.ptr 0 rt 0 0, .agg (bytesG h.1)] (mObj X1 X2 X3 rt L) (fun g O' => g = .slice (hsG x.2) .none ∧ O' = mObj X1 X2 X3 rt L) := by
 have cF := rFindM X1 X2 X3 L hL hl h rt
 rw [e] at cF
 have d : (0 ≤ (i : Int)) = True := eq_true (by omega)
 have eS := csG_at L i hi
 rw [hx] at eS
 obtain ⟨xh, xp⟩ := x
 refine h45.ca ?_
 refine vq1 @v32 ?_
 refine cF.mono ?_
 rintro g O' ⟨rfl, rfl⟩
 refine vq3 d eS zbPAg25 ?_
 omega
theorem rPar0M (X1 X2 X3 : GVal) (L : GM) (hL : SSC L) (hl : L.length ≤ 1000000) (h : Hs) (rt : Nat) (e : findZ L h = -1) : GCalls Try.prog 45 [.ptr 0 rt 0 0, .agg (bytesG h.1)] (mObj X1 X2 X3 rt L) (fun g O' => g = .slice [] .nil ∧ O' = mObj X1 X2 X3 rt L) := by
 have cF := rFindM X1 X2 X3 L hL hl h rt
 rw [e] at cF
 have d : ((0 : Int) ≤ -1) = False := eq_false (by omega)
 refine h45.ca ?_
 refine vq1 @v32 ?_
 refine cF.mono ?_
 rintro g O' ⟨rfl, rfl⟩
 exact vd3 d @false_imp_iff @true_and
theorem rParentsM (X1 X2 X3 : GVal) (L : GM) (hL : SSC L) (hl : L.length ≤ 1000000) (h : Hs) (rt : Nat) : GCalls Try.prog 45 [.ptr 0 rt 0 0, .agg (bytesG h.1)] (mObj X1 X2 X3 rt L) (fun g O' => g = .slice (hsG (parsM L h)) .none ∧ O' = mObj X1 X2 X3 rt L) := by
 obtain ⟨h1, h2⟩ := find_look L h
 cases e : findO L h with
 | some i =>
  obtain ⟨a, b, _⟩ := h1 i e;rw [parsM_some b];exact rPar1M X1 X2 X3 L hL hl h rt i a (by unfold findZ; rw [e]) _ rfl
 | none =>
  rw [parsM_none (h2 e)];refine GCalls.into ((rPar0M X1 X2 X3 L hL hl h rt (by unfold findZ; rw [e])).mono ?_);rintro g O' ⟨rfl, rfl⟩;exact GInto.weak (O := mObj X1 X2 X3 rt L) (X := []) (by rw [leG_none]; rfl) (.here ⟨rfl, rfl⟩)
theorem rPut0M (X1 X2 X3 : GVal) (L : GM) (hL : SSC L) (hl : L.length ≤ 1000000) (c : Cm) (hc : c.2.length ≤ 1000000) (rt : Nat) (e : (look L c.1).isSome = true) : GCalls Try.prog 46 [.ptr 0 rt 0 0, .agg (comG c)] (mObj X1 X2 X3 rt L) (fun g O' => g = .tuple [] ∧ O' = mObj X1 X2 X3 rt L) := by
 obtain ⟨ch, cp⟩ := c
 have cH := rHasM X1 X2 X3 L hL hl ch rt
 simp only at e
 rw [e] at cH
 refine h46.ca ?_
 refine vq3 @comG.eq_1 @v33 @v32 ?_
 refine cH.mono ?_
 rintro g O' ⟨rfl, rfl⟩
 exact vd0
def zbPAg26 := ai @csG_len <| ai @comG.eq_1 <| ai @all_csG <| ai @take_csL <| ai @drop_csL <| ai @takeAllC <| ai @toNat0 <| ai @List.drop_zero.{0} <| ai @hsG_len <| ai @all_hsG <| ai @v33 <| @v32
theorem rPutRawM (X1 X2 X3 : GVal) (L : GM) (hL : SSC L) (hl : L.length ≤ 1000000) (c : Cm) (hc : c.2.length ≤ 1000000) (rt : Nat) (e : (look L c.1).isSome = false) : GCalls Try.prog 46 [.ptr 0 rt 0 0, .agg (comG c)] (mObj X1 X2 X3 rt L) (fun g O' => ∃ u v, g = .tuple [] ∧ O' = [.row rt 4 [[.slice (csG (L.take (idxC L c.1)) ++ [bytesG c.1.1 ++ [.slice (hsG c.2) (.tok 2 u)]] ++ csG (L.drop (idxC L c.1))) (.tok 1 v), X1, X2, X3]], .tok v 33, .tok u 32]) := by
 obtain ⟨ch, cp⟩ := c
 change cp.length ≤ 1000000 at hc
 have cH := rHasM X1 X2 X3 L hL hl ch rt
 simp only at e ⊢
 rw [e] at cH
 refine h46.ca ?_
 refine vq3 @comG.eq_1 @v33 @v32 ?_
 refine cH.mono ?_
 rintro g O' ⟨rfl, rfl⟩
 refine vq0 ?_
 refine vcSLoop_by (ι := { k : Nat // k ≤ L.length ∧ idxC (L.drop k) ch + k = idxC L ch }) (fun k => ⟨[.ptr 0 rt 0 0, .any, .any, .ref (comG (ch, cp)), .int .i64 (k.1 : Nat)] ++ List.replicate 56 .any, mObj X1 X2 X3 rt L⟩) (fun k => L.length - k.1) ?_ ?_
 · exact Into.first ⟨0, by omega, by simp⟩ ⟨[], by simp⟩ (by simp [WL, leG_self, leG_any, leG_int, comG])
 · rintro ⟨k, hk, he⟩;by_cases h' : k < L.length
   · have d0 : ((k : Int) < (L.length : Int)) = True := eq_true (by omega);have ea := csG_at L k h';rw [idxC_at L ch k h'] at he;obtain ⟨xh, xp, hx⟩ : ∃ xh xp, L.getD k default = (xh, xp) := ⟨_, _, rfl⟩
     rw [hx] at ea he;simp only at he
     have cL := hLessR xh.1 ch.1 xh.2 ch.2;cases el : ltB xh.1 ch.1 with
     | true =>
      rw [el, if_pos rfl] at he;rw [el] at cL;refine vq3 d0 ea zbPAg25 ?_;refine ⟨by omega, ?_⟩;refine cL.then ?_ (by rfl)
      refine vq0 ?_;exact Into.at ⟨k + 1, by omega, by omega⟩ (by show L.length - (k + 1) < L.length - k; omega) ⟨[], by simp⟩ (by simp [WL, leG_self, leG_any, leG_int, comG])
     | false =>
      rw [el, if_neg (by simp), Nat.zero_add] at he;rw [el] at cL;have tl : (List.take k L).length = k := by rw [List.length_take]; omega
      have tl3 : (List.drop k (List.take L.length L)).length = L.length - k := by rw [List.take_length, List.length_drop]
      refine vq3 d0 ea zbPAg25 ?_;refine ⟨by omega, ?_⟩;refine cL.then ?_ (by rfl)
      refine vq5 d0 ea tl tl3 zbPAg26 ?_;refine ⟨by omega, by omega, by omega, by omega, by omega, fun s1 => ⟨by omega, by omega, fun s2 => ⟨⟨[_], rfl⟩, by omega, by omega, fun s3 => ⟨by omega, by omega, by omega, ?_, ?_, fun s4 => ⟨s2, s4, ?_⟩⟩⟩⟩⟩
      · rw [List.length_append, csG_len, tl]; simp only [List.length_singleton]; omega
      · rw [List.length_append, csG_len, tl]; simp only [List.length_singleton]; omega
      · rw [List.take_length, he]
   · have d0 : ((k : Int) < (L.length : Int)) = False := eq_false (by omega);have he : k = idxC L ch := by
      rw [List.drop_of_length_le (by omega)] at he
      rw [← he]; simp [idxC]
     have tl : (List.take k L).length = k := by rw [List.length_take]; omega
     have tl3 : (List.drop k (List.take L.length L)).length = L.length - k := by rw [List.take_length, List.length_drop]
     refine vq4 d0 tl tl3 zbPAg26 ?_;refine ⟨by omega, by omega, by omega, by omega, by omega, fun s1 => ⟨by omega, by omega, fun s2 => ⟨⟨[_], rfl⟩, by omega, by omega, fun s3 => ⟨by omega, by omega, by omega, ?_, ?_, fun s4 => ⟨s2, s4, ?_⟩⟩⟩⟩⟩
     · rw [List.length_append, csG_len, tl]; simp only [List.length_singleton]; omega
     · rw [List.length_append, csG_len, tl]; simp only [List.length_singleton]; omega
     · rw [List.take_length, he]
theorem rPut1M (X1 X2 X3 : GVal) (L : GM) (hL : SSC L) (hl : L.length ≤ 1000000) (c : Cm) (hc : c.2.length ≤ 1000000) (rt : Nat) (e : (look L c.1).isSome = false) : GCalls Try.prog 46 [.ptr 0 rt 0 0, .agg (comG c)] (mObj X1 X2 X3 rt L) (fun g O' => g = .tuple [] ∧ O' = mObj X1 X2 X3 rt (putC L c)) := by
 refine GCalls.frame (rPutRawM X1 X2 X3 L hL hl c hc rt e) [0] ⟨⟨_, rfl, .refl _⟩, trivial⟩ (by simp) (GLes.refl _) rfl rfl ?_
 rintro g O' ⟨u, v, rfl, rfl⟩
 refine ⟨_, mObj X1 X2 X3 rt (putC L c), [(false, 0)], ⟨rfl, rfl⟩, GLe.refl _, ⟨⟨_, rfl, OLe.row ⟨⟨GLe.trans GLe.none (GLe.slice ?_), GLe.refl _, GLe.refl _, GLe.refl _, trivial⟩, trivial⟩⟩, trivial⟩, by simp, rfl⟩
 unfold putC
 rw [if_neg (by rw [e]; simp), csG_app, csG_app]
 exact GLess.app (GLess.app (GLess.refl _) ⟨GLes_com _ _ _, trivial⟩) (GLess.refl _)
theorem rPutM (X1 X2 X3 : GVal) (L : GM) (hL : SSC L) (hl : L.length ≤ 1000000) (c : Cm) (hc : c.2.length ≤ 1000000) (rt : Nat) : GCalls Try.prog 46 [.ptr 0 rt 0 0, .agg (comG c)] (mObj X1 X2 X3 rt L) (fun g O' => g = .tuple [] ∧ O' = mObj X1 X2 X3 rt (putC L c)) := by
 cases e : (look L c.1).isSome with
 | true =>
  have := rPut0M X1 X2 X3 L hL hl c hc rt e;unfold putC;rw [if_pos e];exact this
 | false => exact rPut1M X1 X2 X3 L hL hl c hc rt e
theorem rAddM (X1 X2 X3 : GVal) (L : GM) (hL : SSC L) (hl : L.length ≤ 100000) (cs : List Cm) (t : Tag) (rt : Nat) (hc : cs.length ≤ 100000) (hp : ∀ c ∈ cs, c.2.length ≤ 100000) : GCalls Try.prog 28 [.ptr 0 rt 0 0, .slice (csG cs) t] (mObj X1 X2 X3 rt L) (fun g O' => g = .tuple [] ∧ O' = mObj X1 X2 X3 rt (putsC L cs)) := by
 refine h28.ca ?_
 refine vq0 ?_
 refine vcSLoop_by (ι := { k : Nat // k ≤ cs.length }) (fun k => ⟨[.ptr 0 rt 0 0, .slice (csG cs) t, .any, .any, .int .i64 (k.1 : Nat)] ++ List.replicate 12 .any, mObj X1 X2 X3 rt (putsC L (cs.take k.1))⟩) (fun k => cs.length - k.1) ?_ ?_
 · exact Into.first ⟨0, by omega⟩ ⟨[], by simp [putsC]⟩ (by simp [WL, leG_self, leG_any, leG_int])
 · rintro ⟨k, hk⟩;by_cases h : k < cs.length
   · have d0 : ((k : Int) < (cs.length : Int)) = True := eq_true (by omega);have eS := csG_at cs k h;have hx := hp _ (memC h);have hsn := putsC_snoc L cs k h;have hXs := putsC_ss (cs.take k) hL;have hXl := putsC_len (cs.take k) L;rw [List.length_take] at hXl;generalize cs.getD k default = x at *;have cP := rPutM X1 X2 X3 _ hXs (by omega) x (by omega) rt;obtain ⟨xh, xp⟩ := x;refine vq6 d0 eS @csG_len @comG.eq_1 @len33 @take33a ?_;refine ⟨by omega, cP.mono ?_⟩;rintro g O' ⟨rfl, rfl⟩;refine vq0 ?_
     rw [← hsn];exact Into.at ⟨k + 1, by omega⟩ (by show cs.length - (k + 1) < cs.length - k; omega) ⟨[], by simp⟩ (by simp [WL, leG_self, leG_any, leG_int])
   · have d0 : ((k : Int) < (cs.length : Int)) = False := eq_false (by omega);refine vq2 d0 @csG_len ?_;rw [List.take_of_length_le (by omega)]
theorem rVisit0M (X1 X2 X3 : GVal) (L : GM) (done : List Hs) (td : Tag) (hdl : done.length ≤ 100000) (rt : Nat) (h : Hs) (o : List Hs) (so : Nat) (hs : h ∈ o ∨ h ∈ done) (hl : o.length ≤ 100000) :
 GCalls Try.prog 61 [.ptr 0 rt 0 0, .slice (hsG o) (.tok 1 so), .agg (bytesG h.1), .slice (hsG done) td] (mObj X1 X2 X3 rt L ++ [.tok so 32]) (fun g O' => ∃ so', g = .slice (hsG o) (.tok 1 so') ∧ O' = mObj X1 X2 X3 rt L ++ [.tok so' 32]) := by
 have cO := hIn o (.tok 1 so) h (by omega)
 by_cases ho : h ∈ o
 · rw [decide_eq_true ho] at cO;refine h61.ca ?_;refine vq1 @v32 ?_;refine cO.then ?_ (by rfl)
   refine vq0 ?_;exact ⟨so, rfl, rfl⟩
 · rw [decide_eq_false ho] at cO;have cD := hIn done td h (by omega);rw [decide_eq_true (hs.resolve_left ho)] at cD;refine h61.ca ?_;refine vq1 @v32 ?_;refine cO.then ?_ (by rfl)
   refine vq1 @v32 ?_;refine cD.then ?_ (by rfl)
   refine vq0 ?_;exact ⟨so, rfl, rfl⟩
theorem rVisitM (X1 X2 X3 : GVal) (L : GM) (hL : SSC L) (hm : GMOK L) (done : List Hs) (td : Tag) (hdl : done.length ≤ 100000) (rt : Nat) : ∀ (d : Nat) (h : Hs) (o o' : List Hs) (so : Nat), VisD L (fun x => decide (x ∈ done)) d [h] o o' → o'.length ≤ 100000 →
 GCalls Try.prog 61 [.ptr 0 rt 0 0, .slice (hsG o) (.tok 1 so), .agg (bytesG h.1), .slice (hsG done) td] (mObj X1 X2 X3 rt L ++ [.tok so 32]) (fun g O' => ∃ so', g = .slice (hsG o') (.tok 1 so') ∧ O' = mObj X1 X2 X3 rt L ++ [.tok so' 32]) := by
 have hml := hm.len
 intro d
 induction d with
 | zero =>
  intro h o o' so hv hl;cases hv with
  | skip _ _ _ _ _ h1 h2 =>
   have e := h2.inv_nil;subst e;exact rVisit0M X1 X2 X3 L done td hdl rt h _ so (by simpa using h1) hl
 | succ d ih =>
  intro h o o' so hv hl;cases hv with
  | skip _ _ _ _ _ h1 h2 =>
   have e := h2.inv_nil;subst e;exact rVisit0M X1 X2 X3 L done td hdl rt h _ so (by simpa using h1) hl
  | go _ _ _ _ o1 _ h1 h2 h3 h4 =>
   have e := h4.inv_nil;subst e;rw [List.length_append, List.length_singleton] at hl;have hol := h3.len;have hpl := hm.pars h;have cO := hIn o (.tok 1 so) h (by omega);rw [decide_eq_false h1] at cO;have cD := hIn done td h (by omega);rw [decide_eq_false (by simpa using h2)] at cD;have cP := GCalls.keep1' (rParentsM X1 X2 X3 L hL (by omega) h rt) (O := mObj X1 X2 X3 rt L ++ [.tok so 32]) 0 rfl rfl rfl rfl;obtain ⟨ps, hps⟩ : ∃ ps, parsM L h = ps := ⟨_, rfl⟩
   rw [hps] at cP h3 hpl;refine h61.ca ?_;refine vq1 @v32 ?_;refine cO.then ?_ (by rfl)
   refine vq1 @v32 ?_;refine cD.then ?_ (by rfl)
   refine vq1 @v32 ?_;refine cP.mono ?_;rintro g O' ⟨rfl, rfl⟩;refine vq1 @v32 ?_;refine vcSLoop_by (ι := { p : (Nat × List Hs) × Nat // p.1.1 ≤ ps.length ∧ VisD L (fun x => decide (x ∈ done)) d (ps.drop p.1.1) p.1.2 o1 }) (fun p => ⟨[.ptr 0 rt 0 0, .slice (hsG p.1.1.2) (.tok 1 p.1.2), .any, .slice (hsG done) td, .any, .any, .ref (bytesG h.1), .any, .any, .slice (hsG ps) .none, .int .i64 (p.1.1.1 : Nat)] ++ List.replicate 30 .any, mObj X1 X2 X3 rt L ++ [.tok p.1.2 32]⟩) (fun p => ps.length - p.1.1.1) ?_ ?_
   · exact Into.first ⟨((0, o), so), Nat.zero_le _, by simpa using h3⟩ ⟨[], by simp⟩ (by simp [WL, leG_self, leG_any])
   · rintro ⟨⟨⟨j, oj⟩, sj⟩, hj, hv⟩
     change j ≤ ps.length at hj
     have hv : VisD L (fun x => decide (x ∈ done)) d (ps.drop j) oj o1 := hv;by_cases h' : j < ps.length
     · have d0 : ((j : Int) < (ps.length : Int)) = True := eq_true (by omega);have eX := hsG_at ps j h';rw [dropH h'] at hv;generalize ps.getD j h0 = y at *;obtain ⟨o2, v1, v2⟩ := hv.cons;have l2 := v2.len;have cV := ih y oj o2 sj v1 (by omega);refine vq4 d0 eX @hsG_len @v32 ?_;refine ⟨by omega, cV.mono ?_⟩;rintro g O' ⟨s2, rfl, rfl⟩;refine vq0 ?_;exact Into.at ⟨((j + 1, o2), s2), by show j + 1 ≤ ps.length; omega, v2⟩ (by show ps.length - (j + 1) < ps.length - j; omega) ⟨[], by simp⟩ (by simp [WL, leG_self, leG_any, leG_int])
     · have d0 : ((j : Int) < (ps.length : Int)) = False := eq_false (by omega);rw [List.drop_of_length_le (by omega)] at hv;have e := hv.inv_nil;subst e;refine vq6 d0 @hsG_len @all_hsG @if32 @one32 @v32 ?_;refine ⟨by omega, by omega, fun s2 => ⟨s2, ?_, rfl⟩⟩;rw [hsG_app]; rfl
theorem rWalkM (X1 X2 X3 : GVal) (L : GM) (hL : SSC L) (hm : Good L) (hs : List Hs) (th : Tag) (hhl : hs.length ≤ 100000) (done : List Hs) (td : Tag) (hdl : done.length ≤ 100000) (rt : Nat) (T : WSt) (hT : VisL L (fun x => decide (x ∈ done)) hs ([], []) T) :
 GCalls Try.prog 48 [.ptr 0 rt 0 0, .slice (hsG hs) th, .slice (hsG done) td] (mObj X1 X2 X3 rt L) (fun g O' => g = .slice (hsG T.2) .none ∧ O' = mObj X1 X2 X3 rt L) := by
 have hml := hm.ok.len
 refine GCalls.dropTo ?_
 refine h48.ca ?_
 refine vq0 ?_
 refine vcSLoop_by (ι := { p : (Nat × WSt) × Nat // (p.1.1 ≤ hs.length ∧ VisL L (fun x => decide (x ∈ done)) (hs.drop p.1.1) p.1.2 T) ∧ (∀ x, x ∈ p.1.2.1 ↔ x ∈ p.1.2.2) ∧ p.1.2.2.Nodup ∧ ∀ x ∈ p.1.2.2, (look L x).isSome = true }) (fun p => ⟨[.ptr 0 rt 0 0, .slice (hsG hs) th, .slice (hsG done) td, .any, .any, .any, .any, .slice (hsG p.1.1.2.2) (.tok 1 p.1.2), .int .i64 (p.1.1.1 : Nat)] ++ List.replicate 21 .any, mObj X1 X2 X3 rt L ++ [.tok p.1.2 32]⟩) (fun p => hs.length - p.1.1.1) ?_ ?_
 · refine Into.tok 7 32 [] rfl rfl ?_;refine vq0 ?_;intro so;exact Into.first ⟨((0, ([], [])), so), ⟨Nat.zero_le _, by simpa using hT⟩, by simp, List.nodup_nil, by simp⟩ ⟨[], by simp⟩ (by simp [WL, leG_self, leG_any, hsG])
 · rintro ⟨⟨⟨k, ⟨S, o⟩⟩, so⟩, ⟨hk, hV⟩, hSo, hnd, hth⟩
   change k ≤ hs.length at hk
   have hV : VisL L (fun x => decide (x ∈ done)) (hs.drop k) (S, o) T := hV;have hSo : ∀ x, x ∈ S ↔ x ∈ o := hSo;have hnd : o.Nodup := hnd;have hth : ∀ x ∈ o, (look L x).isSome = true := hth;have hol := nodup_lenH o (L.map (·.1)) hnd fun x hx => look_key (hth x hx)
   rw [List.length_map] at hol;by_cases h : k < hs.length
   · have d0 : ((k : Int) < (hs.length : Int)) = True := eq_true (by omega);have eX := hsG_at hs k h;rw [dropH h] at hV;generalize hs.getD k h0 = x at *;have cH := GCalls.keep1' (rHasM X1 X2 X3 L hL (by omega) x rt) (O := mObj X1 X2 X3 rt L ++ [.tok so 32]) 0 rfl rfl rfl rfl;cases hx : (look L x).isSome with
     | false =>
      rw [hx] at cH;have hV2 := hV.inv_skip (by unfold pushed; rw [hx]; rfl);refine vq4 d0 eX @hsG_len @v32 ?_;refine ⟨by omega, cH.mono ?_⟩;rintro g O' ⟨rfl, rfl⟩;refine vq0 ?_;exact Into.at ⟨((k + 1, (S, o)), so), ⟨by show k + 1 ≤ hs.length; omega, hV2⟩, hSo, hnd, hth⟩ (by show hs.length - (k + 1) < hs.length - k; omega) ⟨[], by simp⟩ (by simp [WL, leG_self, leG_any, leG_int])
     | true =>
      rw [hx] at cH;obtain ⟨⟨S1, o1⟩, v1, v2⟩ := vis_app (a := [x]) hV;have hS : ∀ y ∈ o, y ∈ S := fun y hy => (hSo y).2 hy
      have hK : ∀ y ∈ S, y ∉ o → ∀ p ∈ [x], Reach (parsM L) (parsM L y) p := fun y hy hn => absurd ((hSo y).1 hy) hn
      obtain ⟨d, hd⟩ := vis_d hm v1 hS hK (by simp [hx]);obtain ⟨n1, a1, a2, a3, a4, _, _⟩ := vis_spec hm.acyc v1 hS hK;simp only at hd a1 a2 a4
      have hnd1 : o1.Nodup := by
       rw [a1, List.nodup_append];exact ⟨hnd, a3, fun a ha b hb e => (a4 b hb).1 (hS b (e ▸ ha))⟩
      have hth1 : ∀ y ∈ o1, (look L y).isSome = true := fun y hy => by
       rw [a1] at hy;rcases List.mem_append.1 hy with q | q
       · exact hth y q
       · exact (a4 y q).2.1
      have hol1 := nodup_lenH o1 (L.map (·.1)) hnd1 fun y hy => look_key (hth1 y hy)
      rw [List.length_map] at hol1;have cV := rVisitM X1 X2 X3 L hL hm.gm done td hdl rt d x o o1 so hd (by omega);refine vq4 d0 eX @hsG_len @v32 ?_;refine ⟨by omega, cH.mono ?_⟩;rintro g O' ⟨rfl, rfl⟩;refine vq4 d0 eX @hsG_len @v32 ?_;refine ⟨by omega, cV.mono ?_⟩;rintro g O' ⟨s2, rfl, rfl⟩;refine vq0 ?_;refine Into.at ⟨((k + 1, (S1, o1)), s2), ⟨by show k + 1 ≤ hs.length; omega, v2⟩, fun y => ?_, hnd1, hth1⟩ (by show hs.length - (k + 1) < hs.length - k; omega) ⟨[], by simp⟩ (by simp [WL, leG_self, leG_any, leG_int]);show y ∈ S1 ↔ y ∈ o1;rw [a2, a1, List.mem_append, hSo]
   · have d0 : ((k : Int) < (hs.length : Int)) = False := eq_false (by omega);rw [List.drop_of_length_le (by omega)] at hV;have e := hV.inv_nil;subst e;refine vq2 d0 @hsG_len ?_;exact ⟨.slice (hsG o) .none, mObj X1 X2 X3 rt L, [.tok so 32], rfl, by rw [leA_slice], rfl, rfl⟩
def chkV : Er → GVal
 | none => .tuple [.int .i64 0, .agg (bytesG h0.1), .bool false]
 | some (none, n) => .tuple [.int .i64 n, .agg (bytesG h0.1), .bool false]
 | some (some h, n) => .tuple [.int .i64 n, .agg (bytesG h.1), .bool true]
noncomputable def checkE (gr : Int) (L : GM) (cs : List Cm) (hs : List Hs) : Er := match joinedP gr L cs hs with
 | .error e => some e
 | .ok _ => none
theorem zeroH : ([.int .u8 0, .int .u8 0, .int .u8 0, .int .u8 0, .int .u8 0, .int .u8 0, .int .u8 0, .int .u8 0, .int .u8 0, .int .u8 0, .int .u8 0, .int .u8 0, .int .u8 0, .int .u8 0, .int .u8 0, .int .u8 0, .int .u8 0, .int .u8 0, .int .u8 0, .int .u8 0, .int .u8 0, .int .u8 0, .int .u8 0, .int .u8 0, .int .u8 0, .int .u8 0, .int .u8 0, .int .u8 0, .int .u8 0, .int .u8 0, .int .u8 0, .int .u8 0] : List GVal) = bytesG h0.1 := rfl
section
variable {gr : Int} {L M : GM} {cs : List Cm} {hs : List Hs}
theorem ck_bad (h : badReq gr cs.length hs.length) : checkE gr L cs hs = some (none, 1) := by
 unfold checkE joinedP sizesP
 rw [if_pos h]
theorem ck_size {e : Option Hs × Int} (h : ¬ badReq gr cs.length hs.length) (h1 : cs.findSome? sizeE = some e) : checkE gr L cs hs = some e := by
 unfold checkE joinedP sizesP
 rw [if_neg h, h1]
theorem ck_join {x : Hs} {n : Int} (h1 : sizesP gr hs.length cs = none) (h2 : joinP L cs = .error (x, n)) : checkE gr L cs hs = some (some x, n) := by
 unfold checkE joinedP
 rw [h1]
 simp only [h2]
theorem ck_lack {e : Option Hs × Int} (h1 : sizesP gr hs.length cs = none) (h2 : joinP L cs = .ok M) (h3 : lackP M cs hs = some e) : checkE gr L cs hs = some e := by
 unfold checkE joinedP
 rw [h1]
 simp only [h2, h3]
theorem ck_round {e : Option Hs × Int} (h1 : sizesP gr hs.length cs = none) (h2 : joinP L cs = .ok M) (h3 : lackP M cs hs = none) (h4 : roundP L M cs = some e) : checkE gr L cs hs = some e := by
 unfold checkE joinedP
 rw [h1]
 simp only [h2, h3, h4]
theorem ck_full (h1 : sizesP gr hs.length cs = none) (h2 : joinP L cs = .ok M) (h3 : lackP M cs hs = none) (h4 : roundP L M cs = none) (h5 : 1000 < M.length) : checkE gr L cs hs = some (none, 13) := by
 unfold checkE joinedP
 rw [h1]
 simp only [h2, h3, h4, if_pos h5]
theorem ck_ok (h1 : sizesP gr hs.length cs = none) (h2 : joinP L cs = .ok M) (h3 : lackP M cs hs = none) (h4 : roundP L M cs = none) (h5 : ¬ 1000 < M.length) : checkE gr L cs hs = none := by
 unfold checkE joinedP
 rw [h1]
 simp only [h2, h3, h4, if_neg h5]
end
theorem old_acyc {m M : GM} {cs : List Cm} (hm : Good m) (h : joinP m cs = .ok M) {x : Hs} (hx : (look m x).isSome = true) : ¬ Reach (parsM M) (parsM M x) x := by
 obtain ⟨_, k2, _, _⟩ := join_spec h hm.keys
 obtain ⟨l, eo⟩ := Option.isSome_iff_exists.1 hx
 rw [parsM_some (k2 x l eo)]
 intro hr
 have : ∀ z, Reach (parsM M) l z → Reach (parsM m) l z ∧ (look m z).isSome = true := fun z hz => by
  induction hz with
  | base z hz => exact ⟨.base z hz, hm.closed x z (by rw [parsM_some eo]; exact hz)⟩
  | step z y _ hy ih =>
   obtain ⟨lz, hlz⟩ := Option.isSome_iff_exists.1 ih.2;rw [parsM_some (k2 z lz hlz)] at hy;have hy' : y ∈ parsM m z := by rw [parsM_some hlz]; exact hy
   exact ⟨.step z y ih.1 hy', hm.closed z y hy'⟩
 exact hm.acyc x (by rw [parsM_some eo]; exact (this x hr).1)
noncomputable def refE (X : GM) (c : Cm) : Er := if roundB X c.1 = true then some (some c.1, 12) else none
theorem findSome_congr {α β : Type} {f g : α → Option β} : ∀ {l : List α}, (∀ c ∈ l, f c = g c) → l.findSome? f = l.findSome? g
 | [], _ => rfl
 | c :: r, h => by
  rw [List.findSome?_cons, List.findSome?_cons, h c (by simp), findSome_congr fun x hx => h x (by simp [hx])]
theorem round_ref {L M X : GM} {cs : List Cm} (hg : Good L) (h : joinP L cs = .ok M) (ha : Alike M X) : cs.findSome? (refE X) = roundP L M cs := by
 obtain ⟨_, k2, k3, _⟩ := join_spec h hg.keys
 unfold roundP
 refine findSome_congr fun c hc => ?_
 have e3 := k3 c hc
 have hr : roundB X c.1 = roundB M c.1 := by unfold roundB; rw [ha.pars]
 unfold refE roundE
 rw [hr]
 cases ho : (look L c.1).isSome with
 | true => rw [roundB_no (old_acyc hg h ho)]; simp
 | false =>
  simp only [Bool.false_eq_true, if_false];by_cases q : Reach (parsM M) c.2 c.1
  · rw [roundB_yes (by rw [parsM_some e3]; exact q), if_pos q]; rfl
  · rw [roundB_no (by rw [parsM_some e3]; exact q), if_neg q]; rfl
theorem solA (l : List UInt8) : (∀ c ∈ bytesG l, c.solid = true) = True := by
 rw [allSolid_eq]; exact sol_bytes l
theorem GCalls.own1' {P : Program} {f : FuncId} {args args' : List GVal} {x y : GObj} {r : GVal} (h : GCalls P f args [x] (fun g O' => g = r ∧ O' = [y])) {O O2 : List GObj} (i : Nat) (hO : O[i]? = some x) (ha : args.map (GVal.place i) = args') (hx : x.isClock = false) (hy : y.isClock = false) (hc : clockOf O = none) (h2 : O.set i y = O2) :
 GCalls P f args' O (fun g O' => g = r ∧ O' = O2) := by
 subst ha h2
 refine (GCalls.ownFrame (R := fun g x' => g = r ∧ x' = y) (h.mono (by rintro g O' ⟨rfl, rfl⟩; exact ⟨y, rfl, rfl, rfl⟩)) i hO hc (fun g x' q => by rw [q.2]; exact hy) hx).mono ?_
 rintro g O' ⟨x', rfl, rfl, rfl⟩
 exact ⟨rfl, rfl⟩
theorem takeHs (l : List Hs) (k : Nat) : List.take k (hsG l) = hsG (l.take k) := take_hs l k
theorem twice_at {l : List Hs} {k : Nat} (h : k < l.length) (hn : (l.take k).Nodup) : (l.getD k h0 ∈ l.take k → twiceB l = true) ∧ (l.getD k h0 ∉ l.take k → (l.take (k + 1)).Nodup) := by
 have ht := takeH h
 constructor
 · intro hm;rw [twice_iff];intro q;have h2 : (l.take (k + 1)).Nodup := q.sublist (List.take_sublist _ _);rw [ht, List.nodup_append] at h2;exact h2.2.2 _ hm _ (by simp) rfl
 · intro hm;rw [ht, List.nodup_append];exact ⟨hn, by simp, fun a ha b hb => by rw [List.mem_singleton.1 hb]; exact fun e => hm (e ▸ ha)⟩
def zbPBg27 := ai @csG_len <| ai @all_hsG <| ai @all_csG <| ai @hsG_len <| ai @zeroH <| ai @drop32y <| ai @sol_bytes <| ai @List.append_nil.{0} <| ai @comG.eq_1 <| ai @vnT <| ai @v33 <| @v32
def zbPBg28 := ai @csG_len <| ai @all_hsG <| ai @all_csG <| ai @hsG_len <| ai @zeroH <| ai @drop32y <| ai @sol_bytes <| ai @List.append_nil.{0} <| ai @comG.eq_1 <| ai @v33 <| @v32
def zbPBg29 := ai @csG_len <| ai @all_hsG <| ai @all_csG <| ai @hsG_len <| ai @zeroH <| ai @drop32y <| ai @sol_bytes <| ai @List.append_nil.{0} <| ai @comG.eq_1 <| ai @takeHs <| ai @toNat0 <| ai @List.drop_zero.{0} <| ai @v33 <| @v32
theorem rCheck12M (X1 X2 X3 : GVal) (L : GM) (hL : SSC L) (hg : Good L) (cs : List Cm) (hs : List Hs) (th : Tag) (gr : Int) (rt : Nat) (hc : cs.length ≤ 1000000) (hh : hs.length ≤ 1000000) (hp : ∀ c ∈ cs, c.2.length ≤ 1000000) (hgr : gr = 1 ∨ gr = 2) :
 GCalls Try.prog 27 [.ptr 0 rt 0 0, .agg (reqG cs hs th gr)] (mObj X1 X2 X3 rt L) (fun g O' => g = chkV (checkE gr L cs hs) ∧ O' = mObj X1 X2 X3 rt L) := by
 have hd : ((gr = 1) = True ∧ (gr = 2) = False) ∨ ((gr = 1) = False ∧ (gr = 2) = True) := by
  rcases hgr with rfl | rfl
  · exact .inl ⟨eq_true rfl, eq_false (by decide)⟩
  · exact .inr ⟨eq_false (by decide), eq_true rfl⟩
 rcases hd with ⟨d1, dd⟩ | ⟨d1, dd⟩
 all_goals
  refine GCalls.dropTo ?_;by_cases h2 : 200 < cs.length
  · rw [ck_bad (.inr (.inl h2))];have d2 : ((200 : Int) < (cs.length : Int)) = True := eq_true (by omega);clear h2 hgr;refine h27.ca ?_;refine vqd (ai d1 <| ai dd <| ai d2 <| zbPBg27) @solA ?_;exact fun s5 s7 => ⟨_, mObj X1 X2 X3 rt L, [.row s5 32 [bytesG h0.1], .row s7 32 [bytesG h0.1]], rfl, leA_refl _, rfl, rfl⟩
  · have d2 : ((200 : Int) < (cs.length : Int)) = False := eq_false (by omega);by_cases h3 : 200 < hs.length
    · rw [ck_bad (.inr (.inr h3))];have d3 : ((200 : Int) < (hs.length : Int)) = True := eq_true (by omega);clear h2 h3 hgr;refine h27.ca ?_;refine vqd (ai d1 <| ai dd <| ai d2 <| ai d3 <| zbPBg27) @solA ?_;exact fun s5 s7 => ⟨_, mObj X1 X2 X3 rt L, [.row s5 32 [bytesG h0.1], .row s7 32 [bytesG h0.1]], rfl, leA_refl _, rfl, rfl⟩
    · have d3 : ((200 : Int) < (hs.length : Int)) = False := eq_false (by omega);have nbad : ¬ badReq gr cs.length hs.length := by
       rintro (q | q | q)
       · omega
       · exact h2 q
       · exact h3 q
      have hLl := hg.ok.len;refine h27.ca ?_;refine vqd (ai d1 <| ai dd <| ai d2 <| ai d3 <| zbPBg27) @solA ?_;intro s5 s7;refine vcSLoop_by (ι := { k : Nat // k ≤ cs.length ∧ cs.findSome? sizeE = (cs.drop k).findSome? sizeE }) (fun k => ⟨[.ptr 0 rt 0 0, .any, .any, .ref (reqG cs hs th gr), .any, .ptr 1 s5 0 0, .any, .ptr 2 s7 0 0, .int .i64 (k.1 : Nat)] ++ List.replicate 187 .any, [.row rt 4 [[.slice (csG L) .none, X1, X2, X3]], .row s5 32 [bytesG h0.1], .row s7 32 [bytesG h0.1]]⟩) (fun k => cs.length - k.1) ?_ ?_
      · exact Into.first ⟨0, by omega, by simp⟩ ⟨[], by simp⟩ (by simp [WL, leG_self, leG_any, leG_int])
      · rintro ⟨k, hk, hf⟩;by_cases h : k < cs.length
        · have d0 : ((k : Int) < (cs.length : Int)) = True := eq_true (by omega);have eS := csG_at cs k h;have hx := hp _ (memC h);rw [findC h] at hf;generalize cs.getD k default = x at *;obtain ⟨xh, xp⟩ := x
          change xp.length ≤ 1000000 at hx
          by_cases c4 : 4 < xp.length
          · have d4 : ((4 : Int) < (xp.length : Int)) = True := eq_true (by omega);have e1 : sizeE (xh, xp) = some (some xh, 8) := by rw [sizeE, if_pos c4]
            rw [e1] at hf;refine vqd (ai d0 <| ai eS <| ai d4 <| zbPBg28) @solA ?_;refine ⟨by omega, fun u => ?_⟩;rw [ck_size nbad hf];exact ⟨_, mObj X1 X2 X3 rt L, [.row s5 32 [bytesG xh.1], .row s7 32 [bytesG h0.1], .row u 33 [comG (xh, xp)]], rfl, leA_refl _, rfl, rfl⟩
          · have d4 : ((4 : Int) < (xp.length : Int)) = False := eq_false (by omega);refine vqd (ai d0 <| ai eS <| ai d4 <| zbPBg28) @solA ?_;refine ⟨by omega, fun u => ?_⟩;refine vcSLoop_by (ι := { j : Nat // j ≤ xp.length ∧ (xp.take j).Nodup }) (fun j => ⟨[.ptr 0 rt 0 0, .any, .any, .ref (reqG cs hs th gr), .any, .ptr 1 s5 0 0, .any, .ptr 2 s7 0 0, .int .i64 (k : Nat), .ptr 3 u 0 0, .int .i64 (j.1 : Nat)] ++ List.replicate 185 .any, [.row rt 4 [[.slice (csG L) .none, X1, X2, X3]], .row s5 32 [bytesG h0.1], .row s7 32 [bytesG h0.1]] ++ [.row u 33 [comG (xh, xp)]]⟩) (fun j => xp.length - j.1) ?_ ?_
            · exact Into.first ⟨0, by omega, by simp⟩ ⟨[], by simp [comG]⟩ (by simp [WL, leG_self, leG_any, leG_int])
            · rintro ⟨j, hj, hnd⟩;by_cases h' : j < xp.length
              · have d5 : ((j : Int) < (xp.length : Int)) = True := eq_true (by omega);have eP := hsG_at xp j h';have tw := twice_at h' hnd;generalize xp.getD j h0 = y at *;have cI := hIn (xp.take j) .none y (by rw [List.length_take]; omega);by_cases hy : y ∈ xp.take j
                · rw [decide_eq_true hy] at cI;have e1 : sizeE (xh, xp) = some (some xh, 1) := by rw [sizeE, if_neg c4, if_pos (tw.1 hy)]
                  rw [e1] at hf;refine vqd (ai d5 <| ai eP <| zbPBg29) @solA ?_;refine ⟨by omega, by omega, by omega, by omega, ?_⟩;refine cI.then ?_ (by rfl)
                  refine vqd zbPBg28 @solA ?_;rw [ck_size nbad hf];exact ⟨_, mObj X1 X2 X3 rt L, [.row s5 32 [bytesG xh.1], .row s7 32 [bytesG h0.1], .row u 33 [comG (xh, xp)]], rfl, leA_refl _, rfl, rfl⟩
                · rw [decide_eq_false hy] at cI;refine vqd (ai d5 <| ai eP <| zbPBg29) @solA ?_;refine ⟨by omega, by omega, by omega, by omega, ?_⟩;refine cI.then ?_ (by rfl)
                  refine vqd zbPBg28 @solA ?_;exact Into.at ⟨j + 1, by omega, tw.2 hy⟩ (by show xp.length - (j + 1) < xp.length - j; omega) ⟨[], by simp [comG]⟩ (by simp [WL, leG_self, leG_any, leG_int])
              · have d5 : ((j : Int) < (xp.length : Int)) = False := eq_false (by omega);have e1 : sizeE (xh, xp) = none := by
                 rw [sizeE, if_neg c4, if_neg];rw [twice_iff];rw [List.take_of_length_le (by omega)] at hnd;exact fun q => q hnd
                rw [e1] at hf;refine vqd (ai d5 <| zbPBg28) @solA ?_;exact Into.at ⟨k + 1, by omega, hf⟩ (by show cs.length - (k + 1) < cs.length - k; omega) ⟨[.row u 33 [comG (xh, xp)]], by simp [comG]⟩ (by simp [WL, leG_self, leG_any, leG_int])
        · have d0 : ((k : Int) < (cs.length : Int)) = False := eq_false (by omega);rw [List.drop_of_length_le (by omega)] at hf;have e1 : sizesP gr hs.length cs = none := by unfold sizesP; rw [if_neg nbad, hf]; rfl
          refine vqd (ai d0 <| zbPBg28) @solA ?_;intro sx;obtain ⟨n1, n2, _, n4⟩ := sizesP_none e1;refine vcSLoop_by (ι := { p : Nat × GM // p.1 ≤ cs.length ∧ joinP L cs = joinP p.2 (cs.drop p.1) ∧ Alike p.2 (putsC L (cs.take p.1)) }) (fun p => ⟨[.ptr 0 rt 0 0, .any, .any, .ref (reqG cs hs th gr), .any, .ptr 1 s5 0 0, .any, .ptr 2 s7 0 0, .any, .any, .any, .ptr 3 sx 0 0, .int .i64 (p.1.1 : Nat)] ++ List.replicate 183 .any, [.row rt 4 [[.slice (csG L) .none, X1, X2, X3]], .row s5 32 [bytesG h0.1], .row s7 32 [bytesG h0.1], .row sx 1 [[.slice (csG (putsC L (cs.take p.1.1))) .none]]]⟩) (fun p => cs.length - p.1.1) ?_ ?_
          · exact Into.first ⟨(0, L), by show 0 ≤ cs.length; omega, by simp, by simp [putsC]; exact fun _ => rfl⟩ ⟨[], by simp [putsC]⟩ (by simp [WL, leG_self, leG_any, leG_int])
          · rintro ⟨⟨k, M⟩, hk, hf, hA⟩
            change k ≤ cs.length at hk
            change joinP L cs = joinP M (cs.drop k) at hf
            change Alike M (putsC L (cs.take k)) at hA
            have hXs := putsC_ss (cs.take k) hL;have hXl := putsC_len (cs.take k) L;rw [List.length_take] at hXl;by_cases h : k < cs.length
            · have d0 : ((k : Int) < (cs.length : Int)) = True := eq_true (by omega);have eS := csG_at cs k h;have hx := n4 _ (memC h);have hsn := putsC_snoc L cs k h;rw [joinP_drop _ _ _ h] at hf;generalize cs.getD k default = x at *;obtain ⟨xh, xp⟩ := x;obtain ⟨X, hX⟩ : ∃ X, putsC L (cs.take k) = X := ⟨_, rfl⟩
              rw [hX] at hA hXs hXl hsn;have hx4 : xp.length ≤ 4 := hx.1;have cH := rHas X hXs (by omega) xh sx;have cP := rParents X hXs (by omega) xh sx;have cPut := rPut X hXs (by omega) (xh, xp) (by show xp.length ≤ 1000000; omega) sx;cases el : look X xh with
              | some l =>
               have elM : look M xh = some l := by rw [hA]; exact el
               rw [el] at cH;rw [parsM_some el] at cP;by_cases e : l = xp
               · have ej : joinE M (xh, xp) = .ok M := by unfold joinE; simp only [elM]; rw [if_pos e]
                 rw [ej] at hf;have cS := hSame l xp .none .none (by rw [e]; omega);rw [decide_eq_true e] at cS;refine vqd (ai d0 <| ai eS <| ai hX <| zbPBg28) @solA ?_;refine ⟨by omega, fun u => ?_⟩;refine (GCalls.keep1' cH (O := [.row rt 4 [[.slice (csG L) .none, X1, X2, X3]], .row s5 32 [bytesG h0.1], .row s7 32 [bytesG h0.1], .row sx 1 [[.slice (csG X) .none]], .row u 33 [comG (xh, xp)]]) 3 rfl rfl rfl rfl).mono ?_;rintro g O' ⟨rfl, rfl⟩;refine vqd zbPBg28 @solA ?_;refine (GCalls.keep1' cP (O := [.row rt 4 [[.slice (csG L) .none, X1, X2, X3]], .row s5 32 [bytesG h0.1], .row s7 32 [bytesG h0.1], .row sx 1 [[.slice (csG X) .none]], .row u 33 [comG (xh, xp)]]) 3 rfl rfl rfl rfl).mono ?_;rintro g O' ⟨rfl, rfl⟩;refine vqd zbPBg28 @solA ?_;refine ⟨⟨[], by simp [comG]⟩, ?_⟩;refine cS.then ?_ (by rfl)
                 refine vqd zbPBg28 @solA ?_;refine (GCalls.own1' cPut (O := [.row rt 4 [[.slice (csG L) .none, X1, X2, X3]], .row s5 32 [bytesG h0.1], .row s7 32 [bytesG h0.1], .row sx 1 [[.slice (csG X) .none]], .row u 33 [comG (xh, xp)]]) (O2 := [.row rt 4 [[.slice (csG L) .none, X1, X2, X3]], .row s5 32 [bytesG h0.1], .row s7 32 [bytesG h0.1], .row sx 1 [[.slice (csG (putC X (xh, xp))) .none]], .row u 33 [comG (xh, xp)]]) 3 rfl rfl rfl rfl rfl rfl).mono ?_;rintro g O' ⟨rfl, rfl⟩;refine vqd zbPBg28 @solA ?_;exact Into.at ⟨(k + 1, M), by show k + 1 ≤ cs.length; omega, hf, by show Alike M (putsC L (cs.take (k + 1))); rw [hsn]; exact join_put hA ej⟩ (by show cs.length - (k + 1) < cs.length - k; omega) ⟨[.row u 33 [comG (xh, xp)]], by simp [comG, hsn]⟩ (by simp [WL, leG_self, leG_any, leG_int])
               · have ej : joinE M (xh, xp) = .error (xh, 9) := by unfold joinE; simp only [elM]; rw [if_neg e]
                 rw [ej] at hf;have hXr : l.length ≤ 1000000 := by
                  have := putsC_row (n := 4) (cs.take k) (L := L) hg.ok.row (fun c hc => (n4 c (List.mem_of_mem_take hc)).1) (xh, l) (by rw [hX]; exact look_mem el);simp only at this; omega
                 have cS := hSame l xp .none .none (by omega);rw [decide_eq_false e] at cS;refine vqd (ai d0 <| ai eS <| ai hX <| zbPBg28) @solA ?_;refine ⟨by omega, fun u => ?_⟩;refine (GCalls.keep1' cH (O := [.row rt 4 [[.slice (csG L) .none, X1, X2, X3]], .row s5 32 [bytesG h0.1], .row s7 32 [bytesG h0.1], .row sx 1 [[.slice (csG X) .none]], .row u 33 [comG (xh, xp)]]) 3 rfl rfl rfl rfl).mono ?_;rintro g O' ⟨rfl, rfl⟩;refine vqd zbPBg28 @solA ?_;refine (GCalls.keep1' cP (O := [.row rt 4 [[.slice (csG L) .none, X1, X2, X3]], .row s5 32 [bytesG h0.1], .row s7 32 [bytesG h0.1], .row sx 1 [[.slice (csG X) .none]], .row u 33 [comG (xh, xp)]]) 3 rfl rfl rfl rfl).mono ?_;rintro g O' ⟨rfl, rfl⟩;refine vqd zbPBg28 @solA ?_;refine ⟨⟨[], by simp [comG]⟩, ?_⟩;refine cS.then ?_ (by rfl)
                 refine vqd zbPBg28 @solA ?_;rw [ck_join e1 hf];exact ⟨_, mObj X1 X2 X3 rt L, [.row s5 32 [bytesG xh.1], .row s7 32 [bytesG h0.1], .row sx 1 [[.slice (csG X) .none]], .row u 33 [comG (xh, xp)]], rfl, leA_refl _, rfl, rfl⟩
              | none =>
               have elM : look M xh = none := by rw [hA]; exact el
               have ej : joinE M (xh, xp) = .ok (mset M xh xp) := by unfold joinE; simp only [elM]
               rw [ej] at hf;rw [el] at cH;refine vqd (ai d0 <| ai eS <| ai hX <| zbPBg28) @solA ?_;refine ⟨by omega, fun u => ?_⟩;refine (GCalls.keep1' cH (O := [.row rt 4 [[.slice (csG L) .none, X1, X2, X3]], .row s5 32 [bytesG h0.1], .row s7 32 [bytesG h0.1], .row sx 1 [[.slice (csG X) .none]], .row u 33 [comG (xh, xp)]]) 3 rfl rfl rfl rfl).mono ?_;rintro g O' ⟨rfl, rfl⟩;refine vqd zbPBg28 @solA ?_;refine (GCalls.own1' cPut (O := [.row rt 4 [[.slice (csG L) .none, X1, X2, X3]], .row s5 32 [bytesG h0.1], .row s7 32 [bytesG h0.1], .row sx 1 [[.slice (csG X) .none]], .row u 33 [comG (xh, xp)]]) (O2 := [.row rt 4 [[.slice (csG L) .none, X1, X2, X3]], .row s5 32 [bytesG h0.1], .row s7 32 [bytesG h0.1], .row sx 1 [[.slice (csG (putC X (xh, xp))) .none]], .row u 33 [comG (xh, xp)]]) 3 rfl rfl rfl rfl rfl rfl).mono ?_;rintro g O' ⟨rfl, rfl⟩;refine vqd zbPBg28 @solA ?_;exact Into.at ⟨(k + 1, mset M xh xp), by show k + 1 ≤ cs.length; omega, hf, by show Alike (mset M xh xp) (putsC L (cs.take (k + 1))); rw [hsn]; exact join_put hA ej⟩ (by show cs.length - (k + 1) < cs.length - k; omega) ⟨[.row u 33 [comG (xh, xp)]], by simp [comG, hsn]⟩ (by simp [WL, leG_self, leG_any, leG_int])
            · have d0 : ((k : Int) < (cs.length : Int)) = False := eq_false (by omega);rw [List.drop_of_length_le (by omega), joinP] at hf;rw [List.take_of_length_le (by omega)] at hA hXs hXl;obtain ⟨X, hX⟩ : ∃ X, putsC L cs = X := ⟨_, rfl⟩
              have hXt : putsC L (cs.take k) = X := by rw [List.take_of_length_le (by omega)]; exact hX
              rw [hX] at hA hXs;have hXr := putsC_row (n := 4) cs (L := L) hg.ok.row (fun c hc => (n4 c hc).1);rw [hX] at hXr hXl;have hXm : GMOK X := ⟨by omega, hXr⟩
              have hML := hA.len (join_spec hf hg.keys).1 (ssc_keys hXs);have hLk : ∀ cs' hs', lackP M cs' hs' = lackP X cs' hs' := lack_alike hA;have hRd := round_ref hg hf hA;refine vqd (ai d0 <| ai hXt <| zbPBg28) @solA ?_;have cH := fun y => rHas X hXs (by omega) y sx
              have cR := fun y => rRound X hXs hXm y sx
              refine vcSLoop_by (ι := { k : Nat // k ≤ cs.length ∧ cs.findSome? (fun c => c.2.findSome? (nowhere X 10)) = (cs.drop k).findSome? (fun c => c.2.findSome? (nowhere X 10)) }) (fun k => ⟨[.ptr 0 rt 0 0, .any, .any, .ref (reqG cs hs th gr), .any, .ptr 1 s5 0 0, .any, .ptr 2 s7 0 0, .any, .any, .any, .ptr 3 sx 0 0, .any, .any, .int .i64 (k.1 : Nat)] ++ List.replicate 181 .any, [.row rt 4 [[.slice (csG L) .none, X1, X2, X3]], .row s5 32 [bytesG h0.1], .row s7 32 [bytesG h0.1], .row sx 1 [[.slice (csG X) .none]]]⟩) (fun k => cs.length - k.1) ?_ ?_
              · exact Into.first ⟨0, by omega, by simp⟩ ⟨[], by simp⟩ (by simp [WL, leG_self, leG_any, leG_int])
              · rintro ⟨k, hk, hf3⟩;by_cases h : k < cs.length
                · have d0 : ((k : Int) < (cs.length : Int)) = True := eq_true (by omega);have eS := csG_at cs k h;have hx := hp _ (memC h);rw [findC h] at hf3;generalize cs.getD k default = x at *;obtain ⟨xh, xp⟩ := x
                  change xp.length ≤ 1000000 at hx
                  simp only at hf3
                  refine vqd (ai d0 <| zbPBg28) @solA ?_;refine vcSLoop_by (ι := { j : Nat // j ≤ xp.length ∧ xp.findSome? (nowhere X 10) = (xp.drop j).findSome? (nowhere X 10) }) (fun j => ⟨[.ptr 0 rt 0 0, .any, .any, .ref (reqG cs hs th gr), .any, .ptr 1 s5 0 0, .any, .ptr 2 s7 0 0, .any, .any, .any, .ptr 3 sx 0 0, .any, .any, .int .i64 (k : Nat), .int .i64 (j.1 : Nat)] ++ List.replicate 180 .any, [.row rt 4 [[.slice (csG L) .none, X1, X2, X3]], .row s5 32 [bytesG h0.1], .row s7 32 [bytesG h0.1], .row sx 1 [[.slice (csG X) .none]]]⟩) (fun j => xp.length - j.1) ?_ ?_
                  · exact Into.first ⟨0, by omega, by simp⟩ ⟨[], by simp⟩ (by simp [WL, leG_self, leG_any, leG_int])
                  · rintro ⟨j, hj, hf2⟩;by_cases h' : j < xp.length
                    · have d1' : ((j : Int) < (xp.length : Int)) = True := eq_true (by omega);have eP := hsG_at xp j h';rw [findH h'] at hf2;generalize xp.getD j h0 = p at *;have cHp := cH p;cases el : look X p with
                      | some l =>
                       have en : nowhere X 10 p = none := by unfold nowhere; rw [el]
                       rw [en] at hf2;simp only [el, Option.isSome_some, Option.isSome_none] at cHp;refine vqd (ai d1' <| ai eS <| ai eP <| zbPBg28) @solA ?_;refine ⟨by omega, by omega, by omega, by omega, by omega, fun u => ?_⟩;refine (GCalls.keep1' cHp (O := [.row rt 4 [[.slice (csG L) .none, X1, X2, X3]], .row s5 32 [bytesG h0.1], .row s7 32 [bytesG h0.1], .row sx 1 [[.slice (csG X) .none]]] ++ [.row u 32 [bytesG p.1]]) 3 rfl rfl rfl rfl).mono ?_;rintro g O' ⟨rfl, rfl⟩;refine vqd zbPBg28 @solA ?_;exact Into.at ⟨j + 1, by omega, hf2⟩ (by show xp.length - (j + 1) < xp.length - j; omega) ⟨[.row u 32 [bytesG p.1]], by simp⟩ (by simp [WL, leG_self, leG_any, leG_int])
                      | none =>
                       have en : nowhere X 10 p = some (some p, 10) := by unfold nowhere; rw [el]
                       rw [en] at hf2;rw [hf2] at hf3;simp only [el, Option.isSome_some, Option.isSome_none] at cHp;refine vqd (ai d1' <| ai eS <| ai eP <| zbPBg28) @solA ?_;refine ⟨by omega, by omega, by omega, by omega, by omega, fun u => ?_⟩;refine (GCalls.keep1' cHp (O := [.row rt 4 [[.slice (csG L) .none, X1, X2, X3]], .row s5 32 [bytesG h0.1], .row s7 32 [bytesG h0.1], .row sx 1 [[.slice (csG X) .none]]] ++ [.row u 32 [bytesG p.1]]) 3 rfl rfl rfl rfl).mono ?_;rintro g O' ⟨rfl, rfl⟩;refine vqd zbPBg28 @solA ?_;have e : lackP M cs hs = some (some p, 10) := by rw [hLk]; unfold lackP; rw [hf3]
                       rw [ck_lack e1 hf e];exact ⟨_, mObj X1 X2 X3 rt L, [.row s5 32 [bytesG p.1], .row s7 32 [bytesG h0.1], .row sx 1 [[.slice (csG X) .none]], .row u 32 [bytesG p.1]], rfl, leA_refl _, rfl, rfl⟩
                    · have d1' : ((j : Int) < (xp.length : Int)) = False := eq_false (by omega);rw [List.drop_of_length_le (by omega)] at hf2;rw [hf2] at hf3;refine vqd (ai d1' <| ai eS <| zbPBg28) @solA ?_;refine ⟨by omega, by omega, ?_⟩;exact Into.at ⟨k + 1, by omega, hf3⟩ (by show cs.length - (k + 1) < cs.length - k; omega) ⟨[], by simp⟩ (by simp [WL, leG_self, leG_any, leG_int])
                · have d0 : ((k : Int) < (cs.length : Int)) = False := eq_false (by omega);rw [List.drop_of_length_le (by omega)] at hf3;have eL : lackP M cs hs = hs.findSome? (nowhere X 11) := by rw [hLk]; unfold lackP; rw [hf3]; rfl
                  refine vqd (ai d0 <| zbPBg28) @solA ?_;refine vcSLoop_by (ι := { j : Nat // j ≤ hs.length ∧ hs.findSome? (nowhere X 11) = (hs.drop j).findSome? (nowhere X 11) }) (fun j => ⟨[.ptr 0 rt 0 0, .any, .any, .ref (reqG cs hs th gr), .any, .ptr 1 s5 0 0, .any, .ptr 2 s7 0 0, .any, .any, .any, .ptr 3 sx 0 0, .any, .any, .any, .any, .any, .int .i64 (j.1 : Nat)] ++ List.replicate 178 .any, [.row rt 4 [[.slice (csG L) .none, X1, X2, X3]], .row s5 32 [bytesG h0.1], .row s7 32 [bytesG h0.1], .row sx 1 [[.slice (csG X) .none]]]⟩) (fun j => hs.length - j.1) ?_ ?_
                  · exact Into.first ⟨0, by omega, by simp⟩ ⟨[], by simp⟩ (by simp [WL, leG_self, leG_any, leG_int])
                  · rintro ⟨j, hj, hf2⟩;by_cases h' : j < hs.length
                    · have d1' : ((j : Int) < (hs.length : Int)) = True := eq_true (by omega);have eP := hsG_at hs j h';rw [findH h'] at hf2;generalize hs.getD j h0 = p at *;have cHp := cH p;cases el : look X p with
                      | some l =>
                       have en : nowhere X 11 p = none := by unfold nowhere; rw [el]
                       rw [en] at hf2;simp only [el, Option.isSome_some, Option.isSome_none] at cHp;refine vqd (ai d1' <| ai eP <| zbPBg28) @solA ?_;refine ⟨by omega, ?_⟩;refine (GCalls.keep1' cHp (O := [.row rt 4 [[.slice (csG L) .none, X1, X2, X3]], .row s5 32 [bytesG h0.1], .row s7 32 [bytesG h0.1], .row sx 1 [[.slice (csG X) .none]]]) 3 rfl rfl rfl rfl).mono ?_;rintro g O' ⟨rfl, rfl⟩;refine vqd zbPBg28 @solA ?_;exact Into.at ⟨j + 1, by omega, hf2⟩ (by show hs.length - (j + 1) < hs.length - j; omega) ⟨[], by simp⟩ (by simp [WL, leG_self, leG_any, leG_int])
                      | none =>
                       have en : nowhere X 11 p = some (some p, 11) := by unfold nowhere; rw [el]
                       rw [en] at hf2;rw [hf2] at eL;simp only [el, Option.isSome_some, Option.isSome_none] at cHp;refine vqd (ai d1' <| ai eP <| zbPBg28) @solA ?_;refine ⟨by omega, ?_⟩;refine (GCalls.keep1' cHp (O := [.row rt 4 [[.slice (csG L) .none, X1, X2, X3]], .row s5 32 [bytesG h0.1], .row s7 32 [bytesG h0.1], .row sx 1 [[.slice (csG X) .none]]]) 3 rfl rfl rfl rfl).mono ?_;rintro g O' ⟨rfl, rfl⟩;refine vqd (ai eP <| zbPBg28) @solA ?_;rw [ck_lack e1 hf eL];exact ⟨by omega, by omega, _, mObj X1 X2 X3 rt L, [.row s5 32 [bytesG p.1], .row s7 32 [bytesG h0.1], .row sx 1 [[.slice (csG X) .none]]], rfl, leA_refl _, rfl, rfl⟩
                    · have d1' : ((j : Int) < (hs.length : Int)) = False := eq_false (by omega);rw [List.drop_of_length_le (by omega)] at hf2;rw [hf2] at eL;refine vqd (ai d1' <| zbPBg28) @solA ?_;refine vcSLoop_by (ι := { k : Nat // k ≤ cs.length ∧ cs.findSome? (refE X) = (cs.drop k).findSome? (refE X) }) (fun k => ⟨[.ptr 0 rt 0 0, .any, .any, .ref (reqG cs hs th gr), .any, .ptr 1 s5 0 0, .any, .ptr 2 s7 0 0, .any, .any, .any, .ptr 3 sx 0 0, .any, .any, .any, .any, .any, .any, .int .i64 (k.1 : Nat)] ++ List.replicate 177 .any, [.row rt 4 [[.slice (csG L) .none, X1, X2, X3]], .row s5 32 [bytesG h0.1], .row s7 32 [bytesG h0.1], .row sx 1 [[.slice (csG X) .none]]]⟩) (fun k => cs.length - k.1) ?_ ?_
                      · exact Into.first ⟨0, by omega, by simp⟩ ⟨[], by simp⟩ (by simp [WL, leG_self, leG_any, leG_int])
                      · rintro ⟨k, hk, hf5⟩;by_cases h : k < cs.length
                        · have d0 : ((k : Int) < (cs.length : Int)) = True := eq_true (by omega);have eS := csG_at cs k h;rw [findC h] at hf5;generalize cs.getD k default = x at *;obtain ⟨xh, xp⟩ := x;have cRx := cR xh;cases er : roundB X xh with
                          | true =>
                           have en : refE X (xh, xp) = some (some xh, 12) := by unfold refE; rw [er]; rfl
                           rw [en] at hf5;rw [hf5] at hRd;rw [er] at cRx;refine vqd (ai d0 <| ai eS <| zbPBg28) @solA ?_;refine ⟨by omega, ?_⟩;refine (GCalls.keep1' cRx (O := [.row rt 4 [[.slice (csG L) .none, X1, X2, X3]], .row s5 32 [bytesG h0.1], .row s7 32 [bytesG h0.1], .row sx 1 [[.slice (csG X) .none]]]) 3 rfl rfl rfl rfl).mono ?_;rintro g O' ⟨rfl, rfl⟩;refine vqd (ai eS <| zbPBg28) @solA ?_;rw [ck_round e1 hf eL hRd.symm];exact ⟨by omega, by omega, _, mObj X1 X2 X3 rt L, [.row s5 32 [bytesG xh.1], .row s7 32 [bytesG h0.1], .row sx 1 [[.slice (csG X) .none]]], rfl, leA_refl _, rfl, rfl⟩
                          | false =>
                           have en : refE X (xh, xp) = none := by unfold refE; rw [er]; rfl
                           rw [en] at hf5;rw [er] at cRx;refine vqd (ai d0 <| ai eS <| zbPBg28) @solA ?_;refine ⟨by omega, ?_⟩;refine (GCalls.keep1' cRx (O := [.row rt 4 [[.slice (csG L) .none, X1, X2, X3]], .row s5 32 [bytesG h0.1], .row s7 32 [bytesG h0.1], .row sx 1 [[.slice (csG X) .none]]]) 3 rfl rfl rfl rfl).mono ?_;rintro g O' ⟨rfl, rfl⟩;refine vqd zbPBg28 @solA ?_;exact Into.at ⟨k + 1, by omega, hf5⟩ (by show cs.length - (k + 1) < cs.length - k; omega) ⟨[], by simp⟩ (by simp [WL, leG_self, leG_any, leG_int])
                        · have d0 : ((k : Int) < (cs.length : Int)) = False := eq_false (by omega);rw [List.drop_of_length_le (by omega)] at hf5;have eR : roundP L M cs = none := by rw [← hRd, hf5]; rfl
                          by_cases h5 : 1000 < X.length
                          · have d5 : ((1000 : Int) < (X.length : Int)) = True := eq_true (by omega);refine vqd (ai d0 <| ai d5 <| zbPBg28) @solA ?_;rw [ck_full e1 hf eL eR (by omega)];exact ⟨_, mObj X1 X2 X3 rt L, [.row s5 32 [bytesG h0.1], .row s7 32 [bytesG h0.1], .row sx 1 [[.slice (csG X) .none]]], rfl, leA_refl _, rfl, rfl⟩
                          · have d5 : ((1000 : Int) < (X.length : Int)) = False := eq_false (by omega);refine vqd (ai d0 <| ai d5 <| zbPBg28) @solA ?_;rw [ck_ok e1 hf eL eR (by omega)];exact ⟨_, mObj X1 X2 X3 rt L, [.row s5 32 [bytesG h0.1], .row s7 32 [bytesG h0.1], .row sx 1 [[.slice (csG X) .none]]], rfl, leA_refl _, rfl, rfl⟩
theorem rCheckM (X1 X2 X3 : GVal) (L : GM) (hL : SSC L) (hg : Good L) (cs : List Cm) (hs : List Hs) (th : Tag) (gr : Int) (rt : Nat) (hc : cs.length ≤ 1000000) (hh : hs.length ≤ 1000000) (hp : ∀ c ∈ cs, c.2.length ≤ 1000000) :
 GCalls Try.prog 27 [.ptr 0 rt 0 0, .agg (reqG cs hs th gr)] (mObj X1 X2 X3 rt L) (fun g O' => g = chkV (checkE gr L cs hs) ∧ O' = mObj X1 X2 X3 rt L) := by
 by_cases h1 : gr = 1
 · exact rCheck12M X1 X2 X3 L hL hg cs hs th gr rt hc hh hp (.inl h1)
 · by_cases h2 : gr = 2
   · exact rCheck12M X1 X2 X3 L hL hg cs hs th gr rt hc hh hp (.inr h2)
   · rw [ck_bad (.inl ⟨h1, h2⟩)];have d1 : (gr = 1) = False := eq_false h1;have dd : (gr = 2) = False := eq_false h2;refine GCalls.dropTo ?_;refine h27.ca ?_;refine vqd (ai d1 <| ai dd <| zbPBg27) @solA ?_;exact fun s5 s7 => ⟨_, mObj X1 X2 X3 rt L, [.row s5 32 [bytesG h0.1], .row s7 32 [bytesG h0.1]], rfl, leA_refl _, rfl, rfl⟩
end Gv.Try
namespace Gv.Try
open Go Gv Go.Proofs
open Nat (reduceEqDiff reduceAdd reduceSub reduceLeDiff reduceMul reduceLT)
def numK (l : List Hs) (b : Int) (a : List (Hs × Int)) : Nat → List (Hs × Int)
 | 0 => a
 | k + 1 => mset (numK l b a k) (l.getD k h0) (b + (k : Int))
abbrev splI : Int := 1099511627776
def ofM (M O : List Hs) : List (Hs × Int) := numK O splI (numK M 0 [] M.length) O.length
abbrev idO (ti so : Nat) (n : Int) (M O : List Hs) : List GObj := [.row ti 4 [[.int .i64 n, .slice (hsG M) .none, .slice (hsG O) .none, .map 1 so]], .map so (kvG encI (ofM M O))]
theorem mput (A : List (Hs × Int)) (x : Hs) (v : Int) : (∃ i, idxM A x = some i ∧ (∃ w, (kvG encI A)[i]? = some (.agg (bytesG x.1), encI w)) ∧ (kvG encI A).set i (.agg (bytesG x.1), .int .i64 v) = kvG encI (mset A x v)) ∨ (idxM A x = none ∧ kvG encI A ++ [(.agg (bytesG x.1), .int .i64 v)] = kvG encI (mset A x v)) := by
 cases e : look A x with
 | some w =>
  obtain ⟨i, hi, hv, hw⟩ := look_idx encI A x w e;exact .inl ⟨i, hi, ⟨w, hv⟩, hw v⟩
 | none =>
  obtain ⟨hi, hw⟩ := look_none encI A x e;exact .inr ⟨hi, hw v⟩
def zbIAg21 := ai @hsG_len <| ai @all_hsG <| ai @kfind_h <| @v32
theorem iNumber (ti : Nat) (m0 x1 x2 x3 : GVal) (M O : List Hs) (hM : M.length ≤ 1000000) (hO : O.length ≤ 1000000) : GCalls Try.prog 35 [.ptr 0 ti 0 0, .slice (hsG M) .none, .slice (hsG O) .none] [.row ti 4 [[m0, x1, x2, x3]]]
 (fun g O' => ∃ so, g = .tuple [] ∧ O' = [.row ti 4 [[m0, .slice (hsG M) .none, .slice (hsG O) .none, .map 1 so]], .map so (kvG encI (ofM M O))]) := by
 refine GCalls.dropTo ?_
 refine h35.ca ?_
 refine vq0 ?_
 intro so
 refine vcSLoop_by (ι := { k : Nat // k ≤ M.length }) (fun k => ⟨[.ptr 0 ti 0 0, .slice (hsG M) .none, .slice (hsG O) .none] ++ List.replicate 19 .any ++ [.slice (hsG M) .none, .int .i64 M.length, .int .i64 (k.1 : Nat)] ++ List.replicate 26 .any, [.row ti 4 [[m0, .slice (hsG M) .none, .slice (hsG O) .none, .map 1 so]], .map so (kvG encI (numK M 0 [] k.1))]⟩) (fun k => M.length - k.1) ?_ ?_
 · exact Into.first ⟨0, Nat.zero_le _⟩ ⟨[], by simp [kvG, numK]⟩ (by simp [WL, leG_self, leG_any, hsG_len])
 · rintro ⟨k, hk⟩
   change k ≤ M.length at hk
   by_cases h : k < M.length
   · have d0 : ((k : Int) < (M.length : Int)) = True := eq_true (by omega);have eS := hsG_at M k h;have eT : numK M 0 [] (k + 1) = mset (numK M 0 [] k) (M.getD k h0) (0 + (k : Int)) := rfl;rw [Int.zero_add] at eT;generalize M.getD k h0 = x at *;have eP := mput (numK M 0 [] k) x k
     rw [← eT] at eP;generalize numK M 0 [] k = A at *;rcases eP with ⟨i, hi, ⟨w, hv⟩, hw⟩ | ⟨hi, hw⟩
     · refine vq6 d0 eS hi hv hw zbIAg21 ?_;refine ⟨by omega, fun sb => ?_⟩;exact Into.at ⟨k + 1, h⟩ (by show _ < _; simp; omega) ⟨[.row sb 32 [bytesG x.1]], by simp⟩ (by simp [WL, leG_self, leG_any, leG_int])
     · refine vq5 d0 eS hi hw zbIAg21 ?_;refine ⟨by omega, fun sb => ?_⟩;exact Into.at ⟨k + 1, h⟩ (by show _ < _; simp; omega) ⟨[.row sb 32 [bytesG x.1]], by simp⟩ (by simp [WL, leG_self, leG_any, leG_int])
   · have d0 : ((k : Int) < (M.length : Int)) = False := eq_false (by omega);have ek : k = M.length := by omega
     subst ek;refine vq1 d0 ?_;refine vcSLoop_by (ι := { k : Nat // k ≤ O.length }) (fun k => ⟨[.ptr 0 ti 0 0, .slice (hsG M) .none, .slice (hsG O) .none] ++ List.replicate 33 .any ++ [.slice (hsG O) .none, .int .i64 O.length, .int .i64 (k.1 : Nat)] ++ List.replicate 12 .any, [.row ti 4 [[m0, .slice (hsG M) .none, .slice (hsG O) .none, .map 1 so]], .map so (kvG encI (numK O splI (numK M 0 [] M.length) k.1))]⟩) (fun k => O.length - k.1) ?_ ?_
     · exact Into.first ⟨0, Nat.zero_le _⟩ ⟨[], by simp [numK]⟩ (by simp [WL, leG_self, leG_any, hsG_len])
     · rintro ⟨k, hk⟩
       change k ≤ O.length at hk
       by_cases h : k < O.length
       · have d0 : ((k : Int) < (O.length : Int)) = True := eq_true (by omega);have eS := hsG_at O k h;have eT : numK O splI (numK M 0 [] M.length) (k + 1) = mset (numK O splI (numK M 0 [] M.length) k) (O.getD k h0) (splI + (k : Int)) := rfl;generalize O.getD k h0 = x at *;have eP := mput (numK O splI (numK M 0 [] M.length) k) x (splI + k)
         rw [← eT] at eP;generalize numK O splI (numK M 0 [] M.length) k = A at *;rcases eP with ⟨i, hi, ⟨w, hv⟩, hw⟩ | ⟨hi, hw⟩
         · refine vq6 d0 eS hi hv hw zbIAg21 ?_;refine ⟨by omega, fun sb => ?_⟩;exact Into.at ⟨k + 1, h⟩ (by show _ < _; simp; omega) ⟨[.row sb 32 [bytesG x.1]], by simp⟩ (by simp [WL, leG_self, leG_any, leG_int])
         · refine vq5 d0 eS hi hw zbIAg21 ?_;refine ⟨by omega, fun sb => ?_⟩;exact Into.at ⟨k + 1, h⟩ (by show _ < _; simp; omega) ⟨[.row sb 32 [bytesG x.1]], by simp⟩ (by simp [WL, leG_self, leG_any, leG_int])
       · have d0 : ((k : Int) < (O.length : Int)) = False := eq_false (by omega);have ek : k = O.length := by omega
         subst ek;refine vq1 d0 ?_;exact ⟨.tuple [], _, [], (List.append_nil _).symm, leA_refl _, so, rfl, rfl⟩
def idV (m : List (Hs × Int)) (h : Hs) : GVal := .tuple [.int .i64 ((look m h).getD 0), .bool (look m h).isSome]
def masterB (m : List (Hs × Int)) (h : Hs) : Bool := match look m h with
 | some v => decide (v < splI)
 | none => false
theorem iNew (n : Int) (h1 : 1 ≤ n) (h2 : n ≤ 600) : GCalls Try.prog 11 [.int .i64 n] [] (fun g O' => ∃ ti so, g = .tuple [.ptr 1 ti 0 0, .lit .nilIface] ∧ O' = [.map so [], .row ti 4 [[.int .i64 n, .slice [] .nil, .slice [] .nil, .map 0 so]]]) := by
 have d0 : (n < 1) = False := eq_false (by omega)
 have d1 : ((600 : Int) < n) = False := eq_false (by omega)
 refine h11.ca ?_
 refine vq2 d0 d1 ?_
 exact fun so => ⟨rfl, fun ti => ⟨ti, so, rfl, rfl⟩⟩
theorem iHashO (ti so : Nat) (n : Int) (M O : List Hs) (j : Nat) (hj : j ≤ 1000000) (hO : O.length ≤ 1000000) : GCalls Try.prog 23 [.ptr 0 ti 0 0, .int .i64 (1099511627776 + (j : Int))] (idO ti so n M O) (fun g O' => g = .tuple [.agg (bytesG (O.getD j h0).1), .bool (decide (j < O.length))] ∧ O' = idO ti so n M O) := by
 have d0 : ((1099511627776 : Int) ≤ 1099511627776 + (j : Int)) = True := eq_true (by omega)
 have eV : (1099511627776 + (j : Int) - 1099511627776) = j := by omega
 have d1 : ((j : Int) < 0) = False := eq_false (by omega)
 refine GCalls.dropTo ?_
 by_cases h : j < O.length
 · have d2 : ((O.length : Int) ≤ (j : Int)) = False := eq_false (by omega);have eS := hsG_at O j h;rw [decide_eq_true h];generalize O.getD j h0 = x at *;refine h23.ca ?_;refine vq8 d0 eV d1 d2 @hsG_len eS @all_hsG @v32 ?_;exact fun sb => ⟨by omega, by omega, _, idO ti so n M O, [.row sb 32 [bytesG x.1]], rfl, leA_refl _, rfl, rfl⟩
 · have d2 : ((O.length : Int) ≤ (j : Int)) = True := eq_true (by omega);have ex : O.getD j h0 = h0 := by rw [List.getD_eq_getElem?_getD, List.getElem?_eq_none (by omega)]; rfl
   rw [decide_eq_false h, ex];refine h23.ca ?_;refine vq5 d0 eV d1 d2 @hsG_len ?_;exact fun sb => ⟨_, idO ti so n M O, [_], rfl, leA_refl _, rfl, rfl⟩
theorem iHashM (ti so : Nat) (n : Int) (M O : List Hs) (j : Nat) (hj : j ≤ 1000000) (hM : M.length ≤ 1000000) : GCalls Try.prog 23 [.ptr 0 ti 0 0, .int .i64 (j : Int)] (idO ti so n M O) (fun g O' => g = .tuple [.agg (bytesG (M.getD j h0).1), .bool (decide (j < M.length))] ∧ O' = idO ti so n M O) := by
 have d0 : ((1099511627776 : Int) ≤ (j : Int)) = False := eq_false (by omega)
 have d1 : ((j : Int) < 0) = False := eq_false (by omega)
 refine GCalls.dropTo ?_
 by_cases h : j < M.length
 · have d2 : ((M.length : Int) ≤ (j : Int)) = False := eq_false (by omega);have eS := hsG_at M j h;rw [decide_eq_true h];generalize M.getD j h0 = x at *;refine h23.ca ?_;refine vq7 d0 d1 d2 @hsG_len eS @all_hsG @v32 ?_;exact fun sb => ⟨by omega, by omega, _, idO ti so n M O, [.row sb 32 [bytesG x.1]], rfl, leA_refl _, rfl, rfl⟩
 · have d2 : ((M.length : Int) ≤ (j : Int)) = True := eq_true (by omega);have ex : M.getD j h0 = h0 := by rw [List.getD_eq_getElem?_getD, List.getElem?_eq_none (by omega)]; rfl
   rw [decide_eq_false h, ex];refine h23.ca ?_;refine vq4 d0 d1 d2 @hsG_len ?_;exact fun sb => ⟨_, idO ti so n M O, [_], rfl, leA_refl _, rfl, rfl⟩
theorem h46w : FnS Try.prog 55 ⟨[22], []⟩ 27 [(.tmp 4)] s55 := .mk' Try.func55 (by kernel_rfl) (by kernel_rfl) (by kernel_rfl) (by kernel_rfl) (by kernel_rfl) (by kernel_rfl)
theorem iGrow (n : Nat) (hn : n ≤ 4398046511104) : GCalls Try.prog 55 [.slice [] .nil, .int .i64 n] [] (fun g O' => (n = 0 ∧ g = .slice [] .nil ∧ O' = []) ∨ ∃ st xs, g = .own 0 st 0 0 ∧ O' = [.row st 32 xs]) := by
 refine h46w.calls mixS (by simp) ?_
 simp only [gs0, s55, reduceAdd, reduceSub]
 have d0 : ((n : Int) < 0) = False := eq_false (by omega)
 refine vq3 d0 @false_imp_iff @true_and ?_
 refine ⟨fun h => ⟨by omega, by omega, by omega, by omega, by omega, by omega, fun y hy => by rw [(List.mem_replicate.1 hy).2]; rfl, by simp; omega, by simp; omega, .inr trivial, fun st => ⟨by omega, by omega, by omega, .inr ⟨st, _, rfl, rfl⟩⟩⟩, fun h => .inl (by omega)⟩
theorem iConcat (a b : List Hs) (ta tb tt : Tag) (hl : a.length + b.length ≤ 4398046511104) : GPure Try.prog 33 [.slice [[.slice (hsG a) ta], [.slice (hsG b) tb]] tt] (.slice (hsG (a ++ b)) .none) := by
 refine h33.pf ?_
 refine vq0 ?_
 refine vcSLoop_by (ι := { p : Nat × Nat // (p.1 = 0 ∧ p.2 = 0) ∨ (p.1 = 1 ∧ p.2 = a.length) ∨ (p.1 = 2 ∧ p.2 = a.length + b.length) }) (fun p => ⟨[.slice [[.slice (hsG a) ta], [.slice (hsG b) tb]] tt, .any, .any, .int .i64 (p.1.2 : Nat), .any, .any, .any, .any, .any, .slice [[.slice (hsG a) ta], [.slice (hsG b) tb]] tt, .int .i64 2, .int .i64 (p.1.1 : Nat)] ++ List.replicate 24 .any, []⟩) (fun p => 2 - p.1.1) ?_ ?_
 · exact Into.first ⟨(0, 0), .inl ⟨rfl, rfl⟩⟩ ⟨[], by simp⟩ (by simp [WL, leG_self, leG_any])
 · rintro ⟨⟨k, n⟩, hk⟩;simp only [] at hk;rcases hk with ⟨rfl, rfl⟩ | ⟨rfl, rfl⟩ | ⟨rfl, rfl⟩
   · have d1 : ((0 : Int) + a.length < 0) = False := eq_false (by omega);simp +contextual -implicitDefEqProofs (maxSteps := 2000000) (disch := omega) only [↓lenV, binV, optV, ↓loadV, ↓indexAddrV, ↓sliceV, ↓ifaceV, ↓appendV, ↓srcV, bound, cutTag, hiTag, GVal.cells, GVal.ofConst, ↓resV, resG, ↓reduceIte, reduceEqDiff, reduceAdd, reduceSub, reduceLeDiff, reduceCtorEq, ↓asrcV, Tag.cap, GVal.solid, Nat.reduceBEq, reduceMul, reduceLT, vcA, ↓vcB, vcC, fbFg, hsG_len, Int.reduceLT, Int.reduceLE, Int.reduceToNat, true_imp_iff, false_imp_iff, d1, vcD]
     exact Into.at ⟨(1, a.length), .inr (.inl ⟨rfl, rfl⟩)⟩ (by show _ < _; simp) ⟨[], by simp⟩ (by simp [WL, leG_self, leG_any, leG_int])
   · have d1 : ((a.length : Int) + b.length < 0) = False := eq_false (by omega);simp +contextual -implicitDefEqProofs (maxSteps := 2000000) (disch := omega) only [↓lenV, binV, optV, ↓loadV, ↓indexAddrV, ↓sliceV, ↓ifaceV, ↓appendV, ↓srcV, bound, cutTag, hiTag, GVal.cells, GVal.ofConst, ↓resV, resG, ↓reduceIte, reduceEqDiff, reduceAdd, reduceSub, reduceLeDiff, reduceCtorEq, ↓asrcV, Tag.cap, GVal.solid, Nat.reduceBEq, reduceMul, reduceLT, vcA, ↓vcB, vcC, fbFg, hsG_len, Int.reduceLT, Int.reduceLE, Int.reduceToNat, true_imp_iff, false_imp_iff, d1, vcD]
     exact Into.at ⟨(2, a.length + b.length), .inr (.inr ⟨rfl, rfl⟩)⟩ (by show _ < _; simp) ⟨[], by simp⟩ (by simp [WL, leG_self, leG_any, leG_int])
   · simp +contextual -implicitDefEqProofs (maxSteps := 2000000) (disch := omega) only [↓lenV, binV, optV, ↓loadV, ↓indexAddrV, ↓sliceV, ↓ifaceV, ↓appendV, ↓srcV, bound, cutTag, hiTag, GVal.cells, GVal.ofConst, ↓resV, resG, ↓reduceIte, reduceEqDiff, reduceAdd, reduceSub, reduceLeDiff, reduceCtorEq, ↓asrcV, Tag.cap, GVal.solid, Nat.reduceBEq, reduceMul, reduceLT, vcA, ↓vcB, vcC, fbFg, hsG_len, Int.reduceLT, Int.reduceLE, Int.reduceToNat, true_imp_iff, false_imp_iff, vcD]
     have hg := iGrow (a.length + b.length) hl;rw [Int.natCast_add] at hg;refine hg.mono ?_;clear hg;rintro g O' hg;refine vq0 ?_;refine vcSLoop_by (ι := { p : Nat × List Hs × Nat × List (List GVal) // (p.1 = 0 ∧ p.2.1 = []) ∨ (p.1 = 1 ∧ p.2.1 = a ∧ p.2.2.2 = hsG a) ∨ (p.1 = 2 ∧ p.2.1 = a ++ b ∧ p.2.2.2 = hsG (a ++ b)) }) (fun p => ⟨[.any, .any, .any, .any, .any, .any, .own 0 p.1.2.2.1 0 p.1.2.1.length] ++ List.replicate 18 .any ++ [.slice [[.slice (hsG a) ta], [.slice (hsG b) tb]] tt, .int .i64 2, .int .i64 (p.1.1 : Nat)] ++ List.replicate 8 .any, [.row p.1.2.2.1 32 p.1.2.2.2]⟩) (fun p => 2 - p.1.1) ?_ ?_
     · rcases hg with ⟨_, rfl, rfl⟩ | ⟨st, xs, rfl, rfl⟩
       · refine Into.row 6 32 rfl rfl ?_;refine vq0 ?_;intro t0;exact Into.first ⟨(0, [], t0, []), .inl ⟨rfl, rfl⟩⟩ ⟨[], by simp⟩ (by simp [WL, leG_self, leG_any])
       · exact Into.first ⟨(0, [], st, xs), .inl ⟨rfl, rfl⟩⟩ ⟨[], by simp⟩ (by simp [WL, leG_self, leG_any])
     · rintro ⟨⟨k, L, v, xs⟩, hk⟩;simp only [] at hk;rcases hk with ⟨rfl, rfl⟩ | ⟨rfl, rfl, rfl⟩ | ⟨rfl, rfl, rfl⟩
       · simp +contextual -implicitDefEqProofs (maxSteps := 2000000) (disch := omega) only [↓lenV, binV, optV, ↓loadV, ↓indexAddrV, ↓sliceV, ↓ifaceV, ↓appendV, ↓srcV, bound, cutTag, hiTag, GVal.cells, GVal.ofConst, ↓resV, resG, ↓reduceIte, reduceEqDiff, reduceAdd, reduceSub, reduceLeDiff, reduceCtorEq, ↓asrcV, Tag.cap, GVal.solid, Nat.reduceBEq, reduceMul, reduceLT, vcA, ↓vcB, vcC, fbFg, hsG_len, Int.reduceLT, Int.reduceLE, Int.reduceToNat, true_imp_iff, false_imp_iff, all_hsG, vcD]
         exact ⟨by omega, by omega, by omega, fun st => Into.at ⟨(1, a, st, hsG a), .inr (.inl ⟨rfl, rfl, rfl⟩)⟩ (by show _ < _; simp) ⟨[], by simp⟩ (by simp [WL, leG_self, leG_any, leG_int])⟩
       · simp +contextual -implicitDefEqProofs (maxSteps := 2000000) (disch := omega) only [↓lenV, binV, optV, ↓loadV, ↓indexAddrV, ↓sliceV, ↓ifaceV, ↓appendV, ↓srcV, bound, cutTag, hiTag, GVal.cells, GVal.ofConst, ↓resV, resG, ↓reduceIte, reduceEqDiff, reduceAdd, reduceSub, reduceLeDiff, reduceCtorEq, ↓asrcV, Tag.cap, GVal.solid, Nat.reduceBEq, reduceMul, reduceLT, vcA, ↓vcB, vcC, fbFg, hsG_len, Int.reduceLT, Int.reduceLE, Int.reduceToNat, true_imp_iff, false_imp_iff, all_hsG, vcD]
         exact ⟨by omega, by omega, by omega, fun st => Into.at ⟨(2, L ++ b, st, hsG (L ++ b)), .inr (.inr ⟨rfl, rfl, rfl⟩)⟩ (by show _ < _; simp) ⟨[], by rw [List.take_of_length_le (by rw [hsG_len]; exact Nat.le_refl _), hsG_app]; simp⟩ (by simp [WL, leG_self, leG_any, leG_int])⟩
       · simp +contextual -implicitDefEqProofs (maxSteps := 2000000) (disch := omega) only [↓lenV, binV, optV, ↓loadV, ↓indexAddrV, ↓sliceV, ↓ifaceV, ↓appendV, ↓srcV, bound, cutTag, hiTag, GVal.cells, GVal.ofConst, ↓resV, resG, ↓reduceIte, reduceEqDiff, reduceAdd, reduceSub, reduceLeDiff, reduceCtorEq, ↓asrcV, Tag.cap, GVal.solid, Nat.reduceBEq, reduceMul, reduceLT, vcA, ↓vcB, vcC, fbFg, hsG_len, Int.reduceLT, Int.reduceLE, Int.reduceToNat, true_imp_iff, false_imp_iff, vcD]
         exact ⟨4, .slice (hsG (a ++ b)) .none, frz_own rfl (hsG_len _).symm (frz_hs _ 2 _), by rw [leA_slice]⟩
theorem iWoGone (a b : GObj) (S : List Hs) (h : Hs) (s sb : Nat) : GCalls Try.prog 57 [.agg (bytesG h.1), .ptr 1 sb 0 0] [.map s (kvG encB (setM S)), .row sb 1 [[.map 0 s]]] (fun g O' => g = .bool (decide (h ∈ S)) ∧ O' = [.map s (kvG encB (setM S)), .row sb 1 [[.map 0 s]]]) := by
 by_cases hx : h ∈ S
 · obtain ⟨i, hi, hv, _⟩ := look_idx encB (setM S) h true (by rw [look_set, if_pos hx]);rw [decide_eq_true hx];refine h57.ca ?_;exact vd4 @kfind_h hi hv @v32
 · obtain ⟨hi, _⟩ := look_none encB (setM S) h (by rw [look_set, if_neg hx]);rw [decide_eq_false hx];refine h57.ca ?_;exact vd3 @kfind_h hi @v32
def setAdd (S : List Hs) (h : Hs) : List Hs := if h ∈ S then S else S ++ [h]
def setAll (l : List Hs) : List Hs := l.foldl setAdd []
theorem setAdd_mem (S : List Hs) (h x : Hs) : x ∈ setAdd S h ↔ x ∈ S ∨ x = h := by
 unfold setAdd
 split
 · rename_i hm;exact ⟨.inl, fun q => q.elim id fun e => e ▸ hm⟩
 · simp
theorem setFold_mem : ∀ (l S : List Hs) (x : Hs), x ∈ l.foldl setAdd S ↔ x ∈ S ∨ x ∈ l
 | [], S, x => by simp
 | a :: r, S, x => by rw [List.foldl_cons, setFold_mem r, setAdd_mem]; simp [or_assoc]
theorem setAll_mem (l : List Hs) (x : Hs) : x ∈ setAll l ↔ x ∈ l := by rw [setAll, setFold_mem]; simp
theorem setAll_snoc (l : List Hs) (h : Hs) : setAll (l ++ [h]) = setAdd (setAll l) h := by simp [setAll]
theorem mset_in : ∀ {S : List Hs} {h : Hs}, h ∈ S → mset (setM S) h true = setM S
 | [], h, hm => by cases hm
 | a :: r, h, hm => by
  rw [show setM (a :: r) = (a, true) :: setM r from rfl, mset];by_cases e : h = a
  · rw [if_pos e, e]
  · rw [if_neg e, mset_in ((List.mem_cons.1 hm).resolve_left e)]
theorem mset_add (S : List Hs) (h : Hs) : mset (setM S) h true = setM (setAdd S h) := by
 unfold setAdd
 split
 · exact mset_in (by assumption)
 · exact mset_set S h (by assumption)
def woL (l gone : List Hs) : List Hs := l.filter fun h => !decide (h ∈ gone)
theorem iWithout (l gone : List Hs) (hl : l.length ≤ 1000000) (hg : gone.length ≤ 1000000) : GPure Try.prog 34 [.slice (hsG l) .none, .slice (hsG gone) .none] (.slice (hsG (woL l gone)) .none) := by
 refine GCalls.dropTo (GCalls.meltOr 2 ?_)
 have eW : woL l gone = l.filter fun h => !decide (h ∈ setAll gone) := List.filter_congr fun h _ => by rw [decide_eq_decide.2 (setAll_mem gone h)]
 rw [eW]
 refine h34.ca ?_
 refine vq0 ?_
 intro s
 refine ⟨rfl, fun sb => ?_⟩
 have cD := fun v => gDeleteF (caps := [.ptr 1 sb 0 0]) (fun h => decide (h ∈ setAll gone)) (fun h => iWoGone .dead .dead (setAll gone) h s sb) rfl l v hl
 have cC := GCalls.newUp (hClone l .none (by omega) (by simp)) (O := [.map s (kvG encB (setM (setAll gone))), .row sb 1 [[.map 0 s]]]) rfl (by rintro g O' (⟨_, rfl, rfl⟩ | ⟨st, rfl, rfl⟩) <;> rfl)
 refine vcSLoop_by (ι := { k : Nat // k ≤ gone.length }) (fun k => ⟨[.slice (hsG l) .none, .slice (hsG gone) .none, .any, .any, .any, .ptr 1 sb 0 0, .any, .any, .any, .slice (hsG gone) .none, .int .i64 gone.length, .int .i64 (k.1 : Nat)] ++ List.replicate 10 .any, [.map s (kvG encB (setM (setAll (gone.take k.1)))), .row sb 1 [[.map 0 s]]]⟩) (fun k => gone.length - k.1) ?_ ?_
 · exact Into.first ⟨0, Nat.zero_le _⟩ ⟨[], by simp [kvG, setAll]⟩ (by simp [WL, leG_self, leG_any, hsG_len])
 · rintro ⟨k, hk⟩
   change k ≤ gone.length at hk
   by_cases h : k < gone.length
   · have d0 : ((k : Int) < (gone.length : Int)) = True := eq_true (by omega);have eS := hsG_at gone k h;have eT : setAll (gone.take (k + 1)) = setAdd (setAll (gone.take k)) (gone.getD k h0) := by rw [takeH h, setAll_snoc]
     clear cD cC eW;generalize gone.getD k h0 = x at *;generalize setAll (gone.take k) = S at *;have em := mset_add S x
     rw [← eT] at em;by_cases hx : x ∈ S
     · obtain ⟨i, hi, hv, hw⟩ := look_idx encB (setM S) x true (by rw [look_set, if_pos hx]);have hw := hw true;rw [em] at hw;refine vq9 d0 eS @hsG_len @all_hsG @kfind_h hi hv hw @v32 ?_;refine ⟨by omega, fun sc => ?_⟩;exact Into.at ⟨k + 1, h⟩ (by show _ < _; simp; omega) ⟨[.row sc 32 [bytesG x.1]], by simp⟩ (by simp [WL, leG_self, leG_any, leG_int])
     · obtain ⟨hi, hw⟩ := look_none encB (setM S) x (by rw [look_set, if_neg hx]);have hw := hw true;rw [em] at hw;refine vq8 d0 eS @hsG_len @all_hsG @kfind_h hi hw @v32 ?_;refine ⟨by omega, fun sc => ?_⟩;exact Into.at ⟨k + 1, h⟩ (by show _ < _; simp; omega) ⟨[.row sc 32 [bytesG x.1]], by simp⟩ (by simp [WL, leG_self, leG_any, leG_int])
   · have d0 : ((k : Int) < (gone.length : Int)) = False := eq_false (by omega);rw [List.take_of_length_le (show gone.length ≤ k by omega)];refine vq1 d0 ?_;refine cC.mono ?_;rintro g O' ⟨g0, O1, (⟨rfl, rfl, rfl⟩ | ⟨v, rfl, rfl⟩), rfl, rfl⟩
     · refine vq0 ?_;refine (gDeleteNil _).mono ?_;rintro g O' ⟨rfl, rfl⟩;refine vq0 ?_;exact .inl ⟨.slice [] .nil, leA_refl _, .slice [] .none, [], _, rfl, by rw [leA_slice], rfl, rfl⟩
     · refine vq0 ?_;refine (cD v).mono ?_;rintro g O' ⟨rfl, rfl⟩;refine vq0 ?_;exact .inr ⟨v, 32, _, [.map s (kvG encB (setM (setAll gone))), .row sb 1 [[.map 0 s]]], by rw [hsG_len]; rfl, rfl, frz_hs _ 1 _, _, [], _, rfl, leA_refl _, rfl, rfl⟩
abbrev wObjX (y1 y2 : GObj) (st s : Nat) (m : GM) (sq sw sv so n : Nat) (dg : GVal) (K Z : List Cm) (S out : List Hs) : List GObj :=
 [.row st 1 [[.map 1 s]], .map s (kvG encL m), y1, y2, .map sq (kvG encB (setM S)), .row sw 5 [[.ptr 0 st 0 0, dg, .map 4 sq, .own 6 sv 0 n, .slice (hsG out) (.tok 7 so)]], .row sv 33 (csG (K ++ Z)), .tok so 32]
abbrev DoneX (y1 y2 : GObj) (st s : Nat) (m : GM) (F : FuncId) (pre caps : List GVal) (h : Hs) (b : Bool) : Prop := ∀ X : List GObj, GCalls Try.prog F (pre ++ [.agg (bytesG h.1)] ++ caps) (.row st 1 [[.map 1 s]] :: .map s (kvG encL m) :: y1 :: y2 :: X) (fun g O' => g = .bool b ∧ O' = .row st 1 [[.map 1 s]] :: .map s (kvG encL m) :: y1 :: y2 :: X)
def zbBG2g7 := ai @setO_3 <| ai @setO_4 <| ai @setO_5 <| ai @setO_6 <| ai @setO_7 <| ai @setO_8 <| ai @kfind_h <| @v32
theorem gPush1X (y1 y2 : GObj) (m : GM) (hm : GMOK m) (h : Hs) (st s sq sw sv so n : Nat) (dg : GVal) (K Z : List Cm) (S out : List Hs) (hl : look m h = none) (hn : n = K.length) :
 GCalls Try.prog 53 [.ptr 5 sw 0 0, .agg (bytesG h.1)] (wObjX y1 y2 st s m sq sw sv so n dg K Z S out) (fun g O' => g = .tuple [] ∧ O' = wObjX y1 y2 st s m sq sw sv so n dg K Z S out) := by
 subst hn
 have c := fun X => gParK m h st s (by have := hm.pars h; omega) X
 simp only [hl, Option.isSome_none] at c
 refine h53.ca ?_
 refine vq1 @v32 ?_
 refine (c _).mono ?_
 rintro g O' ⟨rfl, rfl⟩
 exact vd1 zbBG2g7
theorem gPush2X (y1 y2 : GObj) (m : GM) (hm : GMOK m) (h : Hs) (st s sq sw sv so n : Nat) (dg : GVal) (K Z : List Cm) (S out : List Hs) (l : List Hs) (hl : look m h = some l) (hS : h ∈ S) (hn : n = K.length) :
 GCalls Try.prog 53 [.ptr 5 sw 0 0, .agg (bytesG h.1)] (wObjX y1 y2 st s m sq sw sv so n dg K Z S out) (fun g O' => g = .tuple [] ∧ O' = wObjX y1 y2 st s m sq sw sv so n dg K Z S out) := by
 subst hn
 have c := fun X => gParK m h st s (by have := hm.pars h; omega) X
 simp only [hl, Option.isSome_some, parsM_some hl] at c
 obtain ⟨i, hi, hv, _⟩ := look_idx encB (setM S) h true (by rw [look_set, if_pos hS])
 refine h53.ca ?_
 refine vq1 @v32 ?_
 refine (c _).mono ?_
 rintro g O' ⟨rfl, rfl⟩
 exact vd3 hi hv zbBG2g7
theorem gPush3X (y1 y2 : GObj) (m : GM) (hm : GMOK m) (h : Hs) (st s sq sw sv so n : Nat) (F : FuncId) (pre caps : List GVal) (K Z : List Cm) (S out : List Hs) (l : List Hs) (hl : look m h = some l) (hS : h ∉ S) (hF : DoneX y1 y2 st s m F pre caps h true) (hn : n = K.length) :
 GCalls Try.prog 53 [.ptr 5 sw 0 0, .agg (bytesG h.1)] (wObjX y1 y2 st s m sq sw sv so n (.func (.func F) pre caps) K Z S out) (fun g O' => g = .tuple [] ∧ O' = wObjX y1 y2 st s m sq sw sv so n (.func (.func F) pre caps) K Z S out) := by
 subst hn
 have c := fun X => gParK m h st s (by have := hm.pars h; omega) X
 simp only [hl, Option.isSome_some, parsM_some hl] at c
 obtain ⟨hi, hw⟩ := look_none encB (setM S) h (by rw [look_set, if_neg hS])
 have hw := hw true
 rw [mset_set S h hS] at hw
 refine h53.ca ?_
 refine vq1 @v32 ?_
 refine (c _).mono ?_
 rintro g O' ⟨rfl, rfl⟩
 refine vq3 hi hw zbBG2g7 ?_
 refine (hF _).mono ?_
 rintro g O' ⟨rfl, rfl⟩
 exact vd1 (ai @setO_3 <| ai @setO_4 <| ai @setO_5 <| ai @setO_6 <| ai @setO_7 <| ai @setO_8 <| ai @kfind_h <| ai @csG_len <| ai @all_csG <| ai hi <| ai hw <| ai @v33 <| @v32)
theorem gPush4X (y1 y2 : GObj) (m : GM) (hm : GMOK m) (h : Hs) (st s sq sw sv so n : Nat) (F : FuncId) (pre caps : List GVal) (K Z : List Cm) (S out : List Hs) (l : List Hs) (hl : look m h = some l) (hS : h ∉ S) (hF : DoneX y1 y2 st s m F pre caps h false) (hK : K.length ≤ 1000000) (hn : n = K.length) :
 GCalls Try.prog 53 [.ptr 5 sw 0 0, .agg (bytesG h.1)] (wObjX y1 y2 st s m sq sw sv so n (.func (.func F) pre caps) K Z S out) (fun g O' => ∃ sv', g = .tuple [] ∧ O' = wObjX y1 y2 st s m sq sw sv' so (n + 1) (.func (.func F) pre caps) (K ++ [(h, l)]) [] (S ++ [h]) out) := by
 subst hn
 have c := fun X => gParK m h st s (by have := hm.pars h; omega) X
 simp only [hl, Option.isSome_some, parsM_some hl] at c
 obtain ⟨hi, hw⟩ := look_none encB (setM S) h (by rw [look_set, if_neg hS])
 have hw := hw true
 rw [mset_set S h hS] at hw
 refine h53.ca ?_
 refine vq1 @v32 ?_
 refine (c _).mono ?_
 rintro g O' ⟨rfl, rfl⟩
 refine vq3 hi hw zbBG2g7 ?_
 refine (hF _).mono ?_
 rintro g O' ⟨rfl, rfl⟩
 refine vq1 (ai @setO_3 <| ai @setO_4 <| ai @setO_5 <| ai @setO_6 <| ai @setO_7 <| ai @setO_8 <| ai @kfind_h <| ai @csG_len <| ai @all_csG <| ai hi <| ai hw <| ai @v33 <| @v32) ?_
 refine ⟨by simp, by omega, by omega, fun v => ⟨v, ?_⟩⟩
 rw [take_csG]
 simp [csG_app, csG_one, comG]
theorem gPushX (y1 y2 : GObj) (m : GM) (hm : GMOK m) (h : Hs) (st s sq sw sv so n : Nat) (F : FuncId) (pre caps : List GVal) (dn : Hs → Bool) (hd : ∀ h, DoneX y1 y2 st s m F pre caps h (dn h)) (K Z : List Cm) (S out : List Hs) (hK : K.length ≤ 1000000) (hn : n = K.length) :
 GCalls Try.prog 53 [.ptr 5 sw 0 0, .agg (bytesG h.1)] (wObjX y1 y2 st s m sq sw sv so n (.func (.func F) pre caps) K Z S out) (fun g O' => ∃ sv' Z', g = .tuple [] ∧ O' = if pushed m dn S h = true then wObjX y1 y2 st s m sq sw sv' so (n + 1) (.func (.func F) pre caps) (K ++ [(h, parsM m h)]) Z' (S ++ [h]) out else wObjX y1 y2 st s m sq sw sv' so n (.func (.func F) pre caps) K Z' S out) := by
 have stay : pushed m dn S h = false → GCalls Try.prog 53 [.ptr 5 sw 0 0, .agg (bytesG h.1)] (wObjX y1 y2 st s m sq sw sv so n (.func (.func F) pre caps) K Z S out) (fun g O' => g = .tuple [] ∧ O' = wObjX y1 y2 st s m sq sw sv so n (.func (.func F) pre caps) K Z S out) →
  GCalls Try.prog 53 [.ptr 5 sw 0 0, .agg (bytesG h.1)] (wObjX y1 y2 st s m sq sw sv so n (.func (.func F) pre caps) K Z S out) (fun g O' => ∃ sv' Z', g = .tuple [] ∧ O' = if pushed m dn S h = true then wObjX y1 y2 st s m sq sw sv' so (n + 1) (.func (.func F) pre caps) (K ++ [(h, parsM m h)]) Z' (S ++ [h]) out else wObjX y1 y2 st s m sq sw sv' so n (.func (.func F) pre caps) K Z' S out) := fun hp hc => by
  rw [hp];refine hc.mono ?_;rintro g O' ⟨rfl, rfl⟩;exact ⟨sv, Z, rfl, by rw [if_neg (by simp)]⟩
 cases hl : look m h with
 | none => exact stay (by unfold pushed; rw [hl]; rfl) (gPush1X y1 y2 m hm h st s sq sw sv so n (.func (.func F) pre caps) K Z S out hl hn)
 | some l =>
  rw [parsM_some hl];rw [parsM_some hl] at stay;by_cases hS : h ∈ S
  · exact stay (by unfold pushed; rw [hl]; simp [hS]) (gPush2X y1 y2 m hm h st s sq sw sv so n (.func (.func F) pre caps) K Z S out l hl hS hn)
  · have hF := hd h;cases hb : dn h with
    | true =>
     rw [hb] at hF;exact stay (by unfold pushed; rw [hl, hb]; simp) (gPush3X y1 y2 m hm h st s sq sw sv so n F pre caps K Z S out l hl hS hF hn)
    | false =>
     rw [hb] at hF;have hp : pushed m dn S h = true := by unfold pushed; rw [hl, hb]; simp [hS]
     rw [hp];refine (gPush4X y1 y2 m hm h st s sq sw sv so n F pre caps K Z S out l hl hS hF hK hn).mono ?_;rintro g O' ⟨sv', rfl, rfl⟩;exact ⟨sv', [], rfl, by rw [if_pos rfl]⟩
theorem gStep1X (y1 y2 : GObj) (m : GM) (hm : GMOK m) (st s sq sw sv so n : Nat) (F : FuncId) (pre caps : List GVal) (dn : Hs → Bool) (hd : ∀ h, DoneX y1 y2 st s m F pre caps h (dn h)) (K Z : List Cm) (x p : Hs) (r S out : List Hs) (hK : K.length ≤ 999999) (hn : n = K.length) :
 GCalls Try.prog 54 [.ptr 5 sw 0 0] (wObjX y1 y2 st s m sq sw sv so (n + 1) (.func (.func F) pre caps) (K ++ [(x, p :: r)]) Z S out) (fun g O' => ∃ sv' Z', g = .tuple [] ∧ O' = if pushed m dn S p = true then wObjX y1 y2 st s m sq sw sv' so (n + 2) (.func (.func F) pre caps) (K ++ [(x, r)] ++ [(p, parsM m p)]) Z' (S ++ [p]) out else wObjX y1 y2 st s m sq sw sv' so (n + 1) (.func (.func F) pre caps) (K ++ [(x, r)]) Z' S out) := by
 subst hn
 have eS : (csG (K ++ [(x, p :: r)] ++ Z)).getD K.length [] = bytesG x.1 ++ [.slice (hsG (p :: r)) .none] := by
  rw [csG_at _ _ (by simp)];simp [List.getD, comG]
 have d1 : ((K.length : Int) + 1 - 1).toNat = K.length := by omega
 have eH : (hsG (p :: r)).getD 0 [] = bytesG p.1 := rfl
 have d2 : ((0 : Int) < (r.length : Int) + 1) = True := eq_true (by omega)
 have eD : List.drop (Int.toNat 1) (List.take ((r.length : Int) + 1).toNat (hsG (p :: r))) = hsG r := by
  have e : ((r.length : Int) + 1).toNat = (hsG (p :: r)).length := by rw [hsG_len]; simp
  rw [e, List.take_length]; rfl
 have eW : (csG (K ++ [(x, p :: r)] ++ Z)).set K.length (bytesG x.1 ++ [.slice (hsG r) .none]) = csG (K ++ [(x, r)] ++ Z) := by
  rw [csG_app, csG_app, csG_app, csG_app, List.append_assoc, List.set_append_right _ _ (by rw [csG_len]; omega), csG_len, Nat.sub_self, List.append_assoc];rfl
 have cP := gPushX y1 y2 m hm p st s sq sw sv so (K.length + 1) F pre caps dn hd (K ++ [(x, r)]) Z S out (by simp; omega) (by simp)
 refine GCalls.dropTo ?_
 refine h54.ca ?_
 refine vq1 (ai @kfind_h <| ai @csG_len <| ai @all_csG <| ai eS <| ai eH <| ai d1 <| ai d2 <| ai eD <| ai eW <| ai @all_hsG <| ai @toNat0 <| ai @setO_3 <| ai @setO_4 <| ai @setO_5 <| ai @setO_6 <| ai @setO_7 <| ai @setO_8 <| ai @true_imp_iff <| ai @Nat.sub_zero <| ai @List.drop_zero.{0} <| ai @hsG_len <| ai @List.length_append.{0} <| ai @List.length_cons.{0} <| ai @List.length_nil.{0} <| ai @List.length_singleton.{0} <| ai @v33 <| @v32) ?_
 refine ⟨by omega, by omega, by omega, by omega, by omega, by omega, fun u => ⟨by omega, by omega, by omega, by omega, by omega, ?_⟩⟩
 refine (GCalls.tail cP (by rintro g O' ⟨_, _, rfl, rfl⟩; split <;> exact ⟨rfl, by simp⟩) rfl (by simp) [.row u 32 [bytesG p.1]]).mono ?_
 rintro g O' ⟨_, ⟨sv', Z', rfl, rfl⟩, rfl⟩
 refine vq0 ?_
 exact ⟨_, _, _, rfl, leA_refl _, sv', Z', rfl, rfl⟩
theorem gStep0X (y1 y2 : GObj) (m : GM) (st s sq sw sv so n : Nat) (dg : GVal) (K Z : List Cm) (x : Hs) (S out : List Hs) (hK : K.length ≤ 999999) (ho : out.length ≤ 1000000) (hn : n = K.length) :
 GCalls Try.prog 54 [.ptr 5 sw 0 0] (wObjX y1 y2 st s m sq sw sv so (n + 1) dg (K ++ [(x, [])]) Z S out) (fun g O' => ∃ so', g = .tuple [] ∧ O' = wObjX y1 y2 st s m sq sw sv so' n dg K ((x, []) :: Z) S (out ++ [x])) := by
 subst hn
 have eS : (csG (K ++ [(x, [])] ++ Z)).getD K.length [] = bytesG x.1 ++ [.slice (hsG []) .none] := by
  rw [csG_at _ _ (by simp)];simp [List.getD, comG]
 have d1 : ((K.length : Int) + 1 - 1).toNat = K.length := by omega
 refine h54.ca ?_
 refine vq1 (ai @kfind_h <| ai @csG_len <| ai @all_csG <| ai eS <| ai d1 <| ai @toNat0 <| ai @setO_3 <| ai @setO_4 <| ai @setO_5 <| ai @setO_6 <| ai @setO_7 <| ai @setO_8 <| ai @Int.lt_irrefl <| ai @false_imp_iff <| ai @true_and <| ai @Nat.sub_zero <| ai @List.drop_zero.{0} <| ai @hsG_len <| ai @all_hsG <| ai @List.length_append.{0} <| ai @List.length_cons.{0} <| ai @List.length_nil.{0} <| ai @List.length_singleton.{0} <| ai @v33 <| @v32) ?_
 refine ⟨by omega, by omega, by omega, by omega, by omega, by omega, by omega, fun so' => ⟨by omega, by omega, by omega, so', ?_⟩⟩
 simp [hsG_app, hsG]
def zbBH2g8 := ai @setO_3 <| ai @setO_4 <| ai @setO_5 <| ai @setO_6 <| ai @setO_7 <| ai @setO_8 <| @v32
def zbBH2g9 := ai @setO_3 <| ai @setO_4 <| ai @setO_5 <| ai @setO_6 <| ai @setO_7 <| ai @setO_8 <| ai @List.length_append.{0} <| ai @List.length_cons.{0} <| ai @List.length_nil.{0} <| ai @List.length_singleton.{0} <| @v32
theorem gWalkX (y1 y2 : GObj) (m : GM) (hm : GMOK m) (hs : List Hs) (th : Tag) (st s : Nat) (F : FuncId) (pre caps : List GVal) (dn : Hs → Bool) (hF : ∀ h : Hs, DoneX y1 y2 st s m F pre caps h (dn h)) (T : WSt) (hT : VisL m dn hs ([], []) T) (hl : hs.length ≤ 1000000) :
 GCalls Try.prog 31 [.ptr 0 st 0 0, .slice (hsG hs) th, (.func (.func F) pre caps)] (gObj st s m ++ [y1, y2]) (fun g O' => g = .slice (hsG T.2) .none ∧ O' = gObj st s m ++ [y1, y2]) := by
 have hml := hm.len
 have hd := hF
 refine GCalls.dropTo ?_
 refine h31.ca ?_
 refine vq1 @hsG_len ?_
 refine fun sq => ⟨⟨rfl, rfl, rfl⟩, fun sw => ?_⟩
 refine vcSLoop_by (ι := { p : ((Nat × List Cm) × (List Hs × List Hs)) × (Nat × Nat) // p.1.1.1 ≤ hs.length ∧ VisL m dn (hs.drop p.1.1.1) p.1.2 T ∧ SInv m p.1.2.1 p.1.2.2 0 }) (fun p => ⟨[.ptr 0 st 0 0, .slice (hsG hs) th, (.func (.func F) pre caps)] ++ List.replicate 4 .any ++ [.ptr 5 sw 0 0] ++ List.replicate 9 .any ++ [.slice (hsG hs) th, .int .i64 hs.length, .int .i64 (p.1.1.1.1 : Nat)] ++ List.replicate 19 .any, wObjX y1 y2 st s m sq sw p.1.2.1 p.1.2.2 0 (.func (.func F) pre caps) [] p.1.1.1.2 p.1.1.2.1 p.1.1.2.2⟩) (fun p => hs.length - p.1.1.1.1) ?_ ?_
 · refine Into.cellRow 5 3 33 rfl rfl rfl rfl ?_;refine vq0 ?_;intro sv;refine Into.cellTok 5 4 32 [] rfl rfl rfl rfl ?_;refine vq0 ?_;intro so;exact Into.first ⟨(((0, []), ([], [])), (sv, so)), by show 0 ≤ _; omega, by simpa using hT, ⟨List.nodup_nil, by simp, by simp⟩⟩ ⟨[], rfl⟩ (by simp [WL, leG_self, leG_any, hsG_len])
 · rintro ⟨⟨⟨⟨k, Z⟩, ⟨S, out⟩⟩, ⟨sv, so⟩⟩, hk, hV, hI⟩
   change k ≤ hs.length at hk
   change VisL m dn (hs.drop k) (S, out) T at hV
   change SInv m S out 0 at hI
   have hSm := hI.le;have hOl := hI.len;by_cases h : k < hs.length
   · have d0 : ((k : Int) < (hs.length : Int)) = True := eq_true (by omega);have eS := hsG_at hs k h;rw [dropH h] at hV;generalize hs.getD k h0 = x at *;have cP := gPushX y1 y2 m hm x st s sq sw sv so 0 F pre caps dn hd [] Z S out (by simp) rfl;refine vq10 @setO_3 @setO_4 @setO_5 @setO_6 @setO_7 @setO_8 @hsG_len d0 eS @v32 ?_;refine ⟨by omega, fun u => ?_⟩;refine (GCalls.tail cP (by rintro g O' ⟨_, _, rfl, rfl⟩; split <;> exact ⟨rfl, by simp⟩) rfl (by simp) [.row u 32 [bytesG x.1]]).mono ?_;rintro g O' ⟨_, ⟨sv2, Z2, rfl, rfl⟩, rfl⟩;have hT1 : ∃ T1, VisL m dn (hs.drop (k + 1)) T1 T ∧ (if pushed m dn S x = true then FinS m dn [(x, parsM m x)] (S ++ [x], out) T1 else T1 = (S, out)) := by
      cases hp : pushed m dn S x with
      | false => exact ⟨_, hV.inv_skip hp, by rw [if_neg (by simp)]⟩
      | true =>
       obtain ⟨so1, hV1, hV2⟩ := hV.inv_go hp;exact ⟨_, hV2, by rw [if_pos rfl]; exact ⟨so1, hV1, rfl⟩⟩
     obtain ⟨T1, hV2, hF⟩ := hT1;refine vq1 zbBH2g8 ?_;refine vcSLoop_by (ι := { p : ((List Cm × List Cm) × (List Hs × List Hs)) × (Nat × Nat) // FinS m dn p.1.1.1.reverse p.1.2 T1 ∧ SInv m p.1.2.1 p.1.2.2 p.1.1.1.length }) (fun p => ⟨[.ptr 0 st 0 0, .slice (hsG hs) th, (.func (.func F) pre caps)] ++ List.replicate 4 .any ++ [.ptr 5 sw 0 0] ++ List.replicate 9 .any ++ [.slice (hsG hs) th, .int .i64 hs.length, .int .i64 (k : Nat)] ++ List.replicate 19 .any, wObjX y1 y2 st s m sq sw p.1.2.1 p.1.2.2 p.1.1.1.1.length (.func (.func F) pre caps) p.1.1.1.1 p.1.1.1.2 p.1.1.2.1 p.1.1.2.2⟩) (fun p => wMu m p.1.1.2.1 p.1.1.1.1) ?_ ?_
     · cases hp : pushed m dn S x with
       | false =>
        rw [hp, if_neg (by simp)] at hF;exact Into.first ⟨((([], Z2), (S, out)), (sv2, so)), hF, hI⟩ ⟨[.row u 32 [bytesG x.1]], by rw [if_neg (by simp)]; rfl⟩ (by simp [WL, leG_self, leG_any])
       | true =>
        rw [hp, if_pos rfl] at hF;exact Into.first ⟨((([(x, parsM m x)], Z2), (S ++ [x], out)), (sv2, so)), hF, hI.push hp⟩ ⟨[.row u 32 [bytesG x.1]], by rw [if_pos rfl]; rfl⟩ (by simp [WL, leG_self, leG_any])
     · rintro ⟨⟨⟨⟨K, Z3⟩, ⟨S3, out3⟩⟩, ⟨sv3, so3⟩⟩, hF3, hI3⟩
       change FinS m dn K.reverse (S3, out3) T1 at hF3
       change SInv m S3 out3 K.length at hI3
       have hS3 := hI3.le;have hO3 := hI3.len;rcases List.eq_nil_or_concat K with rfl | ⟨K0, y, e⟩
       · refine vq10 @setO_3 @setO_4 @setO_5 @setO_6 @setO_7 @setO_8 @Int.lt_irrefl @List.length_nil.{0} @Int.natCast_zero @v32 ?_;rw [List.reverse_nil] at hF3;rw [FinS] at hF3;rw [hF3] at hV2;exact Into.at ⟨(((k + 1, Z3), (S3, out3)), (sv3, so3)), by show k + 1 ≤ _; omega, hV2, hI3⟩ (by show _ < _; simp; omega) ⟨[], rfl⟩ (by simp [WL, leG_self, leG_any, leG_int])
       · rw [List.concat_eq_append] at e;subst e;obtain ⟨y, ps⟩ := y;rw [List.reverse_append, List.reverse_singleton, List.singleton_append] at hF3;obtain ⟨so1, hVp, hF4⟩ := hF3;have dK : ((0 : Int) < (K0.length : Int) + 1) = True := eq_true (by omega);have hKl : K0.length + 1 ≤ 10000 := by rw [List.length_append, List.length_singleton] at hO3; omega
         cases ps with
         | nil =>
          have e1 := hVp.inv_nil;subst e1;have cS := gStep0X y1 y2 m st s sq sw sv3 so3 K0.length (.func (.func F) pre caps) K0 Z3 y S3 out3 (by omega) (by omega) rfl;refine vq2 dK zbBH2g9 ?_;refine cS.mono ?_;rintro g O' ⟨so4, rfl, rfl⟩;refine vq1 zbBH2g8 ?_;refine Into.at ⟨(((K0, (y, []) :: Z3), (S3, out3 ++ [y])), (sv3, so4)), hF4, ⟨hI3.nodup, hI3.keys, ?_⟩⟩ ?_ ⟨[], rfl⟩ (by simp [WL, leG_self, leG_any, leG_int])
          · show (out3 ++ [y]).length + K0.length ≤ S3.length;rw [List.length_append, List.length_singleton] at hO3 ⊢; omega
          · show wMu m S3 K0 < wMu m S3 (K0 ++ [(y, [])]);simp [wMu]
         | cons p r =>
          have cS := gStep1X y1 y2 m hm st s sq sw sv3 so3 K0.length F pre caps dn hd K0 Z3 y p r S3 out3 (by omega) rfl;have hpl := hm.pars p;refine vq2 dK zbBH2g9 ?_;refine cS.mono ?_;rintro g O' ⟨sv4, Z4, rfl, rfl⟩;cases hp : pushed m dn S3 p with
          | false =>
           have hVr := hVp.inv_skip hp;refine vq9 @setO_3 @setO_4 @setO_5 @setO_6 @setO_7 @setO_8 @Bool.false_eq_true @if_false.{1} @v32 ?_;refine Into.at ⟨(((K0 ++ [(y, r)], Z4), (S3, out3)), (sv4, so3)), ?_, ⟨hI3.nodup, hI3.keys, ?_⟩⟩ ?_ ⟨[], by simp⟩ (by simp [WL, leG_self, leG_any, leG_int])
           · show FinS m dn (K0 ++ [(y, r)]).reverse (S3, out3) T1;rw [List.reverse_append, List.reverse_singleton, List.singleton_append];exact ⟨so1, hVr, hF4⟩
           · show out3.length + (K0 ++ [(y, r)]).length ≤ S3.length;rw [List.length_append, List.length_singleton] at hO3 ⊢; exact hO3
           · show wMu m S3 (K0 ++ [(y, r)]) < wMu m S3 (K0 ++ [(y, p :: r)]);simp [wMu]
          | true =>
           obtain ⟨so2, hVq, hVr⟩ := hVp.inv_go hp;have hIp := hI3.push hp;have hIl := hIp.le;refine vq8 @setO_3 @setO_4 @setO_5 @setO_6 @setO_7 @setO_8 @if_true.{1} @v32 ?_;refine Into.at ⟨(((K0 ++ [(y, r)] ++ [(p, parsM m p)], Z4), (S3 ++ [p], out3)), (sv4, so3)), ?_, ⟨hIp.nodup, hIp.keys, ?_⟩⟩ ?_ ⟨[], by simp⟩ (by simp [WL, leG_self, leG_any, leG_int])
           · show FinS m dn (K0 ++ [(y, r)] ++ [(p, parsM m p)]).reverse (S3 ++ [p], out3) T1;rw [List.reverse_append, List.reverse_singleton, List.singleton_append, List.reverse_append, List.reverse_singleton, List.singleton_append];exact ⟨so2, hVq, so1, hVr, hF4⟩
           · have := hIp.len;show out3.length + (K0 ++ [(y, r)] ++ [(p, parsM m p)]).length ≤ (S3 ++ [p]).length;rw [List.length_append, List.length_singleton] at this ⊢;rw [List.length_append, List.length_singleton] at this ⊢;rw [List.length_append, List.length_singleton];omega
           · show wMu m (S3 ++ [p]) (K0 ++ [(y, r)] ++ [(p, parsM m p)]) < wMu m S3 (K0 ++ [(y, p :: r)]);rw [List.length_append, List.length_singleton] at hIl;simp [wMu];omega
   · have d0 : ((k : Int) < (hs.length : Int)) = False := eq_false (by omega);rw [List.drop_of_length_le (by omega)] at hV;have eT := hV.inv_nil;subst eT;refine vq2 d0 zbBH2g8 ?_;exact ⟨.slice (hsG out) .none, gObj st s m ++ [y1, y2], _, rfl, by rw [leA_slice], rfl, rfl⟩
abbrev idO2 (ti so : Nat) (n : Int) (M O : List Hs) : List GObj := [.row ti 4 [[.int .i64 n, .slice (hsG M) .none, .slice (hsG O) .none, .map 3 so]], .map so (kvG encI (ofM M O))]
theorem iMasterZ (g1 g2 : GObj) (X : List GObj) (ti so : Nat) (n : Int) (M O : List Hs) (h : Hs) : GCalls Try.prog 32 [.ptr 2 ti 0 0, .agg (bytesG h.1)] (g1 :: g2 :: (idO2 ti so n M O ++ X)) (fun g O' => g = .bool (masterB (ofM M O) h) ∧ O' = g1 :: g2 :: (idO2 ti so n M O ++ X)) := by
 cases e : look (ofM M O) h with
 | some v =>
  obtain ⟨i, hi, hv, _⟩ := look_idx encI (ofM M O) h v e;have ev : masterB (ofM M O) h = decide (v < splI) := by unfold masterB; rw [e]
  rw [ev];refine h32.ca ?_;exact vd4 @kfind_h hi hv @v32
 | none =>
  obtain ⟨hi, _⟩ := look_none encI (ofM M O) h e;have ev : masterB (ofM M O) h = false := by unfold masterB; rw [e]
  rw [ev];refine h32.ca ?_;exact vd3 @kfind_h hi @v32
theorem iDone1 (g1 g2 : GObj) (X : List GObj) (ti so : Nat) (n : GVal) (M O : List Hs) (h : Hs) : GCalls Try.prog 37 [.agg (bytesG h.1), .ref [.ptr 2 ti 0 0]] (g1 :: g2 :: .row ti 4 [[n, .slice (hsG M) .none, .slice (hsG O) .none, .map 3 so]] :: .map so (kvG encI (ofM M O)) :: X) (fun g O' => g = .bool (look (ofM M O) h).isSome ∧ O' = g1 :: g2 :: .row ti 4 [[n, .slice (hsG M) .none, .slice (hsG O) .none, .map 3 so]] :: .map so (kvG encI (ofM M O)) :: X) := by
 cases e : look (ofM M O) h with
 | some v =>
  obtain ⟨i, hi, hv, _⟩ := look_idx encI (ofM M O) h v e;refine h37.ca ?_;exact vd5 @kfind_h hi hv @Option.isSome_some.{0} @v32
 | none =>
  obtain ⟨hi, _⟩ := look_none encI (ofM M O) h e;refine h37.ca ?_;exact vd4 @kfind_h hi @Option.isSome_none.{0} @v32
theorem iWalkM (m : GM) (hm : GMOK m) (hs : List Hs) (th : Tag) (st s ti so : Nat) (n : Int) (M O : List Hs) (T : WSt) (hT : VisL m (masterB (ofM M O)) hs ([], []) T) (hl : hs.length ≤ 1000000) :
 GCalls Try.prog 31 [.ptr 0 st 0 0, .slice (hsG hs) th, (.func (.func 32) [.ptr 2 ti 0 0] [])] (gObj st s m ++ idO2 ti so n M O) (fun g O' => g = .slice (hsG T.2) .none ∧ O' = gObj st s m ++ idO2 ti so n M O) :=
 gWalkX _ _ m hm hs th st s _ _ _ (masterB (ofM M O)) (fun h X => iMasterZ _ _ X ti so n M O h) T hT hl
theorem iWalkD (m : GM) (hm : GMOK m) (hs : List Hs) (th : Tag) (st s ti so : Nat) (n : GVal) (M O : List Hs) (T : WSt) (hT : VisL m (fun h => (look (ofM M O) h).isSome) hs ([], []) T) (hl : hs.length ≤ 1000000) :
 GCalls Try.prog 31 [.ptr 0 st 0 0, .slice (hsG hs) th, (.func (.func 37) [] [.ref [.ptr 2 ti 0 0]])] (gObj st s m ++ [.row ti 4 [[n, .slice (hsG M) .none, .slice (hsG O) .none, .map 3 so]], .map so (kvG encI (ofM M O))]) (fun g O' => g = .slice (hsG T.2) .none ∧ O' = gObj st s m ++ [.row ti 4 [[n, .slice (hsG M) .none, .slice (hsG O) .none, .map 3 so]], .map so (kvG encI (ofM M O))]) :=
 gWalkX _ _ m hm hs th st s _ _ _ (fun h => (look (ofM M O) h).isSome) (fun h X => iDone1 _ _ X ti so n M O h) T hT hl
end Gv.Try
namespace Gv
open Go Go.MapKept Go.ChangeMaps
variable {P : Program}
structure Hid (E : Env) (O : List GObj) (w : World) (b : Nat) : Prop where
 obj : ¬ InO E O b
 snap : ∀ o, E.snap b o = none
 lt : b < w.heap.size
theorem Hid.keep {E E' : Env} {O O' : List GObj} {w w' : World} {b : Nat} (h : Hid E O w b) (k : Keep E O w E' O' w') : Hid E' O' w' b ∧ w'.heap[b]? = w.heap[b]? := by
 refine ⟨⟨fun hb => ?_, fun o => ?_, Nat.lt_of_lt_of_le h.lt k.size⟩, k.heap b h.lt h.obj⟩
 · rcases k.objs b hb with h1 | h1
   · exact h.obj h1
   · have := h.lt; omega
 · cases hv : E'.snap b o with
   | none => rfl
   | some v =>
    rcases k.snap b o v hv with h1 | h1 | h1
    · rw [h.snap] at h1; cases h1
    · have := h.lt; omega
    · exact absurd h1 h.obj
structure MapAt (E : Env) (w : World) (b : Nat) (es : Array MapEntry) (clock : Nat) (kv : List (GVal × GVal)) : Prop where
 at_ : w.heap[b]? = some (.map es clock)
 size : es.size = kv.length
 ent : ∀ (i : Nat) e p, es[i]? = some e → kv[i]? = some p → EntryOK E e p
 born : BornOK es clock
theorem MapAt.ext {E E' : Env} {w w' : World} {b : Nat} {es : Array MapEntry} {clock : Nat} {kv : List (GVal × GVal)} (h : MapAt E w b es clock kv) (hE : E.le E') (hw : w'.heap[b]? = w.heap[b]?) : MapAt E' w' b es clock kv :=
 ⟨hw.trans h.at_, h.size, fun i e p he hp => ⟨(h.ent i e p he hp).1.mono hE, (h.ent i e p he hp).2.mono hE⟩, h.born⟩
end Gv
namespace Gv
open Go Go.MapKept Go.ChangeMaps
variable {P : Program} {E : Env} {O : List GObj} {w : World}
end Gv
