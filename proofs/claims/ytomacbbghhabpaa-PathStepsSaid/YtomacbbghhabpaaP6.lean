/- A row at the end of the objects becomes a plain list, in the middle of a walk. -/
import Derived.Test.YtomacbbghhabpaaP5
import Derived.Below
import Derived.Maps.Range
import Derived.Sort.MapsRangeIn
import Derived.RangeFuncGives
import Derived.OpenShut
import Derived.ChangeArms
import Derived.Carry
import Derived.Shelf.SlIter.Collect
import Derived.Deep.RegionWith
import Derived.Test.YtomacbbghhabpaaProg
import Derived.KernelRfl
set_option linter.unusedVariables false
set_option maxRecDepth 100000
namespace Gv
open Go
theorem HSim.melt {E : Env} {O : List GObj} {t sz : Nat} {xs : List (List GVal)} {w : World} (h : HSim E (O ++ [.row t sz xs]) w) :
 HSim E [.row t sz xs] w ∧ HSim (E.frz [.row t sz xs] w) O w ∧ Keep E (O ++ [.row t sz xs]) w (E.frz [.row t sz xs] w) O w := by
 have hlast : (O ++ [GObj.row t sz xs])[O.length]? = some (.row t sz xs) := by simp
 have at0 : ∀ (i : Nat) x, [GObj.row t sz xs][i]? = some x → i = 0 ∧ x = .row t sz xs := fun i x hx => by
  cases i with
  | zero => simp at hx; exact ⟨rfl, hx.symm⟩
  | succ i => simp at hx
 have hX : HSim E [.row t sz xs] w := ⟨by obtain ⟨n, _, q⟩ := h.fin; exact ⟨n, (fun c hc => by cases hc), q⟩, h.sealed, h.one, fun i x hx => by
  obtain ⟨rfl, rfl⟩ := at0 i x hx;exact h.real _ _ hlast, fun i j oi oj b hij hi hj => absurd ((at0 i oi hi).1.trans (at0 j oj hj).1.symm) hij, h.glob⟩
 obtain ⟨f1, f2⟩ := hX.frz
 obtain ⟨d1, d2⟩ := h.drop
 have hbk : ∀ x : GObj, x.blk (E.frz [.row t sz xs] w) = x.blk E := fun x => by cases x <;> rfl
 have hO : ∀ (i : Nat) x, O[i]? = some x → (O ++ [GObj.row t sz xs])[i]? = some x ∧ i < O.length := fun i x hx => by
  have := (List.getElem?_eq_some_iff.1 hx).1;rw [List.getElem?_append_left this]; exact ⟨hx, this⟩
 have hsn : ∀ (i : Nat) x, O[i]? = some x → ∀ b o v, x.blk E = some b → (E.frz [.row t sz xs] w).snap b o = some v → E.snap b o = some v := by
  intro i x hx b o v hb hv;rcases f2.snap b o v hv with q | q | ⟨j, y, hy, hyb⟩
  · exact q
  · have := (d1.real i x hx).blk_lt hb; omega
  · obtain ⟨rfl, rfl⟩ := at0 j y hy;obtain ⟨q, lt⟩ := hO i x hx;exact absurd hyb (h.sep i O.length x _ b (by omega) q hlast hb)
 refine ⟨hX, ⟨d1.fin, f1.sealed, f1.one, fun i x hx => (d1.real i x hx).keep f2.ext (fun _ _ => rfl) (fun b o v hb hv => hsn i x hx b o v hb hv), fun i j oi oj b hij hi hj hbi hbj => ?_, f1.glob⟩,
  ⟨f2.ext, rfl, rfl, Nat.le_refl _, fun _ _ _ => rfl, fun b o v hv => ?_, fun b ⟨i, x, hx, hb⟩ => .inl ⟨i, x, (hO i x hx).1, by rw [← hbk]; exact hb⟩, trivial⟩⟩
 · rw [hbk] at hbi hbj;exact d1.sep i j oi oj b hij hi hj hbi hbj
 · rcases f2.snap b o v hv with q | q | ⟨j, y, hy, hyb⟩
   · exact .inl q
   · exact .inr (.inl q)
   · obtain ⟨rfl, rfl⟩ := at0 j y hy;exact .inr (.inr ⟨O.length, _, hlast, hyb⟩)
theorem Into.melt {st : GSt} {N : GSt → Prop} {O : List GObj} (i n : Nat) {t sz len : Nat} {xs xs' : List (List GVal)} (ho : st.o = O ++ [.row t sz xs]) (hx : sget st.s i = .own O.length t 0 len) (hl : len = xs.length)
 (hf : frzLL (Gv.frz [.row t sz xs] n) xs = some xs') (h : Into ⟨st.s.set i (.slice xs' .none), O⟩ N) : Into st N := by
 intro E a w hs ha
 rw [ho] at hs
 obtain ⟨h0, h1, h2⟩ := hs.melt
 have ha' : SlotsR (E.frz [.row t sz xs] w) a (st.s.set i (.slice xs' .none)) := by
  refine ⟨by simp [ha.size], ha.defers, fun k g hg => ?_⟩;rw [List.getElem?_set] at hg;by_cases hk : i = k
  · subst hk;rw [if_pos rfl] at hg;split at hg
    · rename_i hlt;simp only [Option.some.injEq] at hg;subst hg;have := ha.at_ i _ (getD_of (d := GVal.any) hlt);have hx' : st.s.getD i .any = .own O.length t 0 len := hx;rw [hx'] at this;have q : VR E (a.tmps.getD i undef) (.own 0 t 0 len) := by
       revert this
       generalize a.tmps.getD i undef = tv;intro this;cases this with
       | own a len cap o st i l q1 q2 q3 => exact .own a _ cap _ _ _ l q1 q2 q3
      subst hl;exact frz_sound h0 (n + 1) _ _ _ q (by simp [Gv.frz, hf])
    · cases hg
  · rw [if_neg hk] at hg;exact (ha.at_ k g hg).mono h2.ext
 obtain ⟨st', E', q1, q2, q3, q4⟩ := h _ a w h1 ha'
 exact ⟨st', E', q1, q2, by rw [ho]; exact h2.trans q3, q4⟩
theorem GCalls.newBy (u : GVal → GVal) (hu : ∀ E v g, VR E v g → VR E v (u g)) {P : Program} {f : FuncId} {args : List GVal} {K : GVal → List GObj → Prop} (h : GCalls P f args [] K) {O : List GObj} (hc : clockOf O = none) (hK : ∀ g O', K g O' → clockOf O' = none) :
 GCalls P f args O (fun g O'' => ∃ g0 O', K g0 O' ∧ g = u g0 ∧ O'' = O ++ O') := by
 refine ⟨h.1, fun E w vs hs ha => (h.2 E w vs hs.nil ha).mono ?_⟩
 rintro e w' ⟨v, E', O', g, rfl, h1, h2, h3, h5⟩
 have hno : ∀ b, ¬ InO E [] b := fun b ⟨i, x, hx, _⟩ => by simp at hx
 have hold : ∀ b, b < w.heap.size → w'.heap[b]? = w.heap[b]? := fun b hb => h2.heap b hb (hno b)
 have hsn : ∀ b o v, b < w.heap.size → E'.snap b o = some v → E.snap b o = some v := fun b o v hb hv => by
  rcases h2.snap b o v hv with q | q | q
  · exact q
  · omega
  · exact absurd q (hno b)
 have hb : ∀ (i : Nat) x, O[i]? = some x → x.blk E' = x.blk E := fun i x hx => GObj.blk_mono h2.ext (hs.real i x hx)
 have hnew : ∀ (i : Nat) x b, O'[i]? = some x → x.blk E' = some b → w.heap.size ≤ b := fun i x b hx hb => by
  rcases h2.objs b ⟨i, x, hx, hb⟩ with q | q
  · exact absurd q (hno b)
  · exact q
 have hcl : clockOf (O ++ O') = none := by
  cases O with
  | nil => rw [List.nil_append]; exact hK g O' h5
  | cons x r => cases x <;> first | rfl | cases hc
 have hreal : ∀ (i : Nat) x, (O ++ O')[i]? = some x → Realized E' w' x := by
  intro i x hx;by_cases hi : i < O.length
  · rw [List.getElem?_append_left hi] at hx;exact (hs.real i x hx).keep h2.ext (fun b hb => hold b ((hs.real i x hx).blk_lt hb)) (fun b o v hb hv => hsn b o v ((hs.real i x hx).blk_lt hb) hv)
  · rw [List.getElem?_append_right (by omega)] at hx;exact h1.real _ x hx
 refine ⟨v, E', O ++ O', u g, rfl, ⟨?_, h1.sealed, h1.one, hreal, ?_, h1.glob⟩, ⟨h2.ext, h2.os, h2.out, h2.size, fun b hb _ => hold b hb, ?_, ?_, trivial⟩, hu _ _ _ h3, g, O', h5, rfl, rfl⟩
 · obtain ⟨m, _, q⟩ := h1.fin;exact ⟨m, fun c e => by rw [hcl] at e; (cases e), q⟩
 · intro i j oi oj b hij hi hj hbi hbj;by_cases ii : i < O.length
   · rw [List.getElem?_append_left ii] at hi;rw [hb i oi hi] at hbi;by_cases jj : j < O.length
     · rw [List.getElem?_append_left jj] at hj;rw [hb j oj hj] at hbj;exact hs.sep i j oi oj b hij hi hj hbi hbj
     · rw [List.getElem?_append_right (by omega)] at hj;have h6 := hnew _ oj b hj hbj;have h7 := (hs.real i oi hi).blk_lt hbi;omega
   · rw [List.getElem?_append_right (by omega)] at hi;by_cases jj : j < O.length
     · rw [List.getElem?_append_left jj] at hj;rw [hb j oj hj] at hbj;have h6 := hnew _ oi b hi hbi;have h7 := (hs.real j oj hj).blk_lt hbj;omega
     · rw [List.getElem?_append_right (by omega)] at hj;exact h1.sep _ _ oi oj b (by omega) hi hj hbi hbj
 · intro b o v hv;rcases h2.snap b o v hv with q | q | q
   · exact .inl q
   · exact .inr (.inl q)
   · exact absurd q (hno b)
 · intro b ⟨i, x, hx, hbx⟩;by_cases hi : i < O.length
   · rw [List.getElem?_append_left hi] at hx;rw [hb i x hx] at hbx;exact .inl ⟨i, x, hx, hbx⟩
   · rw [List.getElem?_append_right (by omega)] at hx;exact .inr (hnew _ x b hx hbx)
def GVal.up (k : Nat) : GVal → GVal
 | .own o st i len => .own (o + k) st i len
 | .ptr o st i j => .ptr (o + k) st i j
 | .map o st => .map (o + k) st
 | g => g
theorem VR.up (k : Nat) (E : Env) (v : Value) (g : GVal) (h : VR E v g) : VR E v (g.up k) := by
 cases g with
 | ptr o st a b => cases h; exact .ptr _ _ _ _ _ _ _ (by assumption) (by assumption) (by assumption)
 | own o st a b => cases h; exact .own _ _ _ _ _ _ _ (by assumption) (by assumption) (by assumption)
 | map o st => cases h; exact .map _ _ _ _ (by assumption) (by assumption)
 | _ => exact h
theorem GCalls.new {P : Program} {f : FuncId} {args : List GVal} {K : GVal → List GObj → Prop} (h : GCalls P f args [] K) {O : List GObj} (hc : clockOf O = none) (hK : ∀ g O', K g O' → clockOf O' = none) :
 GCalls P f args O (fun g O'' => ∃ g0 O', K g0 O' ∧ g = g0.shift O.length ∧ O'' = O ++ O') := GCalls.newBy (GVal.shift O.length) (fun _ _ _ h => h.shift _) h hc hK
theorem GCalls.newUp {P : Program} {f : FuncId} {args : List GVal} {K : GVal → List GObj → Prop} (h : GCalls P f args [] K) {O : List GObj} (hc : clockOf O = none) (hK : ∀ g O', K g O' → clockOf O' = none) :
 GCalls P f args O (fun g O'' => ∃ g0 O', K g0 O' ∧ g = g0.up O.length ∧ O'' = O ++ O') := GCalls.newBy (GVal.up O.length) (VR.up O.length) h hc hK
def GVal.place (i : Nat) : GVal → GVal
 | .ptr _ st a b => .ptr i st a b
 | .own _ st a b => .own i st a b
 | .map _ st => .map i st
 | g => g
theorem VR.place {E : Env} {v : Value} {g : GVal} (i : Nat) (h : VR E v (g.place i)) : VR E v g := by
 cases g with
 | ptr o st a b => cases h; exact .ptr _ _ _ _ _ _ _ (by assumption) (by assumption) (by assumption)
 | own o st a b => cases h; exact .own _ _ _ _ _ _ _ (by assumption) (by assumption) (by assumption)
 | map o st => cases h; exact .map _ _ _ _ (by assumption) (by assumption)
 | _ => exact h
theorem HSim.only {E : Env} {O : List GObj} {w : World} (h : HSim E O w) {i : Nat} {x : GObj} (hx : O[i]? = some x) (hc : x.isClock = false) : HSim E [x] w := by
 refine ⟨?_, h.sealed, h.one, fun k y hy => ?_, fun a b oa ob bb hab ha hb => ?_, h.glob⟩
 · obtain ⟨n, _, h2⟩ := h.fin;refine ⟨n, fun c hc' => ?_, h2⟩;cases x <;> simp [clockOf, GObj.isClock] at hc' hc
 · match k with
   | 0 => simp at hy; subst hy; exact h.real i x hx
   | k + 1 => simp at hy
 · match a, b with
   | 0, 0 => exact absurd rfl hab
   | a + 1, _ => simp at ha
   | 0, b + 1 => simp at hb
theorem GCalls.ownFrame {P : Program} {f : FuncId} {args : List GVal} {x : GObj} {R : GVal → GObj → Prop} (h : GCalls P f args [x] (fun g O' => ∃ x', O' = [x'] ∧ R g x')) {O : List GObj} (i : Nat) (hO : O[i]? = some x) (hc : clockOf O = none) (hcl : ∀ g x', R g x' → x'.isClock = false) (hx : x.isClock = false) :
 GCalls P f (args.map (GVal.place i)) O (fun g O' => ∃ x', O' = O.set i x' ∧ R g x') := by
 have hlt : i < O.length := (List.getElem?_eq_some_iff.1 hO).1
 refine ⟨h.1, fun E w vs hs ha => ?_⟩
 have ha' : ArgsR E vs args := ⟨by simpa using ha.1, fun k g hg => VR.place i (ha.2 k _ (by simp [hg]))⟩
 refine (h.2 E w vs (hs.only hO hx) ha').mono ?_
 rintro e w' ⟨v, E', O', g, rfl, h1, h2, h3, x', rfl, hR⟩
 have inX : ∀ b, InO E [x] b ↔ x.blk E = some b := fun b => ⟨fun ⟨k, y, hy, hb⟩ => by
  match k with
  | 0 => simp at hy; subst hy; exact hb
  | k + 1 => simp at hy, fun hb => ⟨0, x, rfl, hb⟩⟩
 have inX' : ∀ b, x'.blk E' = some b → x.blk E = some b ∨ w.heap.size ≤ b := fun b hb => by
  rcases h2.objs b ⟨0, x', rfl, hb⟩ with q | q
  · exact .inl ((inX b).1 q)
  · exact .inr q
 have get : ∀ (k : Nat) y, (O.set i x')[k]? = some y → (k = i ∧ y = x') ∨ (k ≠ i ∧ O[k]? = some y) := by
  intro k y hy;rw [List.getElem?_set] at hy;by_cases e : i = k
  · rw [if_pos e, if_pos hlt] at hy;simp only [Option.some.injEq] at hy; exact .inl ⟨e.symm, hy.symm⟩
  · rw [if_neg e] at hy; exact .inr ⟨fun q => e q.symm, hy⟩
 have far : ∀ (k : Nat) y b, k ≠ i → O[k]? = some y → y.blk E = some b → ¬ InO E [x] b := fun k y b hk hy hb hin => hs.sep k i y x b hk hy hO hb ((inX b).1 hin)
 have hold : ∀ (k : Nat) y, k ≠ i → O[k]? = some y → Realized E' w' y ∧ y.blk E' = y.blk E := fun k y hk hy =>
  ⟨(hs.real k y hy).keep h2.ext (fun b hb => h2.heap b ((hs.real k y hy).blk_lt hb) (far k y b hk hy hb)) (fun b o v hb hv => by
   rcases h2.snap b o v hv with q | q | q
   · exact q
   · exact absurd ((hs.real k y hy).blk_lt hb) (by omega)
   · exact absurd q (far k y b hk hy hb)), GObj.blk_mono h2.ext (hs.real k y hy)⟩
 have hclk : clockOf (O.set i x') = none := by
  have := clockOf_set (obj' := x') hO hx (hcl _ _ hR);rw [this, hc]
 have hx'r : Realized E' w' x' := h1.real 0 x' rfl
 refine ⟨v, E', O.set i x', g, rfl, ⟨?_, h1.sealed, h1.one, fun k y hy => ?_, fun a b oa ob bb hab ha1 hb1 q1 q2 => ?_, h1.glob⟩, ⟨h2.ext, h2.os, h2.out, h2.size, fun b hb hn => h2.heap b hb fun hin => hn ⟨i, x, hO, (inX b).1 hin⟩, fun b o v hv => ?_, fun b hb => ?_, trivial⟩, h3, x', rfl, hR⟩
 · obtain ⟨n, _, q⟩ := h1.fin;exact ⟨n, fun c hc' => (by rw [hclk] at hc'; cases hc'), q⟩
 · rcases get k y hy with ⟨rfl, rfl⟩ | ⟨hk, hy⟩
   · exact hx'r
   · exact (hold k y hk hy).1
 · rcases get a oa ha1 with ⟨rfl, rfl⟩ | ⟨hka, hya⟩ <;> rcases get b ob hb1 with ⟨rfl, rfl⟩ | ⟨hkb, hyb⟩
   · exact hab rfl
   · rw [(hold b ob hkb hyb).2] at q2;rcases inX' bb q1 with e | e
     · exact hs.sep b a ob x bb hkb hyb hO q2 e
     · exact absurd ((hs.real b ob hyb).blk_lt q2) (by omega)
   · rw [(hold a oa hka hya).2] at q1;rcases inX' bb q2 with e | e
     · exact hs.sep a b oa x bb hka hya hO q1 e
     · exact absurd ((hs.real a oa hya).blk_lt q1) (by omega)
   · rw [(hold a oa hka hya).2] at q1
     rw [(hold b ob hkb hyb).2] at q2;exact hs.sep a b oa ob bb hab hya hyb q1 q2
 · rcases h2.snap b o v hv with q | q | q
   · exact .inl q
   · exact .inr (.inl q)
   · exact .inr (.inr ⟨i, x, hO, (inX b).1 q⟩)
 · obtain ⟨k, y, hy, hb⟩ := hb;rcases get k y hy with ⟨rfl, rfl⟩ | ⟨hk, hy⟩
   · rcases inX' b hb with e | e
     · exact .inl ⟨_, x, hO, e⟩
     · exact .inr e
   · exact .inl ⟨k, y, hy, by rw [← (hold k y hk hy).2]; exact hb⟩
def dropTo (K : GVal → List GObj → Prop) (g : GVal) (O' : List GObj) : Prop := ∃ g' O1 X, O' = O1 ++ X ∧ leA g g' ∧ K g' O1
theorem GCalls.dropTo {P : Program} {f : FuncId} {args : List GVal} {O : List GObj} {K : GVal → List GObj → Prop} (h : GCalls P f args O (dropTo K)) : GCalls P f args O K :=
 (h.mono fun g O' ⟨g', O1, X, e, hl, hk⟩ => by
  subst e;exact fun E v w hs hv => by
   obtain ⟨h1, h2⟩ := hs.drop;exact ⟨g', O1, E, hk, h1, h2, hl.sound hv⟩ : GCalls P f args O (fun g O' => GInto g O' K)).into
structure OLe (x y : GObj) : Prop where
 real : ∀ E w, Realized E w x → Realized E w y
 blk : ∀ E, y.blk E = x.blk E
 clk : y.isClock = x.isClock
theorem OLe.refl (x : GObj) : OLe x x := ⟨fun _ _ h => h, fun _ => rfl, rfl⟩
theorem OLe.row {st sz : Nat} {xs ys : List (List GVal)} (h : GLess xs ys) : OLe (.row st sz xs) (.row st sz ys) := by
 obtain ⟨h1, h2, h3⟩ := h.flat
 refine ⟨fun E w hr => ?_, fun E => rfl, rfl⟩
 obtain ⟨l, hl, hz, hx, hb⟩ := hr
 refine ⟨l, hl, hz, h3 sz hx, ?_⟩
 cases hbl : l.block with
 | none => simp only [hbl] at hb; subst hb; exact List.length_eq_zero_iff.1 (by rw [← h2]; rfl)
 | some b =>
  simp only [hbl] at hb ⊢;obtain ⟨cur, el, a1, a2, a3, a4, a5⟩ := hb;refine ⟨cur, el, a1, a2, by rw [← h2]; exact a3, fun j g hj => ?_, a5⟩;obtain ⟨g0, hg0, hle⟩ := h1.at_ j g hj;obtain ⟨v, q1, q2, q3⟩ := a4 j g0 hg0;exact ⟨v, q1, q2, hle _ _ q3⟩
theorem GLe.place (i : Nat) (g : GVal) : GLe g (g.place i) := fun E v h => by
 cases g with
 | ptr o st a b => cases h; exact .ptr _ _ _ _ _ _ _ (by assumption) (by assumption) (by assumption)
 | own o st a b => cases h; exact .own _ _ _ _ _ _ _ (by assumption) (by assumption) (by assumption)
 | map o st => cases h; exact .map _ _ _ _ (by assumption) (by assumption)
 | _ => exact h
theorem GLe.ptr (o o' st i j : Nat) : GLe (.ptr o st i j) (.ptr o' st i j) := GLe.place o' (.ptr o st i j)
theorem GLe.map (o o' st : Nat) : GLe (.map o st) (.map o' st) := GLe.place o' (.map o st)
theorem GLe.own (o o' st i j : Nat) : GLe (.own o st i j) (.own o' st i j) := GLe.place o' (.own o st i j)
def Comes (O : List GObj) (pl : List Nat) (O' : List GObj) : List (Bool × Nat) → List GObj → Prop
 | [], [] => True
 | (true, j) :: s, z :: r => (j ∉ pl ∧ ∃ y, O[j]? = some y ∧ OLe y z) ∧ Comes O pl O' s r
 | (false, j) :: s, z :: r => (∃ y, O'[j]? = some y ∧ OLe y z) ∧ Comes O pl O' s r
 | _, _ => False
theorem Comes.at_ {O O' : List GObj} {pl : List Nat} : ∀ {s : List (Bool × Nat)} {r : List GObj}, Comes O pl O' s r → ∀ (k : Nat) z, r[k]? = some z →
 (∃ j, s[k]? = some (true, j) ∧ j ∉ pl ∧ ∃ y, O[j]? = some y ∧ OLe y z) ∨ (∃ j, s[k]? = some (false, j) ∧ ∃ y, O'[j]? = some y ∧ OLe y z)
 | [], [], _, k, z, hz => by simp at hz
 | (true, j) :: s, z :: r, h, 0, y, hy => by simp at hy; subst hy; exact .inl ⟨j, rfl, h.1⟩
 | (false, j) :: s, z :: r, h, 0, y, hy => by simp at hy; subst hy; exact .inr ⟨j, rfl, h.1⟩
 | (true, j) :: s, z :: r, h, k + 1, y, hy => by
  have := Comes.at_ h.2 k y (by simpa using hy)
  simpa using this
 | (false, j) :: s, z :: r, h, k + 1, y, hy => by
  have := Comes.at_ h.2 k y (by simpa using hy)
  simpa using this
 | [], _ :: _, h, _, _, _ => h.elim
 | (true, _) :: _, [], h, _, _, _ => h.elim
 | (false, _) :: _, [], h, _, _, _ => h.elim
def Fits (O : List GObj) : List Nat → List GObj → Prop
 | [], [] => True
 | j :: pl, x :: r => (∃ y, O[j]? = some y ∧ OLe y x) ∧ Fits O pl r
 | _, _ => False
theorem Fits.at_ {O : List GObj} : ∀ {pl : List Nat} {X : List GObj}, Fits O pl X → ∀ (i : Nat) x, X[i]? = some x → ∃ j y, pl[i]? = some j ∧ O[j]? = some y ∧ OLe y x
 | [], [], _, i, x, h => by simp at h
 | j :: pl, x :: r, h, 0, y, hy => by simp at hy; subst hy; obtain ⟨y, h1, h2⟩ := h.1; exact ⟨j, y, rfl, h1, h2⟩
 | j :: pl, x :: r, h, i + 1, y, hy => by simpa using Fits.at_ h.2 i y (by simpa using hy)
 | [], _ :: _, h, _, _, _ => h.elim
 | _ :: _, [], h, _, _, _ => h.elim
theorem GCalls.frame {P : Program} {f : FuncId} {args args' : List GVal} {X O : List GObj} {K K' : GVal → List GObj → Prop} (h : GCalls P f args X K) (pl : List Nat) (hX : Fits O pl X) (hnd : pl.Nodup) (ha : GLes args' args) (hcX : clockOf X = none) (hc : clockOf O = none)
 (hK : ∀ g O', K g O' → ∃ g' O'' s, K' g' O'' ∧ GLe g g' ∧ Comes O pl O' s O'' ∧ s.Nodup ∧ clockOf O'' = none) : GCalls P f args' O K' := by
 refine ⟨h.1, fun E w vs hs hv => ?_⟩
 have hsX : HSim E X w := by
  refine ⟨by obtain ⟨n, _, q⟩ := hs.fin; exact ⟨n, fun c e => (by rw [hcX] at e; cases e), q⟩, hs.sealed, hs.one, fun i x hx => ?_, fun i j oi oj b hij hi hj hbi hbj => ?_, hs.glob⟩
  · obtain ⟨j, y, h1, h2, h3⟩ := hX.at_ i x hx;exact h3.real _ _ (hs.real j y h2)
  · obtain ⟨i', yi, p1, p2, p3⟩ := hX.at_ i oi hi;obtain ⟨j', yj, q1, q2, q3⟩ := hX.at_ j oj hj;have hne : i' ≠ j' := fun e => by
     subst e;have hil := (List.getElem?_eq_some_iff.1 p1)
     have hjl := (List.getElem?_eq_some_iff.1 q1)
     obtain ⟨a1, a2⟩ := hil;obtain ⟨b1, b2⟩ := hjl;exact hij ((List.getElem_inj hnd).1 (a2.trans b2.symm))
    rw [p3.blk] at hbi;rw [q3.blk] at hbj;exact hs.sep i' j' yi yj b hne p2 q2 hbi hbj
 have hv' : ArgsR E vs args := ⟨by rw [hv.1, ha.len], fun k g hg => by
  obtain ⟨x, hx, hle⟩ := ha.at_ k g hg;exact hle _ _ (hv.2 k x hx)⟩
 refine (h.2 E w vs hsX hv').mono ?_
 rintro e w' ⟨v, E', O', g, rfl, h1, h2, h3, hk⟩
 obtain ⟨g', O'', s, hK', hg, hcm, hsn, hcl⟩ := hK g O' hk
 have inX : ∀ b, InO E X b → InO E O b := fun b ⟨i, x, hx, hb⟩ => by
  obtain ⟨j, y, _, hy, hle⟩ := hX.at_ i x hx;exact ⟨j, y, hy, by rw [← hle.blk]; exact hb⟩
 have far : ∀ (j : Nat) y b, j ∉ pl → O[j]? = some y → y.blk E = some b → ¬ InO E X b := fun j y b hj hy hb ⟨i, x, hx, hxb⟩ => by
  obtain ⟨j', y', p1, p2, p3⟩ := hX.at_ i x hx;have hne : j ≠ j' := fun e => hj (by rw [e]; exact List.mem_of_getElem? p1)
  rw [p3.blk] at hxb;exact hs.sep j j' y y' b hne hy p2 hb hxb
 have hold : ∀ (j : Nat) y, j ∉ pl → O[j]? = some y → Realized E' w' y ∧ y.blk E' = y.blk E := fun j y hj hy =>
  ⟨(hs.real j y hy).keep h2.ext (fun b hb => h2.heap b ((hs.real j y hy).blk_lt hb) (far j y b hj hy hb)) (fun b o v hb hv => by
   rcases h2.snap b o v hv with q | q | q
   · exact q
   · exact absurd ((hs.real j y hy).blk_lt hb) (by omega)
   · exact absurd q (far j y b hj hy hb)), GObj.blk_mono h2.ext (hs.real j y hy)⟩
 have hnew : ∀ (j : Nat) y b, O'[j]? = some y → y.blk E' = some b → InO E X b ∨ w.heap.size ≤ b := fun j y b hy hb => h2.objs b ⟨j, y, hy, hb⟩
 refine ⟨v, E', O'', g', rfl, ⟨?_, h1.sealed, h1.one, fun k z hz => ?_, fun a b oa ob bb hab ha1 hb1 q1 q2 => ?_, h1.glob⟩, ⟨h2.ext, h2.os, h2.out, h2.size, fun b hb hn => h2.heap b hb fun hin => hn (inX b hin), fun b o v hv => ?_, fun b hb => ?_, trivial⟩, hg _ _ h3, hK'⟩
 · obtain ⟨n, _, q⟩ := h1.fin;exact ⟨n, fun c hc' => (by rw [hcl] at hc'; cases hc'), q⟩
 · rcases hcm.at_ k z hz with ⟨j, _, hj, y, hy, hle⟩ | ⟨j, _, y, hy, hle⟩
   · exact hle.real _ _ (hold j y hj hy).1
   · exact hle.real _ _ (h1.real j y hy)
 · have uniq : ∀ (x : Bool × Nat), s[a]? = some x → s[b]? = some x → False := fun x ea eb => by
    obtain ⟨a1, a2⟩ := List.getElem?_eq_some_iff.1 ea;obtain ⟨b1, b2⟩ := List.getElem?_eq_some_iff.1 eb;exact hab ((List.getElem_inj hsn).1 (a2.trans b2.symm))
   rcases hcm.at_ a oa ha1 with ⟨ja, sa, ka, ya, hya, la⟩ | ⟨ja, sa, ya, hya, la⟩ <;> rcases hcm.at_ b ob hb1 with ⟨jb, sb, kb, yb, hyb, lb⟩ | ⟨jb, sb, yb, hyb, lb⟩
   · rw [la.blk, (hold ja ya ka hya).2] at q1;rw [lb.blk, (hold jb yb kb hyb).2] at q2;exact hs.sep ja jb ya yb bb (fun e => uniq (true, ja) sa (by rw [e]; exact sb)) hya hyb q1 q2
   · rw [la.blk, (hold ja ya ka hya).2] at q1;rw [lb.blk] at q2;rcases hnew jb yb bb hyb q2 with e | e
     · exact far ja ya bb ka hya q1 e
     · exact absurd ((hs.real ja ya hya).blk_lt q1) (by omega)
   · rw [la.blk] at q1;rw [lb.blk, (hold jb yb kb hyb).2] at q2;rcases hnew ja ya bb hya q1 with e | e
     · exact far jb yb bb kb hyb q2 e
     · exact absurd ((hs.real jb yb hyb).blk_lt q2) (by omega)
   · rw [la.blk] at q1;rw [lb.blk] at q2;exact h1.sep ja jb ya yb bb (fun e => uniq (false, ja) sa (by rw [e]; exact sb)) hya hyb q1 q2
 · rcases h2.snap b o v hv with q | q | q
   · exact .inl q
   · exact .inr (.inl q)
   · exact .inr (.inr (inX b q))
 · obtain ⟨k, z, hz, hb⟩ := hb;rcases hcm.at_ k z hz with ⟨j, _, hj, y, hy, hle⟩ | ⟨j, _, y, hy, hle⟩
   · rw [hle.blk, (hold j y hj hy).2] at hb;exact .inl ⟨j, y, hy, hb⟩
   · rw [hle.blk] at hb;rcases hnew j y b hy hb with e | e
     · exact .inl (inX b e)
     · exact .inr e
def GObj.place (j : Nat) : GObj → GObj
 | .row st sz xs => .row st sz (xs.map fun c => c.map (GVal.place j))
 | o => o
theorem GLes.place (j : Nat) : ∀ c : List GVal, GLes c (c.map (GVal.place j))
 | [] => trivial
 | x :: r => ⟨GLe.place j x, GLes.place j r⟩
theorem GLess.place (j : Nat) : ∀ xs : List (List GVal), GLess xs (xs.map fun c => c.map (GVal.place j))
 | [] => trivial
 | x :: r => ⟨GLes.place j x, GLess.place j r⟩
theorem OLe.place (j : Nat) (x : GObj) : OLe x (x.place j) := by
 cases x with
 | row st sz xs => exact OLe.row (GLess.place j xs)
 | _ => exact .refl _
theorem Comes.of {O O' : List GObj} {pl : List Nat} : ∀ {s : List (Bool × Nat)} {r : List GObj}, s.length = r.length → (∀ (k : Nat) z x, r[k]? = some z → s[k]? = some x → match x with
 | (true, j) => j ∉ pl ∧ ∃ y, O[j]? = some y ∧ OLe y z
 | (false, j) => ∃ y, O'[j]? = some y ∧ OLe y z) → Comes O pl O' s r
 | [], [], _, _ => trivial
 | (true, j) :: s, z :: r, hl, h => ⟨h 0 z (true, j) rfl rfl, Comes.of (by simpa using hl) fun k z x hz hx => h (k + 1) z x (by simpa using hz) (by simpa using hx)⟩
 | (false, j) :: s, z :: r, hl, h => ⟨h 0 z (false, j) rfl rfl, Comes.of (by simpa using hl) fun k z x hz hx => h (k + 1) z x (by simpa using hz) (by simpa using hx)⟩
 | [], _ :: _, hl, _ => by simp at hl
 | _ :: _, [], hl, _ => by simp at hl
theorem GCalls.on2 {P : Program} {f : FuncId} {args args' : List GVal} {x y : GObj} {R : GVal → GObj → GObj → Prop} (h : GCalls P f args [x, y] (fun g O' => ∃ x' y', O' = [x', y'] ∧ R g x' y')) {O : List GObj} (i j : Nat) (hij : i ≠ j) {xi : GObj} (hi : O[i]? = some xi) (hj : O[j]? = some y)
 (ex : OLe xi x) (ha : GLes args' args) (hcx : x.isClock = false) (hcy : y.isClock = false) (hR : ∀ g x' y', R g x' y' → x'.isClock = false ∧ y'.isClock = false) (hc : clockOf O = none) :
 GCalls P f args' O (fun g O'' => ∃ x' y', R g x' y' ∧ O'' = (O.set i (x'.place j)).set j y') := by
 have hli := (List.getElem?_eq_some_iff.1 hi).1
 have hlj := (List.getElem?_eq_some_iff.1 hj).1
 refine GCalls.frame h [i, j] ⟨⟨xi, hi, ex⟩, ⟨y, hj, .refl _⟩, trivial⟩ (by simp [hij]) ha (by cases x <;> first | rfl | cases hcx) hc ?_
 rintro g O' ⟨x', y', rfl, hr⟩
 obtain ⟨c1, c2⟩ := hR g x' y' hr
 have cp : (x'.place j).isClock = false := by rw [(OLe.place j x').clk, c1]
 have hxc : xi.isClock = false := by rw [← ex.clk, hcx]
 refine ⟨g, (O.set i (x'.place j)).set j y', (List.range O.length).map (fun k => if k = i then (false, 0) else if k = j then (false, 1) else (true, k)), ⟨x', y', hr, rfl⟩, GLe.refl g, Comes.of (by simp) fun k z s hz hs => ?_, ?_, ?_⟩
 · have hk : k < O.length := by have := (List.getElem?_eq_some_iff.1 hz).1; simpa using this
   simp only [List.getElem?_map, List.getElem?_range hk, Option.map_some, Option.some.injEq] at hs;subst hs;rw [List.getElem?_set, List.getElem?_set] at hz;by_cases e : k = i
   · subst e;rw [if_neg (fun q => hij q.symm), if_pos rfl, if_pos hli] at hz;cases hz;simp only [if_pos];exact ⟨x', rfl, OLe.place j x'⟩
   · by_cases e2 : k = j
     · subst e2;rw [if_pos rfl, if_pos (by simpa using hlj)] at hz;cases hz;simp only [if_neg e, if_pos];exact ⟨y', rfl, .refl _⟩
     · rw [if_neg (fun q => e2 q.symm), if_neg (fun q => e q.symm)] at hz;simp only [if_neg e, if_neg e2];exact ⟨by simp [e, e2], z, hz, .refl _⟩
 · rw [List.nodup_iff_pairwise_ne, List.pairwise_map];refine List.Pairwise.imp_of_mem ?_ (List.pairwise_lt_range (n := O.length));intro a b _ _ hab;split <;> rename_i e1 <;> split <;> rename_i e2 <;> (try split) <;> (try split) <;> simp_all <;> omega
 · have h1 := clockOf_set (obj' := x'.place j) hi hxc cp;have h2 : (O.set i (x'.place j))[j]? = some y := by rw [List.getElem?_set, if_neg hij]; exact hj
   rw [clockOf_set (obj' := y') h2 hcy c2, h1, hc]
theorem GCalls.keep2 {P : Program} {f : FuncId} {args : List GVal} {a b : GObj} {r : GVal} (h : GCalls P f args [a, b] (fun g O' => g = r ∧ O' = [a, b])) (ha : a.isClock = false) (X : List GObj) : GCalls P f args (a :: b :: X) (fun g O' => g = r ∧ O' = a :: b :: X) := by
 have hcl : ∀ Y, clockOf (a :: Y) = none := fun Y => by cases a <;> first | rfl | cases ha
 refine GCalls.frame h [0, 1] ⟨⟨a, rfl, .refl _⟩, ⟨b, rfl, .refl _⟩, trivial⟩ (by simp) (GLes.refl _) (hcl _) (hcl _) ?_
 rintro g O' ⟨rfl, rfl⟩
 refine ⟨g, a :: b :: X, (false, 0) :: (false, 1) :: (List.range X.length).map (fun k => (true, k + 2)), ⟨rfl, rfl⟩, GLe.refl g, ⟨⟨a, rfl, .refl _⟩, ⟨b, rfl, .refl _⟩, Comes.of (by simp) fun k z s hz hs => ?_⟩, ?_, hcl _⟩
 · have hk : k < X.length := (List.getElem?_eq_some_iff.1 hz).1;simp only [List.getElem?_map, List.getElem?_range hk, Option.map_some, Option.some.injEq] at hs;subst hs;exact ⟨by simp, z, by simpa using hz, .refl _⟩
 · simp only [List.nodup_cons, List.mem_cons, List.mem_map, Prod.mk.injEq, reduceCtorEq, false_and, and_false, exists_false, or_false, not_false_eq_true, Nat.zero_ne_one, true_and];rw [List.nodup_iff_pairwise_ne, List.pairwise_map];refine List.Pairwise.imp ?_ (List.pairwise_lt_range (n := X.length));intro a b hab;simp; omega
theorem GLe.func (fn : Fn) {gs gs' ks ks' : List GVal} (h : GLes gs gs') (k : GLes ks ks') : GLe (.func fn gs ks) (.func fn gs' ks') := fun E v hv => by
 cases hv with
 | func _ fs cs _ _ hf hk hfs hcs =>
  refine .func fn fs cs gs' ks' (by rw [hf, h.len]) (by rw [hk, k.len]) (fun j g hg => ?_) (fun j g hg => ?_)
  · obtain ⟨x, hx, hle⟩ := h.at_ j g hg;exact hle _ _ (hfs j x hx)
  · obtain ⟨x, hx, hle⟩ := k.at_ j g hg;exact hle _ _ (hcs j x hx)
theorem GLe.ref {cs cs' : List GVal} (h : GLes cs cs') : GLe (.ref cs) (.ref cs') := fun E v hv => by
 cases hv with
 | ref b off _ c ha hc =>
  refine .ref b off cs' c (fun j hj => ha j (by rw [h.len]; exact hj)) (fun j g hg => ?_);obtain ⟨x, hx, hle⟩ := h.at_ j g hg;exact hle _ _ (hc j x hx)
theorem GCalls.on2new {P : Program} {f : FuncId} {args args' : List GVal} {x y : GObj} {R : Nat → List (GVal × GVal) → Prop} (h : GCalls P f args [x, y] (fun g O' => ∃ st kv, g = .map 2 st ∧ O' = [x, y, .map st kv] ∧ R st kv)) {O : List GObj} (i j : Nat) (hij : i ≠ j) (hi : O[i]? = some x) (hj : O[j]? = some y)
 (ha : GLes args' args) (hcx : x.isClock = false) (hc : clockOf O = none) : GCalls P f args' O (fun g O'' => ∃ st kv, g = .map O.length st ∧ O'' = O ++ [.map st kv] ∧ R st kv) := by
 refine GCalls.frame h [i, j] ⟨⟨x, hi, .refl _⟩, ⟨y, hj, .refl _⟩, trivial⟩ (by simp [hij]) ha (by cases x <;> first | rfl | cases hcx) hc ?_
 rintro g O' ⟨st, kv, rfl, rfl, hr⟩
 refine ⟨.map O.length st, O ++ [.map st kv], (List.range (O.length + 1)).map (fun k => if k = i then (false, 0) else if k = j then (false, 1) else if k = O.length then (false, 2) else (true, k)), ⟨st, kv, rfl, rfl, hr⟩, GLe.map _ _ _, Comes.of (by simp) fun k z s hz hs => ?_, ?_, by rw [clockOf_app rfl, hc]⟩
 · have hli := (List.getElem?_eq_some_iff.1 hi).1;have hlj := (List.getElem?_eq_some_iff.1 hj).1;have hk : k < O.length + 1 := by have := (List.getElem?_eq_some_iff.1 hz).1; simpa using this
   simp only [List.getElem?_map, List.getElem?_range hk, Option.map_some, Option.some.injEq] at hs;subst hs;by_cases e : k = i
   · subst e;rw [List.getElem?_append_left hli, hi] at hz;cases hz;simp only [if_pos];exact ⟨x, rfl, .refl _⟩
   · by_cases e2 : k = j
     · subst e2;rw [List.getElem?_append_left hlj, hj] at hz;cases hz;simp only [if_neg e, if_pos];exact ⟨y, rfl, .refl _⟩
     · by_cases e3 : k = O.length
       · subst e3;simp at hz;subst hz;simp only [if_neg e, if_neg e2, if_pos];exact ⟨_, rfl, .refl _⟩
       · rw [List.getElem?_append_left (by omega)] at hz;simp only [if_neg e, if_neg e2, if_neg e3];exact ⟨by simp [e, e2], z, hz, .refl _⟩
 · have hli := (List.getElem?_eq_some_iff.1 hi).1;have hlj := (List.getElem?_eq_some_iff.1 hj).1;rw [List.nodup_iff_pairwise_ne, List.pairwise_map];refine List.Pairwise.imp_of_mem ?_ (List.pairwise_lt_range (n := O.length + 1));intro a b _ _ hab;by_cases a1 : a = i <;> by_cases b1 : b = i <;> by_cases a2 : a = j <;> by_cases b2 : b = j <;> by_cases a3 : a = O.length <;> by_cases b3 : b = O.length <;> simp_all <;> omega
theorem GCalls.keep1 {P : Program} {f : FuncId} {args args' : List GVal} {x : GObj} {r : GVal} (h : GCalls P f args [x] (fun g O' => ∃ x', O' = [x'] ∧ (g = r ∧ x' = x))) {O : List GObj} (i : Nat) (hO : O[i]? = some x) (ha : args.map (GVal.place i) = args') (hx : x.isClock = false) (hc : clockOf O = none) :
 GCalls P f args' O (fun g O' => g = r ∧ O' = O) := by
 subst ha
 refine (GCalls.ownFrame h i hO hc (fun g x' q => by rw [q.2]; exact hx) hx).mono ?_
 rintro g O' ⟨x', rfl, rfl, rfl⟩
 refine ⟨rfl, ?_⟩
 apply List.ext_getElem (by simp)
 intro j h1 h2
 rw [List.getElem_set]
 split
 · rename_i e; subst e;rw [List.getElem?_eq_getElem h2] at hO;exact (Option.some.inj hO).symm
 · rfl
theorem tickO_none {O : List GObj} (h : clockOf O = none) : tickO O = O := by
 cases O with
 | nil => rfl
 | cons x r => cases x <;> first | rfl | cases h
theorem gcalls_clone {P : Program} {f : FuncId} (hen : enterable P f = true) (hcall : ∀ (b : Nat) (es : Array MapEntry) (clock : Nat) (w : World), w.heap[b]? = some (.map es clock) → Calls P f #[.map (some b)] w fun e w' => e = .returned (.map (some w.heap.size)) ∧ w' = w.alloc (.map es clock))
 {O : List GObj} {o st : Nat} {kv : List (GVal × GVal)} (hO : O[o]? = some (.map st kv)) (hc : clockOf O = none) :
 GCalls P f [.map o st] O (fun g O' => ∃ st', g = .map O.length st' ∧ O' = O ++ [.map st' kv]) := by
 refine ⟨hen, fun E w vs hs ha => ?_⟩
 obtain ⟨hsz, hat⟩ := ha
 match vs, hsz with
 | ⟨[v]⟩, _ =>
  have hv := hat 0 _ rfl
  change VR E v (.map o st) at hv
  cases hv with
  | map r o st l hl hb =>
   obtain ⟨b, es, clock, e, hw, hes, hent, hloc, hsn, hbo⟩ := map_block hs (VR.map r o st l hl hb) hO;cases e;refine (hcall r es clock w hw).mono ?_;rintro e w' ⟨rfl, rfl⟩;have hk : stamp O (fun _ => True) := by unfold stamp; rw [hc]; exact fun _ => trivial
   obtain ⟨t, _, ht, hnx, hs2, hkeep⟩ := hs.stamp hk;rw [tickO_none hc] at hnx hs2 hkeep;have hle := Env.addLoc_le ⟨some w.heap.size, 0, 0, 0⟩ ht;obtain ⟨h1, h2⟩ := hs2.objNew (.map es clock) (.map t kv) (l := ⟨some w.heap.size, 0, 0, 0⟩) ht hnx rfl trivial rfl
    ⟨_, w.heap.size, es, clock, Env.addLoc_self _ _ _, rfl, alloc_new _ _, by simpa using hes, fun i e p he hp => by
     have := hent i e p (by simpa using he) hp;exact ⟨this.1.mono hle, this.2.mono hle⟩, hbo, fun o => hs2.snap_new (Nat.le_refl _)⟩
    (by simp [GObj.blk, Env.addLoc_self])
   exact ⟨_, _, _, .map O.length t, rfl, h1, hkeep.trans h2, VR.map _ _ t _ (Env.addLoc_self _ _ _) rfl, t, rfl, rfl⟩
theorem HSim.below {E : Env} {w w' : World} (h : HSim E [] w) (hb : RowKit.Below w.heap.size w w') : HSim E [] w' ∧ Keep E [] w E [] w' :=
 h.gen (.refl E) h.fin hb.os ⟨hb.output, trivial⟩ hb.size (fun b => w.heap.size ≤ b) (fun b hb' => .inr hb') (fun k hk _ => hb.block k hk)
  (fun k o v hv => .inl hv) (fun k o v hk hv => absurd (h.lt hv) (by omega)) (fun i obj hi => by simp at hi) (fun i j oi oj b hij hi => by simp at hi)
def bytesG (l : List UInt8) : List GVal := l.map fun c => .int .u8 c.toNat
def bytesV (l : List UInt8) : List Value := l.map fun c => .int .u8 c.toNat
theorem bytesG_len (l : List UInt8) : (bytesG l).length = l.length := by simp [bytesG]
end Gv
namespace Go
open Go.Maps Go.RowKit Go.MapKept
def Came (es : Array MapEntry) (seen : Array Nat) (xs : List MapEntry) : Prop := seen = (xs.map MapEntry.born).toArray ∧ xs.Nodup ∧ (∀ x ∈ xs, x ∈ es.toList)
theorem Came.nil (es : Array MapEntry) : Came es #[] [] := ⟨rfl, List.nodup_nil, by simp⟩
section
variable {F : Fence} {n : Nat} {P : Program} {w w' : World} {ops : Array Oper} {rest : List Oper} {o : Oper} {a : Act} {Q : Exit → Act → World → Prop} {t : TypeId} {x y : Operand} {v : Value}
end
end Go
namespace Gv
open Go
open Go Go.RowKit Go.WideShapes Go.ChangeShapes
def Env.all (w : World) : Env := ⟨fun b o => match w.cell? ⟨b, o, none⟩ with
 | some v => if v.oneCell' = true then some v else none
 | none => none, fun _ => none⟩
theorem Env.all_at {w : World} {b o : Nat} {v : Value} (h : w.cell? ⟨b, o, none⟩ = some v) (hv : v.oneCell' = true) : (Env.all w).snap b o = some v := by
 simp [Env.all, h, hv]
def GlobsIn (w : World) : Prop := ∀ p ∈ globs, w.cell? ⟨p.1, p.2.1, none⟩ = some p.2.2 ∧ p.2.2.oneCell' = true
theorem globsIn_none {w : World} (h : globs = []) : GlobsIn w := fun p hp => by rw [h] at hp; cases hp
theorem HSim.all (w : World) (hg : GlobsIn w) : HSim (Env.all w) [] w := by
 have key : ∀ b o v, (Env.all w).snap b o = some v → w.cell? ⟨b, o, none⟩ = some v ∧ v.oneCell' = true := by
  intro b o v h;simp only [Env.all] at h;split at h
  · rename_i x hx;split at h
    · rename_i hv;simp only [Option.some.injEq] at h;subst h;exact ⟨hx, hv⟩
    · cases h
  · cases h
 exact ⟨⟨0, (fun c hc => by cases hc), fun _ _ => rfl⟩, fun b o v h => (key b o v h).1, fun b o v h => (key b o v h).2, fun i x hx => by simp at hx, fun i j oi oj b _ hi => by simp at hi, fun p hp => Env.all_at (hg p hp).1 (hg p hp).2⟩
inductive Sh where
 | int (k : IntKind)
 | bool
 | str
 | slice (e : Sh)
 | agg (l : List Sh)
mutual
def Sh.size : Sh → Nat
 | .agg l => Sh.sizes l
 | _ => 1
def Sh.sizes : List Sh → Nat
 | [] => 0
 | s :: r => s.size + Sh.sizes r
end
mutual
def shB (P : Program) : Sh → TypeId → Bool
 | .int k, t => match P.underlying t with
  | some (.int k') => k = k'
  | _ => false
 | .bool, t => match P.underlying t with
  | some .bool => true
  | _ => false
 | .str, t => match P.underlying t with
  | some .string => true
  | _ => false
 | .slice e, t => match P.underlying t with
  | some (.slice et) => shB P e et && P.cellsOf et == e.size && decide (0 < e.size)
  | _ => false
 | .agg l, t => match P.underlying t with
  | some (.struct fs) => shBs P l fs.toList 0 && P.cellsOf t == Sh.sizes l
  | some (.array n e) => l.length == n && (shAs P l e && P.cellsOf t == Sh.sizes l)
  | _ => false
def shAs (P : Program) : List Sh → TypeId → Bool
 | [], _ => true
 | s :: r, t => P.cellsOf t == s.size && (shB P s t && shAs P r t)
def shBs (P : Program) : List Sh → List Field → Nat → Bool
 | [], [], _ => true
 | s :: r, f :: fs, o => f.offset == o && P.cellsOf f.type == s.size && shB P s f.type && shBs P r fs (o + s.size)
 | _, _, _ => false
end
mutual
def Den : Sh → List GVal → Prop
 | .int k, gs => ∃ n, gs = [.int k n] ∧ (Lit.int k n).wf = true
 | .bool, gs => ∃ b, gs = [.bool b]
 | .str, gs => ∃ s, gs = [.str s] ∧ s.length ≤ maxLen
 | .slice e, gs => ∃ xs, gs = [.slice xs .none] ∧ xs.length ≤ maxLen ∧ ∀ x ∈ xs, Den e x
 | .agg l, gs => ∃ ps, gs = ps.flatten ∧ Dens l ps
def Dens : List Sh → List (List GVal) → Prop
 | [], ps => ps = []
 | s :: r, ps => ∃ p q, ps = p :: q ∧ Den s p ∧ Dens r q
end
def CellsOK (w : World) (cs : List Value) (gs : List GVal) : Prop :=
 cs.length = gs.length ∧ (∀ c ∈ cs, c.oneCell' = true) ∧ ∀ (j : Nat) c g, cs[j]? = some c → gs[j]? = some g → VR (Env.all w) c g
theorem CellsOK.one {w : World} {v : Value} {g : GVal} (hv : v.oneCell' = true) (h : VR (Env.all w) v g) : CellsOK w [v] [g] :=
 ⟨rfl, by simpa using hv, fun j c g' h1 h2 => by
  cases j with
  | zero => simp at h1 h2; subst h1; subst h2; exact h
  | succ j => simp at h1⟩
theorem CellsOK.append {w : World} {a b : List Value} {x y : List GVal} (h : CellsOK w a x) (k : CellsOK w b y) : CellsOK w (a ++ b) (x ++ y) := by
 refine ⟨by simp [h.1, k.1], fun c hc => ?_, fun j c g h1 h2 => ?_⟩
 · rcases List.mem_append.1 hc with hc | hc
   · exact h.2.1 c hc
   · exact k.2.1 c hc
 · by_cases hj : j < a.length
   · rw [List.getElem?_append_left hj] at h1;rw [List.getElem?_append_left (by rw [← h.1]; exact hj)] at h2;exact h.2.2 j c g h1 h2
   · rw [List.getElem?_append_right (by omega)] at h1;rw [List.getElem?_append_right (by rw [← h.1]; omega), ← h.1] at h2;exact k.2.2 _ c g h1 h2
section
variable {H : Type} {enc : TypeId × Value → H} {P : Program} {w : World} {spare : Nat → Bool} {held : Bool}
theorem cells_at {base : Nat} {a : Addr} {n : Nat} {cs : List Value} (h : w.cells? base a n = some cs) : cs.length = n ∧ ∀ j, j < n → w.cell? (a.add j) = cs[j]? := by
 unfold World.cells? at h
 split at h
 · have hl := mapM_some_length h;refine ⟨by simpa using hl, fun j hj => ?_⟩;exact mapM_some_get h j j (by simp [hj])
 · cases h
theorem flat_len {α : Type} {sz : Nat} : ∀ {xs : List (List α)}, (∀ x ∈ xs, x.length = sz) → xs.flatten.length = xs.length * sz
 | [], _ => by simp
 | x :: xs, h => by
  rw [List.flatten_cons, List.length_append, h x (by simp), flat_len fun y hy => h y (by simp [hy])];simp [Nat.succ_mul, Nat.add_comm]
mutual
theorem rd : ∀ (S : Sh) (n : Nat) (t : TypeId) (cs : List Value) (x : DataW H × List MemPlace), shB P S t = true → DataW.trod enc P w 0 spare held n t cs = some x → ∃ gs, CellsOK w cs gs ∧ Den S gs ∧ cs.length = S.size
 | .int k, n, t, cs, x, hs, h => by
  unfold shB at hs;split at hs
  · rename_i k' hu;have hs : k = k' := by simpa using hs
    subst hs;obtain ⟨m, rfl, _, hwf⟩ := DataW.trod_int hu h;exact ⟨[.int k m], .one rfl (.int _ _), ⟨m, rfl, hwf⟩, rfl⟩
  · cases hs
 | .bool, n, t, cs, x, hs, h => by
  unfold shB at hs;split at hs
  · rename_i hu;obtain ⟨b, rfl, _⟩ := DataW.trod_bool hu h;exact ⟨[.bool b], .one rfl (.bool _), ⟨b, rfl⟩, rfl⟩
  · cases hs
 | .str, n, t, cs, x, hs, h => by
  unfold shB at hs;split at hs
  · rename_i hu;cases n with
    | zero => simp [DataW.trod] at h
    | succ n =>
     unfold DataW.trod at h;rw [hu] at h
     match cs, h with
     | [.string b], h =>
      simp only at h
      split at h
      · rename_i hl;refine ⟨[.str b.data.toList], .one rfl ?_, ⟨_, rfl, ?_⟩, rfl⟩
        · exact VR.str (E := Env.all w) b.data.toList
        · simpa using hl
      · cases h
  · cases hs
 | .slice e, n, t, cs, x, hs, h => by
  unfold shB at hs;split at hs
  · rename_i et hu;simp only [Bool.and_eq_true, beq_iff_eq] at hs;obtain ⟨⟨hs, hsz⟩, hpos⟩ := hs;have hpos : 0 < e.size := by simpa using hpos
    rcases DataW.trod_slice hu h with ⟨rfl, _⟩ | ⟨a, len, cap, elems, rest, m, rfl, rfl, _, _, hlc, hcm, hel, helem, _, _⟩
    · exact ⟨[.slice [] .none], .one rfl (.slice none 0 0 [] .none 0 (fun _ => .bool true) rfl (Nat.le_refl _) (by simp) (fun hx => absurd rfl hx) (by simp) trivial), ⟨[], rfl, by simp, by simp⟩, rfl⟩
    · have each : ∀ i : Nat, ∃ cs gs, i < len → (w.cells? 0 (a.add (i * P.cellsOf et)) (P.cellsOf et)) = some cs ∧ CellsOK w cs gs ∧ Den e gs ∧ cs.length = e.size := by
       intro i;by_cases hi : i < len
       · have := helem i hi
         rw [← hel] at hi;rw [List.getElem?_eq_getElem hi, Option.bind_eq_some_iff] at this;obtain ⟨cs, h1, h2⟩ := this;obtain ⟨gs, h3, h4, h5⟩ := rd e m et cs _ hs h2;exact ⟨cs, gs, fun _ => ⟨h1, h3, h4, h5⟩⟩
       · exact ⟨[], [], fun h => absurd h hi⟩
      obtain ⟨C, hC⟩ := Classical.axiomOfChoice each;obtain ⟨G, hCG⟩ := Classical.axiomOfChoice hC;refine ⟨[.slice ((List.range len).map G) .none], .one rfl ?_, ⟨_, rfl, by simp; omega, fun x hx => ?_⟩, rfl⟩
      · have hG : ∀ i, i < len → (G i).length = e.size := fun i hi => by rw [← (hCG i hi).2.1.1]; exact (hCG i hi).2.2.2
        have cell : ∀ i, i < len → ∀ j, j < e.size → w.cell? ((a.add (i * e.size)).add j) = (C i)[j]? := fun i hi j hj => by
         have := cells_at (hCG i hi).1;rw [hsz] at this;exact this.2 j hj
        have dm : ∀ k, k < len * e.size → k / e.size < len ∧ k % e.size < e.size ∧ k / e.size * e.size + k % e.size = k := fun k hk =>
         ⟨(Nat.div_lt_iff_lt_mul hpos).2 hk, Nat.mod_lt _ hpos, by rw [Nat.mul_comm]; exact Nat.div_add_mod k e.size⟩
        have hszs : ∀ x ∈ (List.range len).map G, x.length = e.size := fun x hx => by
         obtain ⟨i, hi, rfl⟩ := List.mem_map.1 hx;exact hG i (by simpa using hi)
        refine .slice (some a) len cap _ .none e.size (fun k => ((C (k / e.size))[k % e.size]?).getD (.bool true)) (by simp) hlc hszs (fun hx => ?_) (fun k g hk => ?_) trivial
        · have hlen : 0 < len := by
           rcases Nat.eq_zero_or_pos len with h0 | h0
           · subst h0; simp at hx
           · exact h0
          have in_ : ∀ i, i < len → ∀ j, j < e.size → ∃ v, (C i)[j]? = some v ∧ v.oneCell' = true := fun i hi j hj => by
           have hl : j < (C i).length := by rw [(hCG i hi).2.2.2]; exact hj
           exact ⟨_, List.getElem?_eq_getElem hl, (hCG i hi).2.1.2.1 _ (List.getElem_mem hl)⟩
          obtain ⟨b, off, spot⟩ := a;have hspot : spot = none := by
           obtain ⟨v, hv, _⟩ := in_ 0 hlen 0 hpos;have := cell 0 hlen 0 hpos;rw [hv] at this
           simpa [Addr.add] using World.cell?_spot this
          subst hspot;refine ⟨b, off, rfl, fun k hk => ?_⟩;obtain ⟨d1, d2, d3⟩ := dm k hk;obtain ⟨v, hv, hv2⟩ := in_ _ d1 _ d2;have := cell _ d1 _ d2;rw [hv] at this;rw [hv];refine Env.all_at ?_ hv2;rw [add_at, add_at, Nat.add_assoc, d3] at this;exact this
        · have hk' : k < len * e.size := by
           have := (List.getElem?_eq_some_iff.1 hk).1;rw [flat_len hszs] at this
           simpa using this
          obtain ⟨d1, d2, d3⟩ := dm k hk';have hx : ((List.range len).map G)[k / e.size]? = some (G (k / e.size)) := by simp [d1]
          have e1 := flatten_at _ hszs (k / e.size) (k % e.size) _ hx d2;rw [d3, hk] at e1;have hl : k % e.size < (C (k / e.size)).length := by rw [(hCG _ d1).2.2.2]; exact d2
          rw [List.getElem?_eq_getElem hl];exact (hCG _ d1).2.1.2.2 _ _ _ (List.getElem?_eq_getElem hl) e1.symm
      · obtain ⟨i, hi, rfl⟩ := List.mem_map.1 hx;exact (hCG i (by simpa using hi)).2.2.1
  · cases hs
 | .agg l, n, t, cs, x, hs, h => by
  unfold shB at hs;split at hs
  · rename_i fs hu;simp only [Bool.and_eq_true, beq_iff_eq] at hs;obtain ⟨hs, hsz⟩ := hs;obtain ⟨xs, m, rfl, rfl, hcl, hxl, hf⟩ := DataW.trod_struct hu h;obtain ⟨ps, h1, h2⟩ := rds l m fs.toList cs 0 hs (by simpa [hsz] using hcl) (fun f hf' => by
     obtain ⟨i, hi⟩ := List.getElem?_of_mem hf';have := hf i f (by simpa using hi);have hlt : i < xs.length := by rw [hxl]; simpa using (List.getElem?_eq_some_iff.1 hi).1
     rw [List.getElem?_eq_getElem hlt] at this;exact ⟨_, this⟩)
    exact ⟨ps.flatten, by simpa using h1, ⟨ps, rfl, h2⟩, by rw [hcl, hsz]; rfl⟩
  · rename_i k et hu;simp only [Bool.and_eq_true, beq_iff_eq] at hs;obtain ⟨hlk, hs, hsz⟩ := hs;obtain ⟨xs, m, rfl, rfl, hcl, hxl, hf⟩ := DataW.trod_array hu h;obtain ⟨ps, h1, h2⟩ := rda l m et cs hs (by simpa [hsz] using hcl) (fun i hi => by
     have := hf i (by omega);rw [List.getElem?_eq_getElem (by omega)] at this;exact ⟨_, this⟩)
    exact ⟨ps.flatten, h1, ⟨ps, rfl, h2⟩, by rw [hcl, hsz]; rfl⟩
  · cases hs
theorem rda : ∀ (l : List Sh) (n : Nat) (et : TypeId) (cs : List Value), shAs P l et = true → cs.length = Sh.sizes l →
 (∀ i, i < l.length → ∃ x, DataW.trod enc P w 0 spare held n et ((cs.drop (i * P.cellsOf et)).take (P.cellsOf et)) = some x) → ∃ ps, CellsOK w cs ps.flatten ∧ Dens l ps
 | [], n, et, cs, hs, hl, h => by
  have : cs = [] := List.length_eq_zero_iff.1 hl;subst this;exact ⟨[], ⟨rfl, by simp, fun j c g h1 => by simp at h1⟩, rfl⟩
 | s :: r, n, et, cs, hs, hl, h => by
  unfold shAs at hs;simp only [Bool.and_eq_true, beq_iff_eq] at hs;obtain ⟨h1, h2, h3⟩ := hs;obtain ⟨x, hx⟩ := h 0 (by simp);rw [Nat.zero_mul, List.drop_zero] at hx;obtain ⟨gs, q1, q2, q3⟩ := rd s n et _ _ h2 hx;simp only [Sh.sizes] at hl;obtain ⟨ps, k1, k2⟩ := rda r n et (cs.drop (P.cellsOf et)) h3 (by rw [List.length_drop, hl, h1]; omega) (fun i hi => by
   obtain ⟨y, hy⟩ := h (i + 1) (by simpa using hi);rw [List.drop_drop];have e : P.cellsOf et + i * P.cellsOf et = (i + 1) * P.cellsOf et := by rw [Nat.succ_mul, Nat.add_comm]
   rw [e]; exact ⟨y, hy⟩)
  refine ⟨gs :: ps, ?_, ⟨gs, ps, rfl, q2, k2⟩⟩;rw [List.flatten_cons];have := q1.append k1
  rwa [List.take_append_drop] at this
theorem rds : ∀ (l : List Sh) (n : Nat) (fs : List Field) (cs : List Value) (o : Nat), shBs P l fs o = true → cs.length = o + Sh.sizes l →
 (∀ f ∈ fs, ∃ x, DataW.trod enc P w 0 spare held n f.type ((cs.drop f.offset).take (P.cellsOf f.type)) = some x) → ∃ ps, CellsOK w (cs.drop o) ps.flatten ∧ Dens l ps
 | [], n, fs, cs, o, hs, hl, h => by
  refine ⟨[], ?_, rfl⟩;rw [List.drop_eq_nil_of_le (by rw [hl]; simp [Sh.sizes])];exact ⟨rfl, by simp, fun j c g h1 => by simp at h1⟩
 | s :: r, n, fs, cs, o, hs, hl, h => by
  match fs, hs, h with
  | f :: fs, hs, h =>
   unfold shBs at hs;simp only [Bool.and_eq_true, beq_iff_eq] at hs;obtain ⟨⟨⟨h1, h2⟩, h3⟩, h4⟩ := hs;obtain ⟨x, hx⟩ := h f (by simp);obtain ⟨gs, q1, q2, q3⟩ := rd s n f.type _ _ h3 hx;simp only [Sh.sizes] at hl;obtain ⟨ps, k1, k2⟩ := rds r n fs cs (o + s.size) h4 (by rw [hl]; omega) (fun f' hf' => h f' (by simp [hf']));refine ⟨gs :: ps, ?_, ⟨gs, ps, rfl, q2, k2⟩⟩;rw [List.flatten_cons];have e : cs.drop o = (cs.drop f.offset).take (P.cellsOf f.type) ++ cs.drop (o + s.size) := by
    rw [h1, h2, ← List.drop_drop]; exact (List.take_append_drop _ _).symm
   rw [e];exact q1.append k1
  | [], hs, h => simp [shBs] at hs
end
def Sh.val : Sh → List GVal → GVal
 | .agg _, gs => .agg gs
 | _, gs => gs.headD .any
theorem arg_read {S : Sh} {t : TypeId} {r : Reach} {base : Nat} {v : Value} {d : DataW H} {ps : List MemPlace} (hs : shB P S t = true) (hval : Value.okWide P w r base t v) (h : DataW.Trod enc P w 0 spare held t v d ps) :
 ∃ gs, Den S gs ∧ VR (Env.all w) v (S.val gs) := by
 obtain ⟨n, h⟩ := h
 obtain ⟨gs, h1, h2, h3⟩ := rd S n t _ _ hs h
 refine ⟨gs, h2, ?_⟩
 have single : ∀ x : Value, v = x → x.cells.toList = [x] → (∃ g, gs = [g]) → S.val gs = gs.headD .any → VR (Env.all w) v (S.val gs) := by
  intro x hx hc ⟨g, hg⟩ hv;subst hx; subst hg;rw [hv];rw [hc] at h1;exact h1.2.2 0 _ _ rfl rfl
 cases S with
 | int k =>
  unfold shB at hs;split at hs
  · rename_i k' hu;obtain ⟨n, rfl⟩ := okWide_int hu hval;obtain ⟨m, e, _⟩ := h2;exact single _ rfl rfl ⟨_, e⟩ rfl
  · cases hs
 | bool =>
  unfold shB at hs;split at hs
  · rename_i hu;obtain ⟨n, rfl⟩ := okWide_bool hu hval;obtain ⟨m, e⟩ := h2;exact single _ rfl rfl ⟨_, e⟩ rfl
  · cases hs
 | str =>
  unfold shB at hs;split at hs
  · rename_i hu;obtain ⟨n, rfl⟩ := okWide_string hu hval;obtain ⟨m, e, _⟩ := h2;exact single _ rfl rfl ⟨_, e⟩ rfl
  · cases hs
 | slice e =>
  unfold shB at hs;split at hs
  · rename_i et hu;obtain ⟨a, len, cap, rfl⟩ := okWide_slice hu hval;obtain ⟨m, e, _⟩ := h2;exact single _ rfl rfl ⟨_, e⟩ rfl
  · cases hs
 | agg l =>
  unfold shB at hs;split at hs
  · rename_i fs hu;obtain ⟨cs, rfl, _⟩ := okWide_struct hu hval;refine .agg cs gs (by have := h1.1; simpa [Value.cells] using this) (fun j g hj => ?_);have hl : j < cs.size := by
     have := (List.getElem?_eq_some_iff.1 hj).1
     rw [← h1.1] at this; simpa [Value.cells] using this
    have := h1.2.2 j cs[j] g (by simp [Value.cells, hl]) hj
    simpa [Array.getD, hl] using this
  · rename_i n e hu;obtain ⟨cs, rfl⟩ : ∃ cs : Array Value, v = .agg cs := by
     simp only [Value.okWide, hu] at hval;obtain ⟨cs, h1, _⟩ := hval;exact ⟨cs, h1⟩
    refine .agg cs gs (by have := h1.1; simpa [Value.cells] using this) (fun j g hj => ?_);have hl : j < cs.size := by
     have := (List.getElem?_eq_some_iff.1 hj).1
     rw [← h1.1] at this; simpa [Value.cells] using this
    have := h1.2.2 j cs[j] g (by simp [Value.cells, hl]) hj
    simpa [Array.getD, hl] using this
  · cases hs
theorem GPure.lawAt {P : Program} {f : FuncId} {args : Array Value} {gs : List GVal} {w : World} (h : GPure P f gs (.bool true)) (ha : ArgsR (Env.all w) args gs) (hg : GlobsIn w := by exact Gv.globsIn_none rfl) :
 Calls P f args w fun e w' => e = .returned (.bool true) ∧ Old w w' := by
 refine (h.2 (Env.all w) w args (HSim.all w hg) ha).mono ?_
 rintro e w' ⟨v, E', O', g, rfl, h1, h2, h3, rfl, rfl⟩
 cases h3
 exact ⟨rfl, h2.old⟩
theorem ArgsR.nil {E : Env} : ArgsR E #[] [] := ⟨rfl, fun i g h => by simp at h⟩
theorem ArgsR.one {E : Env} {v : Value} {g : GVal} (h : VR E v g) : ArgsR E #[v] [g] := ⟨rfl, fun i g' hg => by
 cases i with
 | zero => simp at hg; subst hg; exact h
 | succ i => simp at hg⟩
theorem Old.trod {W W' : World} {t : TypeId} {v : Value} {d : DataW H} {ps : List MemPlace} (hl : laidOutB P = true) (hr : P.readableRec t = true) (hrow : t < P.types.size) (hb : Old W W') {sp : Nat → Bool}
 (h : DataW.Trod enc P W 0 (fun _ => true) true t v d ps) (hlt : ∀ x ∈ ps, x.block < W.heap.size) (hs : ∀ x ∈ ps, sp x.block = true) : DataW.Trod enc P W' 0 sp true t v d ps :=
 WideElems.Trod_stays hl hr hrow h (fun x hx => by
  have hp := hlt x hx;cases x with
  | cell b o => exact World.cell?_of_block (w := W) (hb.block b hp)
  | map b => exact hb.block b hp) hs
end
end Gv
namespace Gv.Try
open Go Gv Go.Proofs Go.RowKit
abbrev HL := { l : List UInt8 // l.length = 32 }
open Go Gv Go.Proofs Go.RowKit Go.Maps Go.Sort Go.Shelf
def apAssign : Code := (Code.region 2 #[{ dst := some 5, op := Op.alloc 46, type := 0, pos := "iter.go:51", after := #[], guard := none }, { dst := none, op := Op.store 46 (Operand.tmp 5) (Operand.tmp 7), type := 0, pos := "iter.go:51", after := #[{ on := 0, ground := Ground.data }, { on := 0, ground := Ground.phase }], guard := none }] false)
def apBody : Code := (Code.block 1 (Code.region 3 #[{ dst := some 8, op := Op.load 27 (Operand.tmp 2), type := 27, pos := "iter.go:52", after := #[], guard := none }, { dst := some 9, op := Op.load 46 (Operand.tmp 5), type := 46, pos := "iter.go:52", after := #[], guard := none }, { dst := some 10, op := Op.buildSlice 27 1 #[(0, Operand.tmp 9)], type := 27, pos := "iter.go:52", after := #[{ on := 1, ground := Ground.data }], guard := none }, { dst := some 11, op := Op.call { callee := Callee.builtin Builtin.append, args := #[Operand.tmp 8, Operand.tmp 10], argTypes := #[27, 27] }, type := 27, pos := "iter.go:52", after := #[{ on := 0, ground := Ground.data }, { on := 2, ground := Ground.data }], guard := none }, { dst := none, op := Op.store 27 (Operand.tmp 2) (Operand.tmp 11), type := 0, pos := "iter.go:52", after := #[{ on := 3, ground := Ground.data }, { on := 3, ground := Ground.chain }, { on := 0, ground := Ground.phase }, { on := 1, ground := Ground.phase }, { on := 2, ground := Ground.phase }, { on := 3, ground := Ground.phase }], guard := none }] false))
def apRec (fn : FuncId) (sv : Value) (Bs D : Nat) (st : LoopState) (pend : Option Code) : Loop :=
 { state := st, pending := pend, fn, tmps := #[.slice none 0 0, sv, .pointer (some ⟨Bs, 0, none⟩), undef, .slice none 0 0, undef, sv, undef, undef, undef, undef, undef, undef], params := #[7], assign := apAssign, body := apBody, defers := D }
def cellsH (hs : List HL) : List Value := hs.flatMap fun h => bytesV h.1
structure ApAt (w0 : World) (fn : FuncId) (sv : Value) (Bs l D : Nat) (ss : List HL) (W : World) : Prop where
 box : ∃ v, W.heap[Bs]? = some (.cells #[v] 27 (0, 0)) ∧ W.ownsRow w0.heap.size 46 32 v ss.length (cellsH ss) ∧ (v = .slice none 0 0 ↔ ss = [])
 L : W.heap[l]? = some (.loop (apRec fn sv Bs D .ready none))
 K : W.heap[D]? = some (.deferred (some []))
 below : Below w0.heap.size w0 W
end Gv.Try
namespace Gv
open Go
def guardV (v : GVal) (A B C : Prop) : Prop := match v with
 | .bool b => gif b A B
 | .lit (.tuple _) => C
 | _ => False
@[congr] theorem cg_guardV {v v' : GVal} {A B C : Prop} (h : v = v') : guardV v A B C = guardV v' A B C := by subst h; rfl
def condV (v : GVal) (A B : Prop) : Prop := match v with
 | .bool b => gif b A B
 | .ubool => A ∧ B
 | _ => False
@[congr] theorem cg_condV {v v' : GVal} {A B : Prop} (h : v = v') : condV v A B = condV v' A B := by subst h; rfl
theorem nil_ptr (a b c d : Nat) (K : GVal → Prop) : nilV (.ptr a b c d) K = K (.ptr a b c d) := rfl
theorem nil_ref (cs : List GVal) (K : GVal → Prop) : nilV (.ref cs) K = K (.ref cs) := rfl
section
variable (P : Program) (R : List Nat) (Q : Ex → GSt → Prop) (st : GSt)
end
end Gv
namespace Gv
open Go
theorem vq1 {E P Q : Prop} (e : E) (q : Q) (h : E → Q → P := by intro e q; simp +contextual -implicitDefEqProofs (maxSteps := 2000000) (disch := omega) only [drawC, drawK, keepT, ↓op_clear, ↓lenV, binV, ↓unV, ↓convV, optV, ↓loadV, ↓storeV, ↓fieldAddrV, ↓fieldV, ↓indexAddrV, ↓indexV, ↓allocV, ↓boxV, ↓buildV, ↓buildSliceV, ↓sliceV, ↓nil_ptr, ↓nil_ref, ↓ifaceV, ↓appendV, ↓srcV, ↓minV, bound, cutTag, hiTag, fillG, fillE, place, GVal.cells, grp, GVal.ofConst, ↓resV, resG, List.map, List.headD, List.take, List.drop, ↓reduceIte, Nat.reduceEqDiff, Nat.reduceAdd, Nat.reduceSub, Nat.reduceLeDiff, reduceCtorEq, implies_true, ne_eq, ↓asrcV, ↓capV, ↓lookupV, ↓mapUpdateV, ↓deleteV, ↓clearV, ↓makeMapV, keyOk, keyCells, pairG, aggV, Tag.cap, List.replicate, allSolid, GVal.solid, Nat.reduceBEq, Nat.reduceMul, Nat.reduceLT, List.length_map, List.length_range, splice, vcA, ↓vcB, vcC, vcD, fbFg, e]; exact q) : P := h e q
theorem vd1 {E P : Prop} (e : E) (h : E → P := by intro e; simp +contextual -implicitDefEqProofs (maxSteps := 2000000) (disch := omega) only [drawC, drawK, keepT, ↓op_clear, ↓lenV, binV, ↓unV, ↓convV, optV, ↓loadV, ↓storeV, ↓fieldAddrV, ↓fieldV, ↓indexAddrV, ↓indexV, ↓allocV, ↓boxV, ↓buildV, ↓buildSliceV, ↓sliceV, ↓nil_ptr, ↓nil_ref, ↓ifaceV, ↓appendV, ↓srcV, ↓minV, bound, cutTag, hiTag, fillG, fillE, place, GVal.cells, grp, GVal.ofConst, ↓resV, resG, List.map, List.headD, List.take, List.drop, ↓reduceIte, Nat.reduceEqDiff, Nat.reduceAdd, Nat.reduceSub, Nat.reduceLeDiff, reduceCtorEq, implies_true, ne_eq, ↓asrcV, ↓capV, ↓lookupV, ↓mapUpdateV, ↓deleteV, ↓clearV, ↓makeMapV, keyOk, keyCells, pairG, aggV, Tag.cap, List.replicate, allSolid, GVal.solid, Nat.reduceBEq, Nat.reduceMul, Nat.reduceLT, List.length_map, List.length_range, splice, vcA, ↓vcB, vcC, vcD, fbFg, e]) : P := h e
theorem vqd {E F P Q : Prop} (e : E) (f : F) (q : Q) (h : E → F → Q → P := by intro e f q; simp +contextual -implicitDefEqProofs (maxSteps := 2000000) (disch := omega) only [drawC, drawK, keepT, ↓op_clear, ↓lenV, binV, ↓unV, ↓convV, optV, ↓loadV, ↓storeV, ↓fieldAddrV, ↓fieldV, ↓indexAddrV, ↓indexV, ↓allocV, ↓boxV, ↓buildV, ↓buildSliceV, ↓sliceV, ↓nil_ptr, ↓nil_ref, ↓ifaceV, ↓appendV, ↓srcV, ↓minV, bound, cutTag, hiTag, fillG, fillE, place, GVal.cells, grp, GVal.ofConst, ↓resV, resG, List.map, List.headD, List.take, List.drop, ↓reduceIte, Nat.reduceEqDiff, Nat.reduceAdd, Nat.reduceSub, Nat.reduceLeDiff, reduceCtorEq, implies_true, ne_eq, ↓asrcV, ↓capV, ↓lookupV, ↓mapUpdateV, ↓deleteV, ↓clearV, ↓makeMapV, keyOk, keyCells, pairG, aggV, Tag.cap, List.replicate, allSolid, GVal.solid, Nat.reduceBEq, Nat.reduceMul, Nat.reduceLT, List.length_map, List.length_range, splice, vcA, ↓vcB, vcC, vcD, fbFg, e, ↓f]; exact q) : P := h e f q
theorem vdd {E F P : Prop} (e : E) (f : F) (h : E → F → P := by intro e f; simp +contextual -implicitDefEqProofs (maxSteps := 2000000) (disch := omega) only [drawC, drawK, keepT, ↓op_clear, ↓lenV, binV, ↓unV, ↓convV, optV, ↓loadV, ↓storeV, ↓fieldAddrV, ↓fieldV, ↓indexAddrV, ↓indexV, ↓allocV, ↓boxV, ↓buildV, ↓buildSliceV, ↓sliceV, ↓nil_ptr, ↓nil_ref, ↓ifaceV, ↓appendV, ↓srcV, ↓minV, bound, cutTag, hiTag, fillG, fillE, place, GVal.cells, grp, GVal.ofConst, ↓resV, resG, List.map, List.headD, List.take, List.drop, ↓reduceIte, Nat.reduceEqDiff, Nat.reduceAdd, Nat.reduceSub, Nat.reduceLeDiff, reduceCtorEq, implies_true, ne_eq, ↓asrcV, ↓capV, ↓lookupV, ↓mapUpdateV, ↓deleteV, ↓clearV, ↓makeMapV, keyOk, keyCells, pairG, aggV, Tag.cap, List.replicate, allSolid, GVal.solid, Nat.reduceBEq, Nat.reduceMul, Nat.reduceLT, List.length_map, List.length_range, splice, vcA, ↓vcB, vcC, vcD, fbFg, e, ↓f]) : P := h e f
theorem vq0 {P Q : Prop} (q : Q) (h : Q → P := by intro q; exact vq1 trivial q) : P := h q
theorem vd0 {P : Prop} (h : P := by exact vd1 trivial) : P := h
theorem vq2 {A B P Q : Prop} (a : A) (b : B) (q : Q) (h : A → B → Q → P := by intro a b q; exact vq1 (ai @a <| @b) q) : P := h a b q
theorem vd2 {A B P : Prop} (a : A) (b : B) (h : A → B → P := by intro a b; exact vd1 (ai @a <| @b)) : P := h a b
theorem vq3 {A B C P Q : Prop} (a : A) (b : B) (c : C) (q : Q) (h : A → B → C → Q → P := by intro a b c q; exact vq1 (ai @a <| ai @b <| @c) q) : P := h a b c q
theorem vd3 {A B C P : Prop} (a : A) (b : B) (c : C) (h : A → B → C → P := by intro a b c; exact vd1 (ai @a <| ai @b <| @c)) : P := h a b c
theorem vq4 {A B C D P Q : Prop} (a : A) (b : B) (c : C) (d : D) (q : Q) (h : A → B → C → D → Q → P := by intro a b c d q; exact vq1 (ai @a <| ai @b <| ai @c <| @d) q) : P := h a b c d q
theorem vd4 {A B C D P : Prop} (a : A) (b : B) (c : C) (d : D) (h : A → B → C → D → P := by intro a b c d; exact vd1 (ai @a <| ai @b <| ai @c <| @d)) : P := h a b c d
theorem vq5 {A B C D E P Q : Prop} (a : A) (b : B) (c : C) (d : D) (e : E) (q : Q) (h : A → B → C → D → E → Q → P := by intro a b c d e q; exact vq1 (ai @a <| ai @b <| ai @c <| ai @d <| @e) q) : P := h a b c d e q
theorem vd5 {A B C D E P : Prop} (a : A) (b : B) (c : C) (d : D) (e : E) (h : A → B → C → D → E → P := by intro a b c d e; exact vd1 (ai @a <| ai @b <| ai @c <| ai @d <| @e)) : P := h a b c d e
theorem vq6 {A B C D E F P Q : Prop} (a : A) (b : B) (c : C) (d : D) (e : E) (f : F) (q : Q) (h : A → B → C → D → E → F → Q → P := by intro a b c d e f q; exact vq1 (ai @a <| ai @b <| ai @c <| ai @d <| ai @e <| @f) q) : P := h a b c d e f q
theorem vd6 {A B C D E F P : Prop} (a : A) (b : B) (c : C) (d : D) (e : E) (f : F) (h : A → B → C → D → E → F → P := by intro a b c d e f; exact vd1 (ai @a <| ai @b <| ai @c <| ai @d <| ai @e <| @f)) : P := h a b c d e f
theorem vq7 {A B C D E F G P Q : Prop} (a : A) (b : B) (c : C) (d : D) (e : E) (f : F) (g : G) (q : Q) (h : A → B → C → D → E → F → G → Q → P := by intro a b c d e f g q; exact vq1 (ai @a <| ai @b <| ai @c <| ai @d <| ai @e <| ai @f <| @g) q) : P := h a b c d e f g q
theorem vd7 {A B C D E F G P : Prop} (a : A) (b : B) (c : C) (d : D) (e : E) (f : F) (g : G) (h : A → B → C → D → E → F → G → P := by intro a b c d e f g; exact vd1 (ai @a <| ai @b <| ai @c <| ai @d <| ai @e <| ai @f <| @g)) : P := h a b c d e f g
theorem vq8 {A B C D E F G H P Q : Prop} (a : A) (b : B) (c : C) (d : D) (e : E) (f : F) (g : G) (i : H) (q : Q) (h : A → B → C → D → E → F → G → H → Q → P := by intro a b c d e f g i q; exact vq1 (ai @a <| ai @b <| ai @c <| ai @d <| ai @e <| ai @f <| ai @g <| @i) q) : P := h a b c d e f g i q
theorem vd8 {A B C D E F G H P : Prop} (a : A) (b : B) (c : C) (d : D) (e : E) (f : F) (g : G) (i : H) (h : A → B → C → D → E → F → G → H → P := by intro a b c d e f g i; exact vd1 (ai @a <| ai @b <| ai @c <| ai @d <| ai @e <| ai @f <| ai @g <| @i)) : P := h a b c d e f g i
theorem vq9 {A B C D E F G H I P Q : Prop} (a : A) (b : B) (c : C) (d : D) (e : E) (f : F) (g : G) (i : H) (j : I) (q : Q) (h : A → B → C → D → E → F → G → H → I → Q → P := by intro a b c d e f g i j q; exact vq1 (ai @a <| ai @b <| ai @c <| ai @d <| ai @e <| ai @f <| ai @g <| ai @i <| @j) q) : P := h a b c d e f g i j q
theorem vd9 {A B C D E F G H I P : Prop} (a : A) (b : B) (c : C) (d : D) (e : E) (f : F) (g : G) (i : H) (j : I) (h : A → B → C → D → E → F → G → H → I → P := by intro a b c d e f g i j; exact vd1 (ai @a <| ai @b <| ai @c <| ai @d <| ai @e <| ai @f <| ai @g <| ai @i <| @j)) : P := h a b c d e f g i j
theorem vq10 {A B C D E F G H I J P Q : Prop} (a : A) (b : B) (c : C) (d : D) (e : E) (f : F) (g : G) (i : H) (j : I) (k : J) (q : Q) (h : A → B → C → D → E → F → G → H → I → J → Q → P := by intro a b c d e f g i j k q; exact vq1 (ai @a <| ai @b <| ai @c <| ai @d <| ai @e <| ai @f <| ai @g <| ai @i <| ai @j <| @k) q) : P := h a b c d e f g i j k q
theorem vd10 {A B C D E F G H I J P : Prop} (a : A) (b : B) (c : C) (d : D) (e : E) (f : F) (g : G) (i : H) (j : I) (k : J) (h : A → B → C → D → E → F → G → H → I → J → P := by intro a b c d e f g i j k; exact vd1 (ai @a <| ai @b <| ai @c <| ai @d <| ai @e <| ai @f <| ai @g <| ai @i <| ai @j <| @k)) : P := h a b c d e f g i j k
theorem FnS.ca {P : Program} {f : FuncId} {C : Cfg} {n : Nat} {rs : List ResultVar} {s : SCode} {Q : Prop} (h : FnS P f C n rs s) {args : List GVal} {O : List GObj} {K : GVal → List GObj → Prop} (q : Q) (hm : P.follows .mixedOrders = true := by exact mixS) (ha : args.length ≤ n := by simp) (hk : Q → vcS P C.ro s (retQ P rs K) (gstart n args O) := by intro q; simp only [gs0, Nat.reduceAdd, Nat.reduceSub]; exact q) : GCalls P f args O K := h.calls hm ha (hk q)
theorem FnS.pa {P : Program} {f : FuncId} {C : Cfg} {n : Nat} {rs : List ResultVar} {s : SCode} {Q : Prop} (h : FnS P f C n rs s) {args : List GVal} {r : GVal} (q : Q) (hm : P.follows .mixedOrders = true := by exact mixS) (ha : args.length ≤ n := by simp) (hk : Q → vcS P C.ro s (retQ P rs (fun g O' => leA g r)) (gstart n args []) := by intro q; simp only [gs0, Nat.reduceAdd, Nat.reduceSub]; exact q) : GPure P f args r := h.pure hm ha (hk q)
theorem FnS.pf {P : Program} {f : FuncId} {C : Cfg} {n : Nat} {rs : List ResultVar} {s : SCode} {Q : Prop} (h : FnS P f C n rs s) {args : List GVal} {r : GVal} (q : Q) (hm : P.follows .mixedOrders = true := by exact mixS) (ha : args.length ≤ n := by simp) (hk : Q → vcS P C.ro s (retQ P rs (frzTo r)) (gstart n args []) := by intro q; simp only [gs0, Nat.reduceAdd, Nat.reduceSub]; exact q) : GPure P f args r := h.pureF hm ha (hk q)
theorem FnS.ra {P : Program} {f : FuncId} {C : Cfg} {n : Nat} {rs : List ResultVar} {s : SCode} {Q : Prop} (h : FnS P f C n rs s) {args : List GVal} {R : GVal → Prop} (q : Q) (hm : P.follows .mixedOrders = true := by exact mixS) (ha : args.length ≤ n := by simp) (hk : Q → vcS P C.ro s (retQ P rs (fun g O' => ∃ r, frzTo r g O' ∧ R r)) (gstart n args []) := by intro q; simp only [gs0, Nat.reduceAdd, Nat.reduceSub]; exact q) : GRel P f args R := h.rel hm ha (hk q)
end Gv
