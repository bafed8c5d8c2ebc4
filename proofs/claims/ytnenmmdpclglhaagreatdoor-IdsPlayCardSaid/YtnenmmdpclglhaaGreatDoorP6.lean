/- A call that is handed some of the caller's objects, wherever they lie: the others stay as they are; what it leaves behind may be forgotten. -/
import Derived.Test.YtnenmmdpclglhaaGreatDoorP5
set_option linter.unusedVariables false
namespace Gv
open Go
structure OLe (x y : GObj) : Prop where
 real : ∀ E w, Qap E w x → Qap E w y
 blk : ∀ E, y.blk E = x.blk E
 clk : y.isClock = x.isClock
theorem OLe.refl (x : GObj) : OLe x x := ⟨fun _ _ h => h, fun _ => rfl, rfl⟩
theorem OLe.row {st sz : Nat} {xs ys : List (List GVal)} (h : QaS xs ys) : OLe (.row st sz xs) (.row st sz ys) := by
 obtain ⟨h1, h2, h3⟩ := h.flat
 refine ⟨fun E w hr => ?_, fun E => rfl, rfl⟩
 obtain ⟨l, hl, hz, hx, hb⟩ := hr
 refine ⟨l, hl, hz, h3 sz hx, ?_⟩
 cases hbl : l.block with
 | none => simp only [hbl] at hb; subst hb; exact List.length_eq_zero_iff.1 (by rw [← h2]; rfl)
 | some b =>
  simp only [hbl] at hb ⊢;obtain ⟨cur, el, a1, a2, a3, a4, a5⟩ := hb;refine ⟨cur, el, a1, a2, by rw [← h2]; exact a3, fun j g hj => ?_, a5⟩;obtain ⟨g0, hg0, hle⟩ := h1.at_ j g hj;obtain ⟨v, q1, q2, q3⟩ := a4 j g0 hg0;exact ⟨v, q1, q2, hle _ _ q3⟩
theorem GLe.place (i : Nat) (g : GVal) : GLe g (g.place i) := fun E v h => by
 cases g with
 | ptr o st a b => cases h; exact .ptr _ _ _ _ _ _ _ (by assumption) (by assumption) (by assumption)
 | own o st a b => cases h; exact .own _ _ _ _ _ _ _ (by assumption) (by assumption) (by assumption)
 | map o st => cases h; exact .map _ _ _ _ (by assumption) (by assumption)
 | _ => exact h
theorem GLe.ptr (o o' st i j : Nat) : GLe (.ptr o st i j) (.ptr o' st i j) := GLe.place o' (.ptr o st i j)
theorem GLe.map (o o' st : Nat) : GLe (.map o st) (.map o' st) := GLe.place o' (.map o st)
theorem GLe.own (o o' st i j : Nat) : GLe (.own o st i j) (.own o' st i j) := GLe.place o' (.own o st i j)
def QcI (O : List GObj) (pl : List Nat) (O' : List GObj) : List (Bool × Nat) → List GObj → Prop
 | [], [] => True
 | (true, j) :: s, z :: r => (j ∉ pl ∧ ∃ y, O[j]? = some y ∧ OLe y z) ∧ QcI O pl O' s r
 | (false, j) :: s, z :: r => (∃ y, O'[j]? = some y ∧ OLe y z) ∧ QcI O pl O' s r
 | _, _ => False
theorem QcI.at_ {O O' : List GObj} {pl : List Nat} : ∀ {s : List (Bool × Nat)} {r : List GObj}, QcI O pl O' s r → ∀ (k : Nat) z, r[k]? = some z →
 (∃ j, s[k]? = some (true, j) ∧ j ∉ pl ∧ ∃ y, O[j]? = some y ∧ OLe y z) ∨ (∃ j, s[k]? = some (false, j) ∧ ∃ y, O'[j]? = some y ∧ OLe y z)
 | [], [], _, k, z, hz => by simp at hz
 | (true, j) :: s, z :: r, h, 0, y, hy => by simp at hy; subst hy; exact .inl ⟨j, rfl, h.1⟩
 | (false, j) :: s, z :: r, h, 0, y, hy => by simp at hy; subst hy; exact .inr ⟨j, rfl, h.1⟩
 | (true, j) :: s, z :: r, h, k + 1, y, hy => by
  have := QcI.at_ h.2 k y (by simpa using hy)
  simpa using this
 | (false, j) :: s, z :: r, h, k + 1, y, hy => by
  have := QcI.at_ h.2 k y (by simpa using hy)
  simpa using this
 | [], _ :: _, h, _, _, _ => h.elim
 | (true, _) :: _, [], h, _, _, _ => h.elim
 | (false, _) :: _, [], h, _, _, _ => h.elim
def Fits (O : List GObj) : List Nat → List GObj → Prop
 | [], [] => True
 | j :: pl, x :: r => (∃ y, O[j]? = some y ∧ OLe y x) ∧ Fits O pl r
 | _, _ => False
theorem Fits.at_ {O : List GObj} : ∀ {pl : List Nat} {X : List GObj}, Fits O pl X → ∀ (i : Nat) x, X[i]? = some x → ∃ j y, pl[i]? = some j ∧ O[j]? = some y ∧ OLe y x
 | [], [], _, i, x, h => by simp at h
 | j :: pl, x :: r, h, 0, y, hy => by simp at hy; subst hy; obtain ⟨y, h1, h2⟩ := h.1; exact ⟨j, y, rfl, h1, h2⟩
 | j :: pl, x :: r, h, i + 1, y, hy => by simpa using Fits.at_ h.2 i y (by simpa using hy)
 | [], _ :: _, h, _, _, _ => h.elim
 | _ :: _, [], h, _, _, _ => h.elim
theorem GCalls.frame {P : Program} {f : FuncId} {args args' : List GVal} {X O : List GObj} {K K' : GVal → List GObj → Prop} (h : GCalls P f args X K) (pl : List Nat) (hX : Fits O pl X) (hnd : pl.Nodup) (ha : GLes args' args) (hcX : Qad X = none) (hc : Qad O = none)
 (hK : ∀ g O', K g O' → ∃ g' O'' s, K' g' O'' ∧ GLe g g' ∧ QcI O pl O' s O'' ∧ s.Nodup ∧ Qad O'' = none) : GCalls P f args' O K' := by
 refine ⟨h.1, fun E w vs hs hv => ?_⟩
 have hsX : HSim E X w := by
  refine ⟨by obtain ⟨n, _, q⟩ := hs.fin; exact ⟨n, fun c e => (by rw [hcX] at e; cases e), q⟩, hs.sealed, hs.one, fun i x hx => ?_, fun i j oi oj b hij hi hj hbi hbj => ?_, hs.glob⟩
  · obtain ⟨j, y, h1, h2, h3⟩ := hX.at_ i x hx;exact h3.real _ _ (hs.real j y h2)
  · obtain ⟨i', yi, p1, p2, p3⟩ := hX.at_ i oi hi;obtain ⟨j', yj, q1, q2, q3⟩ := hX.at_ j oj hj;have hne : i' ≠ j' := fun e => by
     subst e;have hil := (List.getElem?_eq_some_iff.1 p1)
     have hjl := (List.getElem?_eq_some_iff.1 q1)
     obtain ⟨a1, a2⟩ := hil;obtain ⟨b1, b2⟩ := hjl;exact hij ((List.getElem_inj hnd).1 (a2.trans b2.symm))
    rw [p3.blk] at hbi;rw [q3.blk] at hbj;exact hs.sep i' j' yi yj b hne p2 q2 hbi hbj
 have hv' : ArgsR E vs args := ⟨by rw [hv.1, ha.len], fun k g hg => by
  obtain ⟨x, hx, hle⟩ := ha.at_ k g hg;exact hle _ _ (hv.2 k x hx)⟩
 refine (h.2 E w vs hsX hv').mono ?_
 rintro e w' ⟨v, E', O', g, rfl, h1, h2, h3, hk⟩
 obtain ⟨g', O'', s, hK', hg, hcm, hsn, hcl⟩ := hK g O' hk
 have inX : ∀ b, InO E X b → InO E O b := fun b ⟨i, x, hx, hb⟩ => by
  obtain ⟨j, y, _, hy, hle⟩ := hX.at_ i x hx;exact ⟨j, y, hy, by rw [← hle.blk]; exact hb⟩
 have far : ∀ (j : Nat) y b, j ∉ pl → O[j]? = some y → y.blk E = some b → ¬ InO E X b := fun j y b hj hy hb ⟨i, x, hx, hxb⟩ => by
  obtain ⟨j', y', p1, p2, p3⟩ := hX.at_ i x hx;have hne : j ≠ j' := fun e => hj (by rw [e]; exact List.mem_of_getElem? p1)
  rw [p3.blk] at hxb;exact hs.sep j j' y y' b hne hy p2 hb hxb
 have hold : ∀ (j : Nat) y, j ∉ pl → O[j]? = some y → Qap E' w' y ∧ y.blk E' = y.blk E := fun j y hj hy =>
  ⟨(hs.real j y hy).keep h2.ext (fun b hb => h2.heap b ((hs.real j y hy).blk_lt hb) (far j y b hj hy hb)) (fun b o v hb hv => by
   rcases h2.snap b o v hv with q | q | q
   · exact q
   · exact absurd ((hs.real j y hy).blk_lt hb) (by omega)
   · exact absurd q (far j y b hj hy hb)), GObj.blk_mono h2.ext (hs.real j y hy)⟩
 have hnew : ∀ (j : Nat) y b, O'[j]? = some y → y.blk E' = some b → InO E X b ∨ w.heap.size ≤ b := fun j y b hy hb => h2.objs b ⟨j, y, hy, hb⟩
 refine ⟨v, E', O'', g', rfl, ⟨?_, h1.sealed, h1.one, fun k z hz => ?_, fun a b oa ob bb hab ha1 hb1 q1 q2 => ?_, h1.glob⟩, ⟨h2.ext, h2.os, h2.out, h2.size, fun b hb hn => h2.heap b hb fun hin => hn (inX b hin), fun b o v hv => ?_, fun b hb => ?_, trivial⟩, hg _ _ h3, hK'⟩
 · obtain ⟨n, _, q⟩ := h1.fin;exact ⟨n, fun c hc' => (by rw [hcl] at hc'; cases hc'), q⟩
 · rcases hcm.at_ k z hz with ⟨j, _, hj, y, hy, hle⟩ | ⟨j, _, y, hy, hle⟩
   · exact hle.real _ _ (hold j y hj hy).1
   · exact hle.real _ _ (h1.real j y hy)
 · have uniq : ∀ (x : Bool × Nat), s[a]? = some x → s[b]? = some x → False := fun x ea eb => by
    obtain ⟨a1, a2⟩ := List.getElem?_eq_some_iff.1 ea;obtain ⟨b1, b2⟩ := List.getElem?_eq_some_iff.1 eb;exact hab ((List.getElem_inj hsn).1 (a2.trans b2.symm))
   rcases hcm.at_ a oa ha1 with ⟨ja, sa, ka, ya, hya, la⟩ | ⟨ja, sa, ya, hya, la⟩ <;> rcases hcm.at_ b ob hb1 with ⟨jb, sb, kb, yb, hyb, lb⟩ | ⟨jb, sb, yb, hyb, lb⟩
   · rw [la.blk, (hold ja ya ka hya).2] at q1;rw [lb.blk, (hold jb yb kb hyb).2] at q2;exact hs.sep ja jb ya yb bb (fun e => uniq (true, ja) sa (by rw [e]; exact sb)) hya hyb q1 q2
   · rw [la.blk, (hold ja ya ka hya).2] at q1;rw [lb.blk] at q2;rcases hnew jb yb bb hyb q2 with e | e
     · exact far ja ya bb ka hya q1 e
     · exact absurd ((hs.real ja ya hya).blk_lt q1) (by omega)
   · rw [la.blk] at q1;rw [lb.blk, (hold jb yb kb hyb).2] at q2;rcases hnew ja ya bb hya q1 with e | e
     · exact far jb yb bb kb hyb q2 e
     · exact absurd ((hs.real jb yb hyb).blk_lt q2) (by omega)
   · rw [la.blk] at q1;rw [lb.blk] at q2;exact h1.sep ja jb ya yb bb (fun e => uniq (false, ja) sa (by rw [e]; exact sb)) hya hyb q1 q2
 · rcases h2.snap b o v hv with q | q | q
   · exact .inl q
   · exact .inr (.inl q)
   · exact .inr (.inr (inX b q))
 · obtain ⟨k, z, hz, hb⟩ := hb;rcases hcm.at_ k z hz with ⟨j, _, hj, y, hy, hle⟩ | ⟨j, _, y, hy, hle⟩
   · rw [hle.blk, (hold j y hj hy).2] at hb;exact .inl ⟨j, y, hy, hb⟩
   · rw [hle.blk] at hb;rcases hnew j y b hy hb with e | e
     · exact .inl (inX b e)
     · exact .inr e
def GObj.place (j : Nat) : GObj → GObj
 | .row st sz xs => .row st sz (xs.map fun c => c.map (GVal.place j))
 | o => o
theorem GLes.place (j : Nat) : ∀ c : List GVal, GLes c (c.map (GVal.place j))
 | [] => trivial
 | x :: r => ⟨GLe.place j x, GLes.place j r⟩
theorem QaS.place (j : Nat) : ∀ xs : List (List GVal), QaS xs (xs.map fun c => c.map (GVal.place j))
 | [] => trivial
 | x :: r => ⟨GLes.place j x, QaS.place j r⟩
theorem OLe.place (j : Nat) (x : GObj) : OLe x (x.place j) := by
 cases x with
 | row st sz xs => exact OLe.row (QaS.place j xs)
 | _ => exact .refl _
theorem QcI.of {O O' : List GObj} {pl : List Nat} : ∀ {s : List (Bool × Nat)} {r : List GObj}, s.length = r.length → (∀ (k : Nat) z x, r[k]? = some z → s[k]? = some x → match x with
 | (true, j) => j ∉ pl ∧ ∃ y, O[j]? = some y ∧ OLe y z
 | (false, j) => ∃ y, O'[j]? = some y ∧ OLe y z) → QcI O pl O' s r
 | [], [], _, _ => trivial
 | (true, j) :: s, z :: r, hl, h => ⟨h 0 z (true, j) rfl rfl, QcI.of (by simpa using hl) fun k z x hz hx => h (k + 1) z x (by simpa using hz) (by simpa using hx)⟩
 | (false, j) :: s, z :: r, hl, h => ⟨h 0 z (false, j) rfl rfl, QcI.of (by simpa using hl) fun k z x hz hx => h (k + 1) z x (by simpa using hz) (by simpa using hx)⟩
 | [], _ :: _, hl, _ => by simp at hl
 | _ :: _, [], hl, _ => by simp at hl
theorem GCalls.on2 {P : Program} {f : FuncId} {args args' : List GVal} {x y : GObj} {R : GVal → GObj → GObj → Prop} (h : GCalls P f args [x, y] (fun g O' => ∃ x' y', O' = [x', y'] ∧ R g x' y')) {O : List GObj} (i j : Nat) (hij : i ≠ j) {xi : GObj} (hi : O[i]? = some xi) (hj : O[j]? = some y)
 (ex : OLe xi x) (ha : GLes args' args) (hcx : x.isClock = false) (hcy : y.isClock = false) (hR : ∀ g x' y', R g x' y' → x'.isClock = false ∧ y'.isClock = false) (hc : Qad O = none) :
 GCalls P f args' O (fun g O'' => ∃ x' y', R g x' y' ∧ O'' = (O.set i (x'.place j)).set j y') := by
 have hli := (List.getElem?_eq_some_iff.1 hi).1
 have hlj := (List.getElem?_eq_some_iff.1 hj).1
 refine GCalls.frame h [i, j] ⟨⟨xi, hi, ex⟩, ⟨y, hj, .refl _⟩, trivial⟩ (by simp [hij]) ha (by cases x <;> first | rfl | cases hcx) hc ?_
 rintro g O' ⟨x', y', rfl, hr⟩
 obtain ⟨c1, c2⟩ := hR g x' y' hr
 have cp : (x'.place j).isClock = false := by rw [(OLe.place j x').clk, c1]
 have hxc : xi.isClock = false := by rw [← ex.clk, hcx]
 refine ⟨g, (O.set i (x'.place j)).set j y', (List.range O.length).map (fun k => if k = i then (false, 0) else if k = j then (false, 1) else (true, k)), ⟨x', y', hr, rfl⟩, GLe.refl g, QcI.of (by simp) fun k z s hz hs => ?_, ?_, ?_⟩
 · have hk : k < O.length := by have := (List.getElem?_eq_some_iff.1 hz).1; simpa using this
   simp only [List.getElem?_map, List.getElem?_range hk, Option.map_some, Option.some.injEq] at hs;subst hs;rw [List.getElem?_set, List.getElem?_set] at hz;by_cases e : k = i
   · subst e;rw [if_neg (fun q => hij q.symm), if_pos rfl, if_pos hli] at hz;cases hz;simp only [if_pos];exact ⟨x', rfl, OLe.place j x'⟩
   · by_cases e2 : k = j
     · subst e2;rw [if_pos rfl, if_pos (by simpa using hlj)] at hz;cases hz;simp only [if_neg e, if_pos];exact ⟨y', rfl, .refl _⟩
     · rw [if_neg (fun q => e2 q.symm), if_neg (fun q => e q.symm)] at hz;simp only [if_neg e, if_neg e2];exact ⟨by simp [e, e2], z, hz, .refl _⟩
 · rw [List.nodup_iff_pairwise_ne, List.pairwise_map];refine List.Pairwise.imp_of_mem ?_ (List.pairwise_lt_range (n := O.length));intro a b _ _ hab;split <;> rename_i e1 <;> split <;> rename_i e2 <;> (try split) <;> (try split) <;> simp_all <;> omega
 · have h1 := Qb2 (obj' := x'.place j) hi hxc cp;have h2 : (O.set i (x'.place j))[j]? = some y := by rw [List.getElem?_set, if_neg hij]; exact hj
   rw [Qb2 (obj' := y') h2 hcy c2, h1, hc]
theorem GCalls.keep2 {P : Program} {f : FuncId} {args : List GVal} {a b : GObj} {r : GVal} (h : GCalls P f args [a, b] (fun g O' => g = r ∧ O' = [a, b])) (ha : a.isClock = false) (X : List GObj) : GCalls P f args (a :: b :: X) (fun g O' => g = r ∧ O' = a :: b :: X) := by
 have hcl : ∀ Y, Qad (a :: Y) = none := fun Y => by cases a <;> first | rfl | cases ha
 refine GCalls.frame h [0, 1] ⟨⟨a, rfl, .refl _⟩, ⟨b, rfl, .refl _⟩, trivial⟩ (by simp) (GLes.refl _) (hcl _) (hcl _) ?_
 rintro g O' ⟨rfl, rfl⟩
 refine ⟨g, a :: b :: X, (false, 0) :: (false, 1) :: (List.range X.length).map (fun k => (true, k + 2)), ⟨rfl, rfl⟩, GLe.refl g, ⟨⟨a, rfl, .refl _⟩, ⟨b, rfl, .refl _⟩, QcI.of (by simp) fun k z s hz hs => ?_⟩, ?_, hcl _⟩
 · have hk : k < X.length := (List.getElem?_eq_some_iff.1 hz).1;simp only [List.getElem?_map, List.getElem?_range hk, Option.map_some, Option.some.injEq] at hs;subst hs;exact ⟨by simp, z, by simpa using hz, .refl _⟩
 · simp only [List.nodup_cons, List.mem_cons, List.mem_map, Prod.mk.injEq, reduceCtorEq, false_and, and_false, exists_false, or_false, not_false_eq_true, Nat.zero_ne_one, true_and];rw [List.nodup_iff_pairwise_ne, List.pairwise_map];refine List.Pairwise.imp ?_ (List.pairwise_lt_range (n := X.length));intro a b hab;simp; omega
theorem GLe.func (fn : Fn) {gs gs' ks ks' : List GVal} (h : GLes gs gs') (k : GLes ks ks') : GLe (.func fn gs ks) (.func fn gs' ks') := fun E v hv => by
 cases hv with
 | func _ fs cs _ _ hf hk hfs hcs =>
  refine .func fn fs cs gs' ks' (by rw [hf, h.len]) (by rw [hk, k.len]) (fun j g hg => ?_) (fun j g hg => ?_)
  · obtain ⟨x, hx, hle⟩ := h.at_ j g hg;exact hle _ _ (hfs j x hx)
  · obtain ⟨x, hx, hle⟩ := k.at_ j g hg;exact hle _ _ (hcs j x hx)
theorem GLe.ref {cs cs' : List GVal} (h : GLes cs cs') : GLe (.ref cs) (.ref cs') := fun E v hv => by
 cases hv with
 | ref b off _ c ha hc =>
  refine .ref b off cs' c (fun j hj => ha j (by rw [h.len]; exact hj)) (fun j g hg => ?_);obtain ⟨x, hx, hle⟩ := h.at_ j g hg;exact hle _ _ (hc j x hx)
theorem GCalls.on2new {P : Program} {f : FuncId} {args args' : List GVal} {x y : GObj} {R : Nat → List (GVal × GVal) → Prop} (h : GCalls P f args [x, y] (fun g O' => ∃ st kv, g = .map 2 st ∧ O' = [x, y, .map st kv] ∧ R st kv)) {O : List GObj} (i j : Nat) (hij : i ≠ j) (hi : O[i]? = some x) (hj : O[j]? = some y)
 (ha : GLes args' args) (hcx : x.isClock = false) (hc : Qad O = none) : GCalls P f args' O (fun g O'' => ∃ st kv, g = .map O.length st ∧ O'' = O ++ [.map st kv] ∧ R st kv) := by
 refine GCalls.frame h [i, j] ⟨⟨x, hi, .refl _⟩, ⟨y, hj, .refl _⟩, trivial⟩ (by simp [hij]) ha (by cases x <;> first | rfl | cases hcx) hc ?_
 rintro g O' ⟨st, kv, rfl, rfl, hr⟩
 refine ⟨.map O.length st, O ++ [.map st kv], (List.range (O.length + 1)).map (fun k => if k = i then (false, 0) else if k = j then (false, 1) else if k = O.length then (false, 2) else (true, k)), ⟨st, kv, rfl, rfl, hr⟩, GLe.map _ _ _, QcI.of (by simp) fun k z s hz hs => ?_, ?_, by rw [Qen rfl, hc]⟩
 · have hli := (List.getElem?_eq_some_iff.1 hi).1;have hlj := (List.getElem?_eq_some_iff.1 hj).1;have hk : k < O.length + 1 := by have := (List.getElem?_eq_some_iff.1 hz).1; simpa using this
   simp only [List.getElem?_map, List.getElem?_range hk, Option.map_some, Option.some.injEq] at hs;subst hs;by_cases e : k = i
   · subst e;rw [List.getElem?_append_left hli, hi] at hz;cases hz;simp only [if_pos];exact ⟨x, rfl, .refl _⟩
   · by_cases e2 : k = j
     · subst e2;rw [List.getElem?_append_left hlj, hj] at hz;cases hz;simp only [if_neg e, if_pos];exact ⟨y, rfl, .refl _⟩
     · by_cases e3 : k = O.length
       · subst e3;simp at hz;subst hz;simp only [if_neg e, if_neg e2, if_pos];exact ⟨_, rfl, .refl _⟩
       · rw [List.getElem?_append_left (by omega)] at hz;simp only [if_neg e, if_neg e2, if_neg e3];exact ⟨by simp [e, e2], z, hz, .refl _⟩
 · have hli := (List.getElem?_eq_some_iff.1 hi).1;have hlj := (List.getElem?_eq_some_iff.1 hj).1;rw [List.nodup_iff_pairwise_ne, List.pairwise_map];refine List.Pairwise.imp_of_mem ?_ (List.pairwise_lt_range (n := O.length + 1));intro a b _ _ hab;by_cases a1 : a = i <;> by_cases b1 : b = i <;> by_cases a2 : a = j <;> by_cases b2 : b = j <;> by_cases a3 : a = O.length <;> by_cases b3 : b = O.length <;> simp_all <;> omega
theorem GCalls.keep1 {P : Program} {f : FuncId} {args args' : List GVal} {x : GObj} {r : GVal} (h : GCalls P f args [x] (fun g O' => ∃ x', O' = [x'] ∧ (g = r ∧ x' = x))) {O : List GObj} (i : Nat) (hO : O[i]? = some x) (ha : args.map (GVal.place i) = args') (hx : x.isClock = false) (hc : Qad O = none) :
 GCalls P f args' O (fun g O' => g = r ∧ O' = O) := by
 subst ha
 refine (GCalls.ownFrame h i hO hc (fun g x' q => by rw [q.2]; exact hx) hx).mono ?_
 rintro g O' ⟨x', rfl, rfl, rfl⟩
 refine ⟨rfl, ?_⟩
 apply List.ext_getElem (by simp)
 intro j h1 h2
 rw [List.getElem_set]
 split
 · rename_i e; subst e;rw [List.getElem?_eq_getElem h2] at hO;exact (Option.some.inj hO).symm
 · rfl
theorem Qck {O : List GObj} (h : Qad O = none) : tickO O = O := by
 cases O with
 | nil => rfl
 | cons x r => cases x <;> first | rfl | cases h
theorem QdQ {P : Program} {f : FuncId} (hen : Qa8 P f = true) (hcall : ∀ (b : Nat) (es : Array MapEntry) (clock : Nat) (w : World), w.heap[b]? = some (.map es clock) → Calls P f #[.map (some b)] w fun e w' => e = .returned (.map (some w.heap.size)) ∧ w' = w.alloc (.map es clock))
 {O : List GObj} {o st : Nat} {kv : List (GVal × GVal)} (hO : O[o]? = some (.map st kv)) (hc : Qad O = none) :
 GCalls P f [.map o st] O (fun g O' => ∃ st', g = .map O.length st' ∧ O' = O ++ [.map st' kv]) := by
 refine ⟨hen, fun E w vs hs ha => ?_⟩
 obtain ⟨hsz, hat⟩ := ha
 match vs, hsz with
 | ⟨[v]⟩, _ =>
  have hv := hat 0 _ rfl
  change VR E v (.map o st) at hv
  cases hv with
  | map r o st l hl hb =>
   obtain ⟨b, es, clock, e, hw, hes, hent, hloc, hsn, hbo⟩ := Qcl hs (VR.map r o st l hl hb) hO;cases e;refine (hcall r es clock w hw).mono ?_;rintro e w' ⟨rfl, rfl⟩;have hk : stamp O (fun _ => True) := by unfold stamp; rw [hc]; exact fun _ => trivial
   obtain ⟨t, _, ht, hnx, hs2, hkeep⟩ := hs.stamp hk;rw [Qck hc] at hnx hs2 hkeep;have hle := Env.addLoc_le ⟨some w.heap.size, 0, 0, 0⟩ ht;obtain ⟨h1, h2⟩ := hs2.objNew (.map es clock) (.map t kv) (l := ⟨some w.heap.size, 0, 0, 0⟩) ht hnx rfl trivial rfl
    ⟨_, w.heap.size, es, clock, Env.addLoc_self _ _ _, rfl, alloc_new _ _, by simpa using hes, fun i e p he hp => by
     have := hent i e p (by simpa using he) hp;exact ⟨this.1.mono hle, this.2.mono hle⟩, hbo, fun o => hs2.snap_new (Nat.le_refl _)⟩
    (by simp [GObj.blk, Env.addLoc_self])
   exact ⟨_, _, _, .map O.length t, rfl, h1, hkeep.trans h2, VR.map _ _ t _ (Env.addLoc_self _ _ _) rfl, t, rfl, rfl⟩
def Qna (v : GVal) (A B C : Prop) : Prop := match v with
 | .bool b => gif b A B
 | .lit (.tuple _) => C
 | _ => False
@[congr] theorem QpM {v v' : GVal} {A B C : Prop} (h : v = v') : Qna v A B C = Qna v' A B C := by subst h; rfl
def QpN (v : GVal) (A B : Prop) : Prop := match v with
 | .bool b => gif b A B
 | .ubool => A ∧ B
 | _ => False
@[congr] theorem cg_condV {v v' : GVal} {A B : Prop} (h : v = v') : QpN v A B = QpN v' A B := by subst h; rfl
theorem Qa5 (a b c d : Nat) (K : GVal → Prop) : nilV (.ptr a b c d) K = K (.ptr a b c d) := rfl
theorem Qa6 (cs : List GVal) (K : GVal → Prop) : nilV (.ref cs) K = K (.ref cs) := rfl
section
variable (P : Program) (R : List Nat) (Q : Ex → GSt → Prop) (st : GSt)
end
end Gv
namespace Gv
open Go
theorem vq1 {E P Q : Prop} (e : E) (q : Q) (h : E → Q → P := by intro e q; simp +contextual -implicitDefEqProofs (maxSteps := 2000000) (disch := omega) only [Qbz, Qct, QbU, ↓Qdm, ↓lenV, binV, ↓unV, ↓Qc2, optV, ↓QaH, ↓QaM, ↓Qag, ↓QbO, ↓Qac, ↓QbP, ↓QbQ, ↓boxV, ↓Qbt, ↓Qaf, ↓Qao, ↓Qa5, ↓Qa6, ↓QaO, ↓Qal, ↓srcV, ↓minV, QaG, Qaq, Qbe, Qdw, QbV, place, GVal.cells, grp, GVal.ofConst, ↓resV, resG, List.map, List.headD, List.take, List.drop, ↓reduceIte, Nat.reduceEqDiff, Nat.reduceAdd, Nat.reduceSub, Nat.reduceLeDiff, reduceCtorEq, implies_true, ne_eq, ↓QaY, ↓capV, ↓Qbd, ↓Qav, ↓QbC, ↓Qcj, ↓Qa4, keyOk, keyCells, Qg9, aggV, Tag.cap, List.replicate, QaE, GVal.solid, Nat.reduceBEq, Nat.reduceMul, Nat.reduceLT, List.length_map, List.length_range, splice, vcA, ↓vcB, vcC, vcD, fbFy, e]; exact q) : P := h e q
theorem vd1 {E P : Prop} (e : E) (h : E → P := by intro e; simp +contextual -implicitDefEqProofs (maxSteps := 2000000) (disch := omega) only [Qbz, Qct, QbU, ↓Qdm, ↓lenV, binV, ↓unV, ↓Qc2, optV, ↓QaH, ↓QaM, ↓Qag, ↓QbO, ↓Qac, ↓QbP, ↓QbQ, ↓boxV, ↓Qbt, ↓Qaf, ↓Qao, ↓Qa5, ↓Qa6, ↓QaO, ↓Qal, ↓srcV, ↓minV, QaG, Qaq, Qbe, Qdw, QbV, place, GVal.cells, grp, GVal.ofConst, ↓resV, resG, List.map, List.headD, List.take, List.drop, ↓reduceIte, Nat.reduceEqDiff, Nat.reduceAdd, Nat.reduceSub, Nat.reduceLeDiff, reduceCtorEq, implies_true, ne_eq, ↓QaY, ↓capV, ↓Qbd, ↓Qav, ↓QbC, ↓Qcj, ↓Qa4, keyOk, keyCells, Qg9, aggV, Tag.cap, List.replicate, QaE, GVal.solid, Nat.reduceBEq, Nat.reduceMul, Nat.reduceLT, List.length_map, List.length_range, splice, vcA, ↓vcB, vcC, vcD, fbFy, e]) : P := h e
theorem vqd {E F P Q : Prop} (e : E) (f : F) (q : Q) (h : E → F → Q → P := by intro e f q; simp +contextual -implicitDefEqProofs (maxSteps := 2000000) (disch := omega) only [Qbz, Qct, QbU, ↓Qdm, ↓lenV, binV, ↓unV, ↓Qc2, optV, ↓QaH, ↓QaM, ↓Qag, ↓QbO, ↓Qac, ↓QbP, ↓QbQ, ↓boxV, ↓Qbt, ↓Qaf, ↓Qao, ↓Qa5, ↓Qa6, ↓QaO, ↓Qal, ↓srcV, ↓minV, QaG, Qaq, Qbe, Qdw, QbV, place, GVal.cells, grp, GVal.ofConst, ↓resV, resG, List.map, List.headD, List.take, List.drop, ↓reduceIte, Nat.reduceEqDiff, Nat.reduceAdd, Nat.reduceSub, Nat.reduceLeDiff, reduceCtorEq, implies_true, ne_eq, ↓QaY, ↓capV, ↓Qbd, ↓Qav, ↓QbC, ↓Qcj, ↓Qa4, keyOk, keyCells, Qg9, aggV, Tag.cap, List.replicate, QaE, GVal.solid, Nat.reduceBEq, Nat.reduceMul, Nat.reduceLT, List.length_map, List.length_range, splice, vcA, ↓vcB, vcC, vcD, fbFy, e, ↓f]; exact q) : P := h e f q
theorem vdd {E F P : Prop} (e : E) (f : F) (h : E → F → P := by intro e f; simp +contextual -implicitDefEqProofs (maxSteps := 2000000) (disch := omega) only [Qbz, Qct, QbU, ↓Qdm, ↓lenV, binV, ↓unV, ↓Qc2, optV, ↓QaH, ↓QaM, ↓Qag, ↓QbO, ↓Qac, ↓QbP, ↓QbQ, ↓boxV, ↓Qbt, ↓Qaf, ↓Qao, ↓Qa5, ↓Qa6, ↓QaO, ↓Qal, ↓srcV, ↓minV, QaG, Qaq, Qbe, Qdw, QbV, place, GVal.cells, grp, GVal.ofConst, ↓resV, resG, List.map, List.headD, List.take, List.drop, ↓reduceIte, Nat.reduceEqDiff, Nat.reduceAdd, Nat.reduceSub, Nat.reduceLeDiff, reduceCtorEq, implies_true, ne_eq, ↓QaY, ↓capV, ↓Qbd, ↓Qav, ↓QbC, ↓Qcj, ↓Qa4, keyOk, keyCells, Qg9, aggV, Tag.cap, List.replicate, QaE, GVal.solid, Nat.reduceBEq, Nat.reduceMul, Nat.reduceLT, List.length_map, List.length_range, splice, vcA, ↓vcB, vcC, vcD, fbFy, e, ↓f]) : P := h e f
theorem vq0 {P Q : Prop} (q : Q) (h : Q → P := by intro q; exact vq1 trivial q) : P := h q
theorem vd0 {P : Prop} (h : P := by exact vd1 trivial) : P := h
theorem vq2 {A B P Q : Prop} (a : A) (b : B) (q : Q) (h : A → B → Q → P := by intro a b q; exact vq1 (ai @a <| @b) q) : P := h a b q
theorem vd2 {A B P : Prop} (a : A) (b : B) (h : A → B → P := by intro a b; exact vd1 (ai @a <| @b)) : P := h a b
theorem vq3 {A B C P Q : Prop} (a : A) (b : B) (c : C) (q : Q) (h : A → B → C → Q → P := by intro a b c q; exact vq1 (ai @a <| ai @b <| @c) q) : P := h a b c q
theorem vd3 {A B C P : Prop} (a : A) (b : B) (c : C) (h : A → B → C → P := by intro a b c; exact vd1 (ai @a <| ai @b <| @c)) : P := h a b c
theorem vq4 {A B C D P Q : Prop} (a : A) (b : B) (c : C) (d : D) (q : Q) (h : A → B → C → D → Q → P := by intro a b c d q; exact vq1 (ai @a <| ai @b <| ai @c <| @d) q) : P := h a b c d q
theorem vd4 {A B C D P : Prop} (a : A) (b : B) (c : C) (d : D) (h : A → B → C → D → P := by intro a b c d; exact vd1 (ai @a <| ai @b <| ai @c <| @d)) : P := h a b c d
theorem vq5 {A B C D E P Q : Prop} (a : A) (b : B) (c : C) (d : D) (e : E) (q : Q) (h : A → B → C → D → E → Q → P := by intro a b c d e q; exact vq1 (ai @a <| ai @b <| ai @c <| ai @d <| @e) q) : P := h a b c d e q
theorem vd5 {A B C D E P : Prop} (a : A) (b : B) (c : C) (d : D) (e : E) (h : A → B → C → D → E → P := by intro a b c d e; exact vd1 (ai @a <| ai @b <| ai @c <| ai @d <| @e)) : P := h a b c d e
theorem vq6 {A B C D E F P Q : Prop} (a : A) (b : B) (c : C) (d : D) (e : E) (f : F) (q : Q) (h : A → B → C → D → E → F → Q → P := by intro a b c d e f q; exact vq1 (ai @a <| ai @b <| ai @c <| ai @d <| ai @e <| @f) q) : P := h a b c d e f q
theorem vd6 {A B C D E F P : Prop} (a : A) (b : B) (c : C) (d : D) (e : E) (f : F) (h : A → B → C → D → E → F → P := by intro a b c d e f; exact vd1 (ai @a <| ai @b <| ai @c <| ai @d <| ai @e <| @f)) : P := h a b c d e f
theorem vq7 {A B C D E F G P Q : Prop} (a : A) (b : B) (c : C) (d : D) (e : E) (f : F) (g : G) (q : Q) (h : A → B → C → D → E → F → G → Q → P := by intro a b c d e f g q; exact vq1 (ai @a <| ai @b <| ai @c <| ai @d <| ai @e <| ai @f <| @g) q) : P := h a b c d e f g q
theorem vd7 {A B C D E F G P : Prop} (a : A) (b : B) (c : C) (d : D) (e : E) (f : F) (g : G) (h : A → B → C → D → E → F → G → P := by intro a b c d e f g; exact vd1 (ai @a <| ai @b <| ai @c <| ai @d <| ai @e <| ai @f <| @g)) : P := h a b c d e f g
theorem vq8 {A B C D E F G H P Q : Prop} (a : A) (b : B) (c : C) (d : D) (e : E) (f : F) (g : G) (i : H) (q : Q) (h : A → B → C → D → E → F → G → H → Q → P := by intro a b c d e f g i q; exact vq1 (ai @a <| ai @b <| ai @c <| ai @d <| ai @e <| ai @f <| ai @g <| @i) q) : P := h a b c d e f g i q
theorem vd8 {A B C D E F G H P : Prop} (a : A) (b : B) (c : C) (d : D) (e : E) (f : F) (g : G) (i : H) (h : A → B → C → D → E → F → G → H → P := by intro a b c d e f g i; exact vd1 (ai @a <| ai @b <| ai @c <| ai @d <| ai @e <| ai @f <| ai @g <| @i)) : P := h a b c d e f g i
theorem vq9 {A B C D E F G H I P Q : Prop} (a : A) (b : B) (c : C) (d : D) (e : E) (f : F) (g : G) (i : H) (j : I) (q : Q) (h : A → B → C → D → E → F → G → H → I → Q → P := by intro a b c d e f g i j q; exact vq1 (ai @a <| ai @b <| ai @c <| ai @d <| ai @e <| ai @f <| ai @g <| ai @i <| @j) q) : P := h a b c d e f g i j q
theorem vd9 {A B C D E F G H I P : Prop} (a : A) (b : B) (c : C) (d : D) (e : E) (f : F) (g : G) (i : H) (j : I) (h : A → B → C → D → E → F → G → H → I → P := by intro a b c d e f g i j; exact vd1 (ai @a <| ai @b <| ai @c <| ai @d <| ai @e <| ai @f <| ai @g <| ai @i <| @j)) : P := h a b c d e f g i j
theorem vq10 {A B C D E F G H I J P Q : Prop} (a : A) (b : B) (c : C) (d : D) (e : E) (f : F) (g : G) (i : H) (j : I) (k : J) (q : Q) (h : A → B → C → D → E → F → G → H → I → J → Q → P := by intro a b c d e f g i j k q; exact vq1 (ai @a <| ai @b <| ai @c <| ai @d <| ai @e <| ai @f <| ai @g <| ai @i <| ai @j <| @k) q) : P := h a b c d e f g i j k q
theorem vd10 {A B C D E F G H I J P : Prop} (a : A) (b : B) (c : C) (d : D) (e : E) (f : F) (g : G) (i : H) (j : I) (k : J) (h : A → B → C → D → E → F → G → H → I → J → P := by intro a b c d e f g i j k; exact vd1 (ai @a <| ai @b <| ai @c <| ai @d <| ai @e <| ai @f <| ai @g <| ai @i <| ai @j <| @k)) : P := h a b c d e f g i j k
theorem FnS.ca {P : Program} {f : FuncId} {C : Cfg} {n : Nat} {rs : List ResultVar} {s : Qbc} {Q : Prop} (h : FnS P f C n rs s) {args : List GVal} {O : List GObj} {K : GVal → List GObj → Prop} (q : Q) (hm : P.follows .mixedOrders = true := by exact mixS) (ha : args.length ≤ n := by simp) (hk : Q → vcS P C.ro s (retQ P rs K) (gstart n args O) := by intro q; simp only [gs0, Nat.reduceAdd, Nat.reduceSub]; exact q) : GCalls P f args O K := h.calls hm ha (hk q)
theorem FnS.pa {P : Program} {f : FuncId} {C : Cfg} {n : Nat} {rs : List ResultVar} {s : Qbc} {Q : Prop} (h : FnS P f C n rs s) {args : List GVal} {r : GVal} (q : Q) (hm : P.follows .mixedOrders = true := by exact mixS) (ha : args.length ≤ n := by simp) (hk : Q → vcS P C.ro s (retQ P rs (fun g O' => leA g r)) (gstart n args []) := by intro q; simp only [gs0, Nat.reduceAdd, Nat.reduceSub]; exact q) : GPure P f args r := h.pure hm ha (hk q)
theorem FnS.pf {P : Program} {f : FuncId} {C : Cfg} {n : Nat} {rs : List ResultVar} {s : Qbc} {Q : Prop} (h : FnS P f C n rs s) {args : List GVal} {r : GVal} (q : Q) (hm : P.follows .mixedOrders = true := by exact mixS) (ha : args.length ≤ n := by simp) (hk : Q → vcS P C.ro s (retQ P rs (Qlo r)) (gstart n args []) := by intro q; simp only [gs0, Nat.reduceAdd, Nat.reduceSub]; exact q) : GPure P f args r := h.pureF hm ha (hk q)
end Gv
