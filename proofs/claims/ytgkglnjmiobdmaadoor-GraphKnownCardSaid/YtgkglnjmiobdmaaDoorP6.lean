/- A call that is handed one object of the caller's: wherever it lies among the caller's objects, the others stay as they are. -/
import Derived.Test.YtgkglnjmiobdmaaDoorP5
import Derived.Below
import Derived.Maps.Range
import Derived.Sort.MapsRangeIn
import Derived.RangeFuncGives
import Derived.OpenShut
import Derived.ChangeArms
import Derived.Carry
import Derived.Shelf.SlIter.Collect
import Derived.Deep.RegionWith
import Derived.Test.YtgkglnjmiobdmaaDoorProg
import Derived.KernelRfl
set_option linter.unusedVariables false
namespace Gv
open Go
def GVal.place (i : Nat) : GVal → GVal
  | .ptr _ st a b => .ptr i st a b
  | .own _ st a b => .own i st a b
  | .map _ st => .map i st
  | g => g
theorem VR.place {E : Env} {v : Value} {g : GVal} (i : Nat) (h : VR E v (g.place i)) : VR E v g := by
  cases g with
  | ptr o st a b => cases h; exact .ptr _ _ _ _ _ _ _ (by assumption) (by assumption) (by assumption)
  | own o st a b => cases h; exact .own _ _ _ _ _ _ _ (by assumption) (by assumption) (by assumption)
  | map o st => cases h; exact .map _ _ _ _ (by assumption) (by assumption)
  | _ => exact h
theorem HSim.only {E : Env} {O : List GObj} {w : World} (h : HSim E O w) {i : Nat} {x : GObj} (hx : O[i]? = some x) (hc : x.isClock = false) : HSim E [x] w := by
  refine ⟨?_, h.sealed, h.one, fun k y hy => ?_, fun a b oa ob bb hab ha hb => ?_, h.glob⟩
  · obtain ⟨n, _, h2⟩ := h.fin
    refine ⟨n, fun c hc' => ?_, h2⟩
    cases x <;> simp [clockOf, GObj.isClock] at hc' hc
  · match k with
    | 0 => simp at hy; subst hy; exact h.real i x hx
    | k + 1 => simp at hy
  · match a, b with
    | 0, 0 => exact absurd rfl hab
    | a + 1, _ => simp at ha
    | 0, b + 1 => simp at hb
theorem GCalls.ownFrame {P : Program} {f : FuncId} {args : List GVal} {x : GObj} {R : GVal → GObj → Prop} (h : GCalls P f args [x] (fun g O' => ∃ x', O' = [x'] ∧ R g x')) {O : List GObj} (i : Nat) (hO : O[i]? = some x) (hc : clockOf O = none) (hcl : ∀ g x', R g x' → x'.isClock = false) (hx : x.isClock = false) :
    GCalls P f (args.map (GVal.place i)) O (fun g O' => ∃ x', O' = O.set i x' ∧ R g x') := by
  have hlt : i < O.length := (List.getElem?_eq_some_iff.1 hO).1
  refine ⟨h.1, fun E w vs hs ha => ?_⟩
  have ha' : ArgsR E vs args := ⟨by simpa using ha.1, fun k g hg => VR.place i (ha.2 k _ (by simp [hg]))⟩
  refine (h.2 E w vs (hs.only hO hx) ha').mono ?_
  rintro e w' ⟨v, E', O', g, rfl, h1, h2, h3, x', rfl, hR⟩
  have inX : ∀ b, InO E [x] b ↔ x.blk E = some b := fun b => ⟨fun ⟨k, y, hy, hb⟩ => by
    match k with
    | 0 => simp at hy; subst hy; exact hb
    | k + 1 => simp at hy, fun hb => ⟨0, x, rfl, hb⟩⟩
  have inX' : ∀ b, x'.blk E' = some b → x.blk E = some b ∨ w.heap.size ≤ b := fun b hb => by
    rcases h2.objs b ⟨0, x', rfl, hb⟩ with q | q
    · exact .inl ((inX b).1 q)
    · exact .inr q
  have get : ∀ (k : Nat) y, (O.set i x')[k]? = some y → (k = i ∧ y = x') ∨ (k ≠ i ∧ O[k]? = some y) := by
    intro k y hy
    rw [List.getElem?_set] at hy
    by_cases e : i = k
    · rw [if_pos e, if_pos hlt] at hy
      simp only [Option.some.injEq] at hy; exact .inl ⟨e.symm, hy.symm⟩
    · rw [if_neg e] at hy; exact .inr ⟨fun q => e q.symm, hy⟩
  have far : ∀ (k : Nat) y b, k ≠ i → O[k]? = some y → y.blk E = some b → ¬ InO E [x] b := fun k y b hk hy hb hin => hs.sep k i y x b hk hy hO hb ((inX b).1 hin)
  have hold : ∀ (k : Nat) y, k ≠ i → O[k]? = some y → Realized E' w' y ∧ y.blk E' = y.blk E := fun k y hk hy =>
    ⟨(hs.real k y hy).keep h2.ext (fun b hb => h2.heap b ((hs.real k y hy).blk_lt hb) (far k y b hk hy hb)) (fun b o v hb hv => by
      rcases h2.snap b o v hv with q | q | q
      · exact q
      · exact absurd ((hs.real k y hy).blk_lt hb) (by omega)
      · exact absurd q (far k y b hk hy hb)), GObj.blk_mono h2.ext (hs.real k y hy)⟩
  have hclk : clockOf (O.set i x') = none := by
    have := clockOf_set (obj' := x') hO hx (hcl _ _ hR)
    rw [this, hc]
  have hx'r : Realized E' w' x' := h1.real 0 x' rfl
  refine ⟨v, E', O.set i x', g, rfl, ⟨?_, h1.sealed, h1.one, fun k y hy => ?_, fun a b oa ob bb hab ha1 hb1 q1 q2 => ?_, h1.glob⟩, ⟨h2.ext, h2.os, h2.out, h2.size, fun b hb hn => h2.heap b hb fun hin => hn ⟨i, x, hO, (inX b).1 hin⟩, fun b o v hv => ?_, fun b hb => ?_, trivial⟩, h3, x', rfl, hR⟩
  · obtain ⟨n, _, q⟩ := h1.fin
    exact ⟨n, fun c hc' => (by rw [hclk] at hc'; cases hc'), q⟩
  · rcases get k y hy with ⟨rfl, rfl⟩ | ⟨hk, hy⟩
    · exact hx'r
    · exact (hold k y hk hy).1
  · rcases get a oa ha1 with ⟨rfl, rfl⟩ | ⟨hka, hya⟩ <;> rcases get b ob hb1 with ⟨rfl, rfl⟩ | ⟨hkb, hyb⟩
    · exact hab rfl
    · rw [(hold b ob hkb hyb).2] at q2
      rcases inX' bb q1 with e | e
      · exact hs.sep b a ob x bb hkb hyb hO q2 e
      · exact absurd ((hs.real b ob hyb).blk_lt q2) (by omega)
    · rw [(hold a oa hka hya).2] at q1
      rcases inX' bb q2 with e | e
      · exact hs.sep a b oa x bb hka hya hO q1 e
      · exact absurd ((hs.real a oa hya).blk_lt q1) (by omega)
    · rw [(hold a oa hka hya).2] at q1
      rw [(hold b ob hkb hyb).2] at q2
      exact hs.sep a b oa ob bb hab hya hyb q1 q2
  · rcases h2.snap b o v hv with q | q | q
    · exact .inl q
    · exact .inr (.inl q)
    · exact .inr (.inr ⟨i, x, hO, (inX b).1 q⟩)
  · obtain ⟨k, y, hy, hb⟩ := hb
    rcases get k y hy with ⟨rfl, rfl⟩ | ⟨hk, hy⟩
    · rcases inX' b hb with e | e
      · exact .inl ⟨_, x, hO, e⟩
      · exact .inr e
    · exact .inl ⟨k, y, hy, by rw [← (hold k y hk hy).2]; exact hb⟩
def dropTo (K : GVal → List GObj → Prop) (g : GVal) (O' : List GObj) : Prop := ∃ g' O1 X, O' = O1 ++ X ∧ leA g g' ∧ K g' O1
theorem GCalls.dropTo {P : Program} {f : FuncId} {args : List GVal} {O : List GObj} {K : GVal → List GObj → Prop} (h : GCalls P f args O (dropTo K)) : GCalls P f args O K :=
  (h.mono fun g O' ⟨g', O1, X, e, hl, hk⟩ => by
    subst e
    exact fun E v w hs hv => by
      obtain ⟨h1, h2⟩ := hs.drop
      exact ⟨g', O1, E, hk, h1, h2, hl.sound hv⟩ : GCalls P f args O (fun g O' => GInto g O' K)).into
end Gv
/- A call that is handed some of the caller's objects, wherever they lie: the others stay as they are; what it leaves behind may be forgotten. -/
set_option linter.unusedVariables false
namespace Gv
open Go
structure OLe (x y : GObj) : Prop where
  real : ∀ E w, Realized E w x → Realized E w y
  blk : ∀ E, y.blk E = x.blk E
  clk : y.isClock = x.isClock
theorem OLe.refl (x : GObj) : OLe x x := ⟨fun _ _ h => h, fun _ => rfl, rfl⟩
theorem OLe.row {st sz : Nat} {xs ys : List (List GVal)} (h : GLess xs ys) : OLe (.row st sz xs) (.row st sz ys) := by
  obtain ⟨h1, h2, h3⟩ := h.flat
  refine ⟨fun E w hr => ?_, fun E => rfl, rfl⟩
  obtain ⟨l, hl, hz, hx, hb⟩ := hr
  refine ⟨l, hl, hz, h3 sz hx, ?_⟩
  cases hbl : l.block with
  | none => simp only [hbl] at hb; subst hb; exact List.length_eq_zero_iff.1 (by rw [← h2]; rfl)
  | some b =>
    simp only [hbl] at hb ⊢
    obtain ⟨cur, el, a1, a2, a3, a4, a5⟩ := hb
    refine ⟨cur, el, a1, a2, by rw [← h2]; exact a3, fun j g hj => ?_, a5⟩
    obtain ⟨g0, hg0, hle⟩ := h1.at_ j g hj
    obtain ⟨v, q1, q2, q3⟩ := a4 j g0 hg0
    exact ⟨v, q1, q2, hle _ _ q3⟩
theorem GLe.place (i : Nat) (g : GVal) : GLe g (g.place i) := fun E v h => by
  cases g with
  | ptr o st a b => cases h; exact .ptr _ _ _ _ _ _ _ (by assumption) (by assumption) (by assumption)
  | own o st a b => cases h; exact .own _ _ _ _ _ _ _ (by assumption) (by assumption) (by assumption)
  | map o st => cases h; exact .map _ _ _ _ (by assumption) (by assumption)
  | _ => exact h
theorem GLe.ptr (o o' st i j : Nat) : GLe (.ptr o st i j) (.ptr o' st i j) := GLe.place o' (.ptr o st i j)
theorem GLe.map (o o' st : Nat) : GLe (.map o st) (.map o' st) := GLe.place o' (.map o st)
theorem GLe.own (o o' st i j : Nat) : GLe (.own o st i j) (.own o' st i j) := GLe.place o' (.own o st i j)
def Comes (O : List GObj) (pl : List Nat) (O' : List GObj) : List (Bool × Nat) → List GObj → Prop
  | [], [] => True
  | (true, j) :: s, z :: r => (j ∉ pl ∧ ∃ y, O[j]? = some y ∧ OLe y z) ∧ Comes O pl O' s r
  | (false, j) :: s, z :: r => (∃ y, O'[j]? = some y ∧ OLe y z) ∧ Comes O pl O' s r
  | _, _ => False
theorem Comes.at_ {O O' : List GObj} {pl : List Nat} : ∀ {s : List (Bool × Nat)} {r : List GObj}, Comes O pl O' s r → ∀ (k : Nat) z, r[k]? = some z →
    (∃ j, s[k]? = some (true, j) ∧ j ∉ pl ∧ ∃ y, O[j]? = some y ∧ OLe y z) ∨ (∃ j, s[k]? = some (false, j) ∧ ∃ y, O'[j]? = some y ∧ OLe y z)
  | [], [], _, k, z, hz => by simp at hz
  | (true, j) :: s, z :: r, h, 0, y, hy => by simp at hy; subst hy; exact .inl ⟨j, rfl, h.1⟩
  | (false, j) :: s, z :: r, h, 0, y, hy => by simp at hy; subst hy; exact .inr ⟨j, rfl, h.1⟩
  | (true, j) :: s, z :: r, h, k + 1, y, hy => by
    have := Comes.at_ h.2 k y (by simpa using hy)
    simpa using this
  | (false, j) :: s, z :: r, h, k + 1, y, hy => by
    have := Comes.at_ h.2 k y (by simpa using hy)
    simpa using this
  | [], _ :: _, h, _, _, _ => h.elim
  | (true, _) :: _, [], h, _, _, _ => h.elim
  | (false, _) :: _, [], h, _, _, _ => h.elim
def Fits (O : List GObj) : List Nat → List GObj → Prop
  | [], [] => True
  | j :: pl, x :: r => (∃ y, O[j]? = some y ∧ OLe y x) ∧ Fits O pl r
  | _, _ => False
theorem Fits.at_ {O : List GObj} : ∀ {pl : List Nat} {X : List GObj}, Fits O pl X → ∀ (i : Nat) x, X[i]? = some x → ∃ j y, pl[i]? = some j ∧ O[j]? = some y ∧ OLe y x
  | [], [], _, i, x, h => by simp at h
  | j :: pl, x :: r, h, 0, y, hy => by simp at hy; subst hy; obtain ⟨y, h1, h2⟩ := h.1; exact ⟨j, y, rfl, h1, h2⟩
  | j :: pl, x :: r, h, i + 1, y, hy => by simpa using Fits.at_ h.2 i y (by simpa using hy)
  | [], _ :: _, h, _, _, _ => h.elim
  | _ :: _, [], h, _, _, _ => h.elim
theorem GCalls.frame {P : Program} {f : FuncId} {args args' : List GVal} {X O : List GObj} {K K' : GVal → List GObj → Prop} (h : GCalls P f args X K) (pl : List Nat) (hX : Fits O pl X) (hnd : pl.Nodup) (ha : GLes args' args) (hcX : clockOf X = none) (hc : clockOf O = none)
    (hK : ∀ g O', K g O' → ∃ g' O'' s, K' g' O'' ∧ GLe g g' ∧ Comes O pl O' s O'' ∧ s.Nodup ∧ clockOf O'' = none) : GCalls P f args' O K' := by
  refine ⟨h.1, fun E w vs hs hv => ?_⟩
  have hsX : HSim E X w := by
    refine ⟨by obtain ⟨n, _, q⟩ := hs.fin; exact ⟨n, fun c e => (by rw [hcX] at e; cases e), q⟩, hs.sealed, hs.one, fun i x hx => ?_, fun i j oi oj b hij hi hj hbi hbj => ?_, hs.glob⟩
    · obtain ⟨j, y, h1, h2, h3⟩ := hX.at_ i x hx
      exact h3.real _ _ (hs.real j y h2)
    · obtain ⟨i', yi, p1, p2, p3⟩ := hX.at_ i oi hi
      obtain ⟨j', yj, q1, q2, q3⟩ := hX.at_ j oj hj
      have hne : i' ≠ j' := fun e => by
        subst e
        have hil := (List.getElem?_eq_some_iff.1 p1)
        have hjl := (List.getElem?_eq_some_iff.1 q1)
        obtain ⟨a1, a2⟩ := hil
        obtain ⟨b1, b2⟩ := hjl
        exact hij ((List.getElem_inj hnd).1 (a2.trans b2.symm))
      rw [p3.blk] at hbi
      rw [q3.blk] at hbj
      exact hs.sep i' j' yi yj b hne p2 q2 hbi hbj
  have hv' : ArgsR E vs args := ⟨by rw [hv.1, ha.len], fun k g hg => by
    obtain ⟨x, hx, hle⟩ := ha.at_ k g hg
    exact hle _ _ (hv.2 k x hx)⟩
  refine (h.2 E w vs hsX hv').mono ?_
  rintro e w' ⟨v, E', O', g, rfl, h1, h2, h3, hk⟩
  obtain ⟨g', O'', s, hK', hg, hcm, hsn, hcl⟩ := hK g O' hk
  have inX : ∀ b, InO E X b → InO E O b := fun b ⟨i, x, hx, hb⟩ => by
    obtain ⟨j, y, _, hy, hle⟩ := hX.at_ i x hx
    exact ⟨j, y, hy, by rw [← hle.blk]; exact hb⟩
  have far : ∀ (j : Nat) y b, j ∉ pl → O[j]? = some y → y.blk E = some b → ¬ InO E X b := fun j y b hj hy hb ⟨i, x, hx, hxb⟩ => by
    obtain ⟨j', y', p1, p2, p3⟩ := hX.at_ i x hx
    have hne : j ≠ j' := fun e => hj (by rw [e]; exact List.mem_of_getElem? p1)
    rw [p3.blk] at hxb
    exact hs.sep j j' y y' b hne hy p2 hb hxb
  have hold : ∀ (j : Nat) y, j ∉ pl → O[j]? = some y → Realized E' w' y ∧ y.blk E' = y.blk E := fun j y hj hy =>
    ⟨(hs.real j y hy).keep h2.ext (fun b hb => h2.heap b ((hs.real j y hy).blk_lt hb) (far j y b hj hy hb)) (fun b o v hb hv => by
      rcases h2.snap b o v hv with q | q | q
      · exact q
      · exact absurd ((hs.real j y hy).blk_lt hb) (by omega)
      · exact absurd q (far j y b hj hy hb)), GObj.blk_mono h2.ext (hs.real j y hy)⟩
  have hnew : ∀ (j : Nat) y b, O'[j]? = some y → y.blk E' = some b → InO E X b ∨ w.heap.size ≤ b := fun j y b hy hb => h2.objs b ⟨j, y, hy, hb⟩
  refine ⟨v, E', O'', g', rfl, ⟨?_, h1.sealed, h1.one, fun k z hz => ?_, fun a b oa ob bb hab ha1 hb1 q1 q2 => ?_, h1.glob⟩, ⟨h2.ext, h2.os, h2.out, h2.size, fun b hb hn => h2.heap b hb fun hin => hn (inX b hin), fun b o v hv => ?_, fun b hb => ?_, trivial⟩, hg _ _ h3, hK'⟩
  · obtain ⟨n, _, q⟩ := h1.fin
    exact ⟨n, fun c hc' => (by rw [hcl] at hc'; cases hc'), q⟩
  · rcases hcm.at_ k z hz with ⟨j, _, hj, y, hy, hle⟩ | ⟨j, _, y, hy, hle⟩
    · exact hle.real _ _ (hold j y hj hy).1
    · exact hle.real _ _ (h1.real j y hy)
  · have uniq : ∀ (x : Bool × Nat), s[a]? = some x → s[b]? = some x → False := fun x ea eb => by
      obtain ⟨a1, a2⟩ := List.getElem?_eq_some_iff.1 ea
      obtain ⟨b1, b2⟩ := List.getElem?_eq_some_iff.1 eb
      exact hab ((List.getElem_inj hsn).1 (a2.trans b2.symm))
    rcases hcm.at_ a oa ha1 with ⟨ja, sa, ka, ya, hya, la⟩ | ⟨ja, sa, ya, hya, la⟩ <;> rcases hcm.at_ b ob hb1 with ⟨jb, sb, kb, yb, hyb, lb⟩ | ⟨jb, sb, yb, hyb, lb⟩
    · rw [la.blk, (hold ja ya ka hya).2] at q1
      rw [lb.blk, (hold jb yb kb hyb).2] at q2
      exact hs.sep ja jb ya yb bb (fun e => uniq (true, ja) sa (by rw [e]; exact sb)) hya hyb q1 q2
    · rw [la.blk, (hold ja ya ka hya).2] at q1
      rw [lb.blk] at q2
      rcases hnew jb yb bb hyb q2 with e | e
      · exact far ja ya bb ka hya q1 e
      · exact absurd ((hs.real ja ya hya).blk_lt q1) (by omega)
    · rw [la.blk] at q1
      rw [lb.blk, (hold jb yb kb hyb).2] at q2
      rcases hnew ja ya bb hya q1 with e | e
      · exact far jb yb bb kb hyb q2 e
      · exact absurd ((hs.real jb yb hyb).blk_lt q2) (by omega)
    · rw [la.blk] at q1
      rw [lb.blk] at q2
      exact h1.sep ja jb ya yb bb (fun e => uniq (false, ja) sa (by rw [e]; exact sb)) hya hyb q1 q2
  · rcases h2.snap b o v hv with q | q | q
    · exact .inl q
    · exact .inr (.inl q)
    · exact .inr (.inr (inX b q))
  · obtain ⟨k, z, hz, hb⟩ := hb
    rcases hcm.at_ k z hz with ⟨j, _, hj, y, hy, hle⟩ | ⟨j, _, y, hy, hle⟩
    · rw [hle.blk, (hold j y hj hy).2] at hb
      exact .inl ⟨j, y, hy, hb⟩
    · rw [hle.blk] at hb
      rcases hnew j y b hy hb with e | e
      · exact .inl (inX b e)
      · exact .inr e
def GObj.place (j : Nat) : GObj → GObj
  | .row st sz xs => .row st sz (xs.map fun c => c.map (GVal.place j))
  | o => o
theorem GLes.place (j : Nat) : ∀ c : List GVal, GLes c (c.map (GVal.place j))
  | [] => trivial
  | x :: r => ⟨GLe.place j x, GLes.place j r⟩
theorem GLess.place (j : Nat) : ∀ xs : List (List GVal), GLess xs (xs.map fun c => c.map (GVal.place j))
  | [] => trivial
  | x :: r => ⟨GLes.place j x, GLess.place j r⟩
theorem OLe.place (j : Nat) (x : GObj) : OLe x (x.place j) := by
  cases x with
  | row st sz xs => exact OLe.row (GLess.place j xs)
  | _ => exact .refl _
theorem Comes.of {O O' : List GObj} {pl : List Nat} : ∀ {s : List (Bool × Nat)} {r : List GObj}, s.length = r.length → (∀ (k : Nat) z x, r[k]? = some z → s[k]? = some x → match x with
    | (true, j) => j ∉ pl ∧ ∃ y, O[j]? = some y ∧ OLe y z
    | (false, j) => ∃ y, O'[j]? = some y ∧ OLe y z) → Comes O pl O' s r
  | [], [], _, _ => trivial
  | (true, j) :: s, z :: r, hl, h => ⟨h 0 z (true, j) rfl rfl, Comes.of (by simpa using hl) fun k z x hz hx => h (k + 1) z x (by simpa using hz) (by simpa using hx)⟩
  | (false, j) :: s, z :: r, hl, h => ⟨h 0 z (false, j) rfl rfl, Comes.of (by simpa using hl) fun k z x hz hx => h (k + 1) z x (by simpa using hz) (by simpa using hx)⟩
  | [], _ :: _, hl, _ => by simp at hl
  | _ :: _, [], hl, _ => by simp at hl
theorem GCalls.on2 {P : Program} {f : FuncId} {args args' : List GVal} {x y : GObj} {R : GVal → GObj → GObj → Prop} (h : GCalls P f args [x, y] (fun g O' => ∃ x' y', O' = [x', y'] ∧ R g x' y')) {O : List GObj} (i j : Nat) (hij : i ≠ j) {xi : GObj} (hi : O[i]? = some xi) (hj : O[j]? = some y)
    (ex : OLe xi x) (ha : GLes args' args) (hcx : x.isClock = false) (hcy : y.isClock = false) (hR : ∀ g x' y', R g x' y' → x'.isClock = false ∧ y'.isClock = false) (hc : clockOf O = none) :
    GCalls P f args' O (fun g O'' => ∃ x' y', R g x' y' ∧ O'' = (O.set i (x'.place j)).set j y') := by
  have hli := (List.getElem?_eq_some_iff.1 hi).1
  have hlj := (List.getElem?_eq_some_iff.1 hj).1
  refine GCalls.frame h [i, j] ⟨⟨xi, hi, ex⟩, ⟨y, hj, .refl _⟩, trivial⟩ (by simp [hij]) ha (by cases x <;> first | rfl | cases hcx) hc ?_
  rintro g O' ⟨x', y', rfl, hr⟩
  obtain ⟨c1, c2⟩ := hR g x' y' hr
  have cp : (x'.place j).isClock = false := by rw [(OLe.place j x').clk, c1]
  have hxc : xi.isClock = false := by rw [← ex.clk, hcx]
  refine ⟨g, (O.set i (x'.place j)).set j y', (List.range O.length).map (fun k => if k = i then (false, 0) else if k = j then (false, 1) else (true, k)), ⟨x', y', hr, rfl⟩, GLe.refl g, Comes.of (by simp) fun k z s hz hs => ?_, ?_, ?_⟩
  · have hk : k < O.length := by have := (List.getElem?_eq_some_iff.1 hz).1; simpa using this
    simp only [List.getElem?_map, List.getElem?_range hk, Option.map_some, Option.some.injEq] at hs
    subst hs
    rw [List.getElem?_set, List.getElem?_set] at hz
    by_cases e : k = i
    · subst e
      rw [if_neg (fun q => hij q.symm), if_pos rfl, if_pos hli] at hz
      cases hz
      simp only [if_pos]
      exact ⟨x', rfl, OLe.place j x'⟩
    · by_cases e2 : k = j
      · subst e2
        rw [if_pos rfl, if_pos (by simpa using hlj)] at hz
        cases hz
        simp only [if_neg e, if_pos]
        exact ⟨y', rfl, .refl _⟩
      · rw [if_neg (fun q => e2 q.symm), if_neg (fun q => e q.symm)] at hz
        simp only [if_neg e, if_neg e2]
        exact ⟨by simp [e, e2], z, hz, .refl _⟩
  · rw [List.nodup_iff_pairwise_ne, List.pairwise_map]
    refine List.Pairwise.imp_of_mem ?_ (List.pairwise_lt_range (n := O.length))
    intro a b _ _ hab
    split <;> rename_i e1 <;> split <;> rename_i e2 <;> (try split) <;> (try split) <;> simp_all <;> omega
  · have h1 := clockOf_set (obj' := x'.place j) hi hxc cp
    have h2 : (O.set i (x'.place j))[j]? = some y := by rw [List.getElem?_set, if_neg hij]; exact hj
    rw [clockOf_set (obj' := y') h2 hcy c2, h1, hc]
theorem GCalls.keep2 {P : Program} {f : FuncId} {args : List GVal} {a b : GObj} {r : GVal} (h : GCalls P f args [a, b] (fun g O' => g = r ∧ O' = [a, b])) (ha : a.isClock = false) (X : List GObj) : GCalls P f args (a :: b :: X) (fun g O' => g = r ∧ O' = a :: b :: X) := by
  have hcl : ∀ Y, clockOf (a :: Y) = none := fun Y => by cases a <;> first | rfl | cases ha
  refine GCalls.frame h [0, 1] ⟨⟨a, rfl, .refl _⟩, ⟨b, rfl, .refl _⟩, trivial⟩ (by simp) (GLes.refl _) (hcl _) (hcl _) ?_
  rintro g O' ⟨rfl, rfl⟩
  refine ⟨g, a :: b :: X, (false, 0) :: (false, 1) :: (List.range X.length).map (fun k => (true, k + 2)), ⟨rfl, rfl⟩, GLe.refl g, ⟨⟨a, rfl, .refl _⟩, ⟨b, rfl, .refl _⟩, Comes.of (by simp) fun k z s hz hs => ?_⟩, ?_, hcl _⟩
  · have hk : k < X.length := (List.getElem?_eq_some_iff.1 hz).1
    simp only [List.getElem?_map, List.getElem?_range hk, Option.map_some, Option.some.injEq] at hs
    subst hs
    exact ⟨by simp, z, by simpa using hz, .refl _⟩
  · simp only [List.nodup_cons, List.mem_cons, List.mem_map, Prod.mk.injEq, reduceCtorEq, false_and, and_false, exists_false, or_false, not_false_eq_true, Nat.zero_ne_one, true_and]
    rw [List.nodup_iff_pairwise_ne, List.pairwise_map]
    refine List.Pairwise.imp ?_ (List.pairwise_lt_range (n := X.length))
    intro a b hab
    simp; omega
theorem GLe.func (fn : Fn) {gs gs' ks ks' : List GVal} (h : GLes gs gs') (k : GLes ks ks') : GLe (.func fn gs ks) (.func fn gs' ks') := fun E v hv => by
  cases hv with
  | func _ fs cs _ _ hf hk hfs hcs =>
    refine .func fn fs cs gs' ks' (by rw [hf, h.len]) (by rw [hk, k.len]) (fun j g hg => ?_) (fun j g hg => ?_)
    · obtain ⟨x, hx, hle⟩ := h.at_ j g hg
      exact hle _ _ (hfs j x hx)
    · obtain ⟨x, hx, hle⟩ := k.at_ j g hg
      exact hle _ _ (hcs j x hx)
theorem GLe.ref {cs cs' : List GVal} (h : GLes cs cs') : GLe (.ref cs) (.ref cs') := fun E v hv => by
  cases hv with
  | ref b off _ c ha hc =>
    refine .ref b off cs' c (fun j hj => ha j (by rw [h.len]; exact hj)) (fun j g hg => ?_)
    obtain ⟨x, hx, hle⟩ := h.at_ j g hg
    exact hle _ _ (hc j x hx)
theorem GCalls.on2new {P : Program} {f : FuncId} {args args' : List GVal} {x y : GObj} {R : Nat → List (GVal × GVal) → Prop} (h : GCalls P f args [x, y] (fun g O' => ∃ st kv, g = .map 2 st ∧ O' = [x, y, .map st kv] ∧ R st kv)) {O : List GObj} (i j : Nat) (hij : i ≠ j) (hi : O[i]? = some x) (hj : O[j]? = some y)
    (ha : GLes args' args) (hcx : x.isClock = false) (hc : clockOf O = none) : GCalls P f args' O (fun g O'' => ∃ st kv, g = .map O.length st ∧ O'' = O ++ [.map st kv] ∧ R st kv) := by
  refine GCalls.frame h [i, j] ⟨⟨x, hi, .refl _⟩, ⟨y, hj, .refl _⟩, trivial⟩ (by simp [hij]) ha (by cases x <;> first | rfl | cases hcx) hc ?_
  rintro g O' ⟨st, kv, rfl, rfl, hr⟩
  refine ⟨.map O.length st, O ++ [.map st kv], (List.range (O.length + 1)).map (fun k => if k = i then (false, 0) else if k = j then (false, 1) else if k = O.length then (false, 2) else (true, k)), ⟨st, kv, rfl, rfl, hr⟩, GLe.map _ _ _, Comes.of (by simp) fun k z s hz hs => ?_, ?_, by rw [clockOf_app rfl, hc]⟩
  · have hli := (List.getElem?_eq_some_iff.1 hi).1
    have hlj := (List.getElem?_eq_some_iff.1 hj).1
    have hk : k < O.length + 1 := by have := (List.getElem?_eq_some_iff.1 hz).1; simpa using this
    simp only [List.getElem?_map, List.getElem?_range hk, Option.map_some, Option.some.injEq] at hs
    subst hs
    by_cases e : k = i
    · subst e
      rw [List.getElem?_append_left hli, hi] at hz
      cases hz
      simp only [if_pos]
      exact ⟨x, rfl, .refl _⟩
    · by_cases e2 : k = j
      · subst e2
        rw [List.getElem?_append_left hlj, hj] at hz
        cases hz
        simp only [if_neg e, if_pos]
        exact ⟨y, rfl, .refl _⟩
      · by_cases e3 : k = O.length
        · subst e3
          simp at hz
          subst hz
          simp only [if_neg e, if_neg e2, if_pos]
          exact ⟨_, rfl, .refl _⟩
        · rw [List.getElem?_append_left (by omega)] at hz
          simp only [if_neg e, if_neg e2, if_neg e3]
          exact ⟨by simp [e, e2], z, hz, .refl _⟩
  · have hli := (List.getElem?_eq_some_iff.1 hi).1
    have hlj := (List.getElem?_eq_some_iff.1 hj).1
    rw [List.nodup_iff_pairwise_ne, List.pairwise_map]
    refine List.Pairwise.imp_of_mem ?_ (List.pairwise_lt_range (n := O.length + 1))
    intro a b _ _ hab
    by_cases a1 : a = i <;> by_cases b1 : b = i <;> by_cases a2 : a = j <;> by_cases b2 : b = j <;> by_cases a3 : a = O.length <;> by_cases b3 : b = O.length <;> simp_all <;> omega
theorem GCalls.keep1 {P : Program} {f : FuncId} {args args' : List GVal} {x : GObj} {r : GVal} (h : GCalls P f args [x] (fun g O' => ∃ x', O' = [x'] ∧ (g = r ∧ x' = x))) {O : List GObj} (i : Nat) (hO : O[i]? = some x) (ha : args.map (GVal.place i) = args') (hx : x.isClock = false) (hc : clockOf O = none) :
    GCalls P f args' O (fun g O' => g = r ∧ O' = O) := by
  subst ha
  refine (GCalls.ownFrame h i hO hc (fun g x' q => by rw [q.2]; exact hx) hx).mono ?_
  rintro g O' ⟨x', rfl, rfl, rfl⟩
  refine ⟨rfl, ?_⟩
  apply List.ext_getElem (by simp)
  intro j h1 h2
  rw [List.getElem_set]
  split
  · rename_i e; subst e
    rw [List.getElem?_eq_getElem h2] at hO
    exact (Option.some.inj hO).symm
  · rfl
end Gv
/- maps.Clone as a contract over ghost values: a new map with the same entries. -/
set_option linter.unusedVariables false
namespace Gv
open Go
theorem tickO_none {O : List GObj} (h : clockOf O = none) : tickO O = O := by
  cases O with
  | nil => rfl
  | cons x r => cases x <;> first | rfl | cases h
theorem gcalls_clone {P : Program} {f : FuncId} (hen : enterable P f = true) (hcall : ∀ (b : Nat) (es : Array MapEntry) (clock : Nat) (w : World), w.heap[b]? = some (.map es clock) → Calls P f #[.map (some b)] w fun e w' => e = .returned (.map (some w.heap.size)) ∧ w' = w.alloc (.map es clock))
    {O : List GObj} {o st : Nat} {kv : List (GVal × GVal)} (hO : O[o]? = some (.map st kv)) (hc : clockOf O = none) :
    GCalls P f [.map o st] O (fun g O' => ∃ st', g = .map O.length st' ∧ O' = O ++ [.map st' kv]) := by
  refine ⟨hen, fun E w vs hs ha => ?_⟩
  obtain ⟨hsz, hat⟩ := ha
  match vs, hsz with
  | ⟨[v]⟩, _ =>
    have hv := hat 0 _ rfl
    change VR E v (.map o st) at hv
    cases hv with
    | map r o st l hl hb =>
      obtain ⟨b, es, clock, e, hw, hes, hent, hloc, hsn, hbo⟩ := map_block hs (VR.map r o st l hl hb) hO
      cases e
      refine (hcall r es clock w hw).mono ?_
      rintro e w' ⟨rfl, rfl⟩
      have hk : stamp O (fun _ => True) := by unfold stamp; rw [hc]; exact fun _ => trivial
      obtain ⟨t, _, ht, hnx, hs2, hkeep⟩ := hs.stamp hk
      rw [tickO_none hc] at hnx hs2 hkeep
      have hle := Env.addLoc_le ⟨some w.heap.size, 0, 0, 0⟩ ht
      obtain ⟨h1, h2⟩ := hs2.objNew (.map es clock) (.map t kv) (l := ⟨some w.heap.size, 0, 0, 0⟩) ht hnx rfl trivial rfl
        ⟨_, w.heap.size, es, clock, Env.addLoc_self _ _ _, rfl, alloc_new _ _, by simpa using hes, fun i e p he hp => by
          have := hent i e p (by simpa using he) hp
          exact ⟨this.1.mono hle, this.2.mono hle⟩, hbo, fun o => hs2.snap_new (Nat.le_refl _)⟩
        (by simp [GObj.blk, Env.addLoc_self])
      exact ⟨_, _, _, .map O.length t, rfl, h1, hkeep.trans h2, VR.map _ _ t _ (Env.addLoc_self _ _ _) rfl, t, rfl, rfl⟩
end Gv
/- A contract from a walk of the kit's: all that was stands below. -/
set_option linter.unusedVariables false
namespace Gv
open Go
theorem HSim.below {E : Env} {w w' : World} (h : HSim E [] w) (hb : RowKit.Below w.heap.size w w') : HSim E [] w' ∧ Keep E [] w E [] w' :=
  h.gen (.refl E) h.fin hb.os ⟨hb.output, trivial⟩ hb.size (fun b => w.heap.size ≤ b) (fun b hb' => .inr hb') (fun k hk _ => hb.block k hk)
    (fun k o v hv => .inl hv) (fun k o v hk hv => absurd (h.lt hv) (by omega)) (fun i obj hi => by simp at hi) (fun i j oi oj b hij hi => by simp at hi)
theorem GPure.ofBelow {P : Program} {f : FuncId} {args : List GVal} {r : GVal} (he : enterable P f = true)
    (h : ∀ (E : Env) (w : World) (vs : Array Value), HSim E [] w → ArgsR E vs args → Calls P f vs w fun e w' => ∃ v, e = .returned v ∧ RowKit.Below w.heap.size w w' ∧ VR E v r) : GPure P f args r :=
  ⟨he, fun E w vs hs ha => (h E w vs hs ha).mono fun e w' ⟨v, h1, h2, h3⟩ => ⟨v, E, [], r, h1, (hs.below h2).1, (hs.below h2).2, h3, rfl, rfl⟩⟩
def bytesG (l : List UInt8) : List GVal := l.map fun c => .int .u8 c.toNat
def bytesV (l : List UInt8) : List Value := l.map fun c => .int .u8 c.toNat
theorem bytesG_len (l : List UInt8) : (bytesG l).length = l.length := by simp [bytesG]
theorem argsR_agg {E : Env} {vs : Array Value} {l : List UInt8} (h : ArgsR E vs [.agg (bytesG l)]) : vs = #[.agg (bytesV l).toArray] := by
  obtain ⟨h1, h2⟩ := h
  have h3 := h2 0 _ rfl
  have e : vs = #[vs.getD 0 undef] := by
    apply Array.ext (by simpa using h1)
    intro i hi hi2
    simp at hi2; subst hi2
    simp [Array.getD, hi]
  rw [e]
  generalize vs.getD 0 undef = v at *
  cases h3 with
  | agg ws cs hs hc =>
    have : ws = (bytesV l).toArray := by
      apply Array.ext (by rw [hs]; simp [bytesG, bytesV])
      intro i hi hi2
      have hi3 : i < l.length := by simpa [bytesV] using hi2
      have := hc i (.int .u8 (l[i]).toNat) (by simp [bytesG, hi3])
      rw [Array.getD_eq_getD_getElem?, Array.getElem?_eq_getElem hi] at this
      simp at this
      generalize hw : ws[i] = x at this
      cases this
      simp [bytesV]
    rw [this]
end Gv
/- A range over a map whose entries are held one by one: no reading, no datum. -/
set_option linter.unusedVariables false
namespace Go
open Go.Maps Go.RowKit Go.MapKept
def WalkAt (w : World) (b r : Nat) (es : Array MapEntry) (clock : Nat) (seen : Array Nat) : Prop :=
  ∃ since c0, w.heap[b]? = some (.map es clock) ∧ w.heap[r]? = some (.mapIter (some b) since seen c0) ∧ (∀ x ∈ es.toList, x.born < since) ∧ since ≤ c0 ∧ since ≤ clock
theorem WalkAt.of_walks {w w' : World} {b r clock : Nat} {es : Array MapEntry} {seen : Array Nat} (h : WalkAt w b r es clock seen) (hk : KeepsWalks w w') : WalkAt w' b r es clock seen := by
  obtain ⟨since, c0, h1, h2, h3, h4, h5⟩ := h
  exact ⟨since, c0, hk.same b _ h1 rfl, hk.same r _ h2 rfl, h3, h4, h5⟩
theorem WalkAt.iter_walk {w : World} {b r clock : Nat} {es : Array MapEntry} {seen : Array Nat} (h : WalkAt w b r es clock seen) : ∃ o : Obj, w.heap[r]? = some o ∧ o.isWalk = true := by
  obtain ⟨since, c0, h1, h2, _⟩ := h
  exact ⟨_, h2, rfl⟩
theorem WalkAt.left_eq {w : World} {b r clock : Nat} {es : Array MapEntry} {seen : Array Nat} (h : WalkAt w b r es clock seen) : w.rangeLeft b r = (leftOf es seen).size := by
  obtain ⟨since, c0, h1, h2, _⟩ := h
  simp [World.rangeLeft, h1, h2]
theorem nodup_le {α : Type} : ∀ (l m : List α), l.Nodup → (∀ x ∈ l, x ∈ m) → l.length ≤ m.length
  | [], m, _, _ => by simp
  | a :: r, m, h, hs => by
    obtain ⟨p, q, rfl⟩ := List.append_of_mem (hs a (by simp))
    have h1 := List.nodup_cons.1 h
    have := nodup_le r (p ++ q) h1.2 (fun x hx => by
      have h2 := hs x (by simp [hx])
      have hne : x ≠ a := fun e => h1.1 (e ▸ hx)
      simp at h2 ⊢
      rcases h2 with h2 | h2 | h2
      · exact .inl h2
      · exact absurd h2 hne
      · exact .inr h2)
    simp at this ⊢
    omega
def Came (es : Array MapEntry) (seen : Array Nat) (xs : List MapEntry) : Prop := seen = (xs.map MapEntry.born).toArray ∧ xs.Nodup ∧ (∀ x ∈ xs, x ∈ es.toList)
theorem Came.nil (es : Array MapEntry) : Came es #[] [] := ⟨rfl, List.nodup_nil, by simp⟩
theorem wpListIn_range_at {F : Fence} {n : Nat} {P : Program} (w : World) {ops : Array Oper} {rest : List Oper} {o : Oper} {a : Act} {Q : Exit → Act → World → Prop} (hg : o.guard = none) (m : Operand) (t : TypeId) (hop : o.op = Op.range t m) (k e : TypeId) (ht : P.underlying t = some (.map k e)) (b clock : Nat) (es : Array MapEntry)
    (hm : a.eval m = .map (some b)) (hb : w.heap[b]? = some (.map es clock)) (hbo : Gv.BornOK es clock)
    (hK : ∀ w', WalkAt w' b w.heap.size es clock #[] → w.grownBy w' none → w'.heap.size = w.heap.size + 1 → wpListIn F n P ops Q rest (a.put o.dst (.pointer (some ⟨w.heap.size, 0, none⟩))) w') :
    wpListIn F n P ops Q (o :: rest) a w := by
  refine wpListIn_plain hg fun K' hK' => ?_
  have hrun := run_range_map w t k e b es clock ht hb
  have hlt := (Array.getElem?_eq_some_iff.1 hb).1
  unfold Oper.wpIn
  refine ⟨?_, ?_⟩
  · simp [Oper.about, hop]
  · rw [Oper.semAt_plain F _ _ (by rw [hop]; intro c hc'; cases hc')]
    simp [execOp, hop, hm, hrun, Result.andThen]
    exact hK' _ _ (hK _ ⟨clock, clock, ((MapKept.heap_alloc w _).2 b hlt).trans hb, (MapKept.heap_alloc w _).1, hbo.1, Nat.le_refl _, Nat.le_refl _⟩ (World.grownBy_alloc w _ none) (by simp))
theorem wpListIn_next_at {F : Fence} {n : Nat} {P : Program} (w : World) {ops : Array Oper} {rest : List Oper} {o : Oper} {a : Act} {Q : Exit → Act → World → Prop} (hg : o.guard = none) (it : Operand) (hop : o.op = Op.next it false) (b r clock : Nat) (es : Array MapEntry) (hbo : Gv.BornOK es clock) (seen : Array Nat) (xs : List MapEntry) (hx : Came es seen xs)
    (hit : a.eval it = .pointer (some ⟨r, 0, none⟩)) (h : WalkAt w b r es clock seen)
    (hDone : xs.Perm es.toList → wpListIn F n P ops Q rest (a.put o.dst (.tuple #[.bool false])) w)
    (hMore : ∀ (e : MapEntry) (w' : World), e ∈ es.toList → Came es (seen.push e.born) (xs ++ [e]) → xs.length < es.size → WalkAt w' b r es clock (seen.push e.born) → w'.rangeLeft b r < w.rangeLeft b r →
      w.grownBy w' (some r) → w'.heap.size = w.heap.size → (Instr.entry (.pointer (some ⟨r, 0, none⟩))).run P w' = .ok (.tuple #[e.key, e.val]) w' → wpListIn F n P ops Q rest (a.put o.dst (.tuple #[.bool true, e.key, e.val])) w') :
    wpListIn F n P ops Q (o :: rest) a w := by
  refine wpListIn_plain hg fun K' hK' => ?_
  unfold Oper.wpIn
  refine ⟨by simp [Oper.about, hop], ?_⟩
  rw [Oper.semAt_plain F _ _ (by rw [hop]; intro c hc'; cases hc')]
  have hle := h.left_eq
  obtain ⟨since, c0, hb, hr, hold, hsc, hsk⟩ := h
  obtain ⟨hse, hxn, hxm⟩ := hx
  have hne : r ≠ b := fun e => by rw [e, hb] at hr; cases hr
  have hnd : es.toList.Nodup := hbo.2.imp fun h e => h (congrArg _ e)
  have hbn : (es.toList.map (·.born)).Nodup := List.pairwise_map.2 hbo.2
  rcases run_next_at (P := P) w o.type r b since c0 seen es clock hr hb hold hsc with ⟨h0, hrun⟩ | ⟨e, he, w1, hal, hrun⟩
  · simp [execOp, hop, hit, hrun, Result.andThen]
    refine hK' _ _ (hDone ?_)
    refine (List.perm_ext_iff_of_nodup hxn hnd).2 fun x => ⟨fun q => hxm x q, fun q => ?_⟩
    have hs := all_seen es seen h0 x q
    rw [hse] at hs
    have hm : x.born ∈ xs.map MapEntry.born := by simpa using hs
    obtain ⟨y, hy, ey⟩ := List.mem_map.1 hm
    rwa [← born_inj hbn (hxm y hy) q ey]
  · simp [execOp, hop, hit, hrun, Result.andThen]
    have hr1 : w1.heap[r]? = some (.mapIter (some b) since seen c0) := by rcases hal with rfl | rfl <;> exact hr
    have hb1 : w1.heap[b]? = some (.map es clock) := by rcases hal with rfl | rfl <;> exact hb
    have hset := heap_set (o' := .mapIter (some b) since (seen.push e.born) clock) hr1
    have hb' : (ChangeMaps.setBlock w1 r (.mapIter (some b) since (seen.push e.born) clock)).heap[b]? = some (.map es clock) := (hset.2 b (fun e1 => hne e1.symm)).trans hb1
    obtain ⟨hem, hes⟩ := mem_left he
    have hc : Came es (seen.push e.born) (xs ++ [e]) := by
      refine ⟨by rw [hse]; simp, List.nodup_append.2 ⟨hxn, by simp, fun y hy z hz => ?_⟩, fun y hy => ?_⟩
      · rw [List.mem_singleton.1 hz]
        intro q
        have : e.born ∈ xs.map MapEntry.born := List.mem_map_of_mem (q ▸ hy)
        rw [hse] at hes
        have h3 : (xs.map MapEntry.born).toArray.contains e.born = true := by simpa using this
        rw [h3] at hes; cases hes
      · rcases List.mem_append.1 hy with q | q
        · exact hxm y q
        · rw [List.mem_singleton.1 q]; exact hem
    have hlen : (xs ++ [e]).length ≤ es.toList.length := nodup_le _ _ hc.2.1 hc.2.2
    have hw : WalkAt (ChangeMaps.setBlock w1 r (.mapIter (some b) since (seen.push e.born) clock)) b r es clock (seen.push e.born) := ⟨since, clock, hb', hset.1, hold, hsk, hsk⟩
    refine hK' _ _ (hMore e _ hem hc (by simp at hlen; omega) hw ?_ ?_ ?_ (run_entry_at _ r b since seen es clock e hset.1 hb' hem hbn))
    · rw [hle, hw.left_eq]
      exact left_shrinks es _ e he
    · rcases hal with rfl | rfl <;> exact ⟨rfl, rfl, rfl, by simp [ChangeMaps.setBlock], fun i _ hi => hset.2 i (fun e1 => hi (by rw [e1]))⟩
    · rcases hal with rfl | rfl <;> simp [ChangeMaps.setBlock]
section
variable {F : Fence} {n : Nat} {P : Program} {w w' : World} {ops : Array Oper} {rest : List Oper} {o : Oper} {a : Act} {Q : Exit → Act → World → Prop} {t : TypeId} {x y : Operand} {v : Value}
theorem wpListIn_load (hg : o.guard = none) (hop : o.op = .load t x) (hr : (Instr.loadAt t (a.eval x)).run P w = .ok v w) (h : wpListIn F n P ops Q rest (a.put o.dst v) w) : wpListIn F n P ops Q (o :: rest) a w := by
  refine wpListIn_plain hg fun K' hK' => ?_
  unfold Oper.wpIn
  refine ⟨by simp [Oper.about, hop], ?_⟩
  rw [Oper.semAt_plain F _ _ (by rw [hop]; intro c hc'; cases hc')]
  unfold execOp
  simp only [hop, Sem.run_bind, Sem.run_pure, Result.andThen_ok, hr]
  exact hK' _ _ h
theorem wpListIn_alloc (hg : o.guard = none) (hop : o.op = .alloc t) (hr : (Instr.alloc t true (.tuple #[])).run P w = .ok v w') (h : wpListIn F n P ops Q rest (a.put o.dst v) w') : wpListIn F n P ops Q (o :: rest) a w := by
  refine wpListIn_plain hg fun K' hK' => ?_
  unfold Oper.wpIn
  refine ⟨by simp [Oper.about, hop], ?_⟩
  rw [Oper.semAt_plain F _ _ (by rw [hop]; intro c hc'; cases hc')]
  unfold execOp
  simp only [hop, Sem.run_bind, Sem.run_pure, Result.andThen_ok, hr]
  exact hK' _ _ h
theorem wpListIn_store (hg : o.guard = none) (hop : o.op = .store t x y) (hr : (Instr.storeAt t (a.eval x) (a.eval y)).run P w = .ok () w') (h : wpListIn F n P ops Q rest (a.put o.dst undef) w') : wpListIn F n P ops Q (o :: rest) a w := by
  refine wpListIn_plain hg fun K' hK' => ?_
  unfold Oper.wpIn
  refine ⟨by simp [Oper.about, hop], ?_⟩
  rw [Oper.semAt_plain F _ _ (by rw [hop]; intro c hc'; cases hc')]
  unfold execOp
  simp only [hop, Sem.run_bind, Sem.run_pure, Result.andThen_ok, hr]
  exact hK' _ _ h
theorem wpListIn_buildSlice1 (hg : o.guard = none) (hop : o.op = .buildSlice t 1 #[(0, x)]) (hr : (Instr.buildSlice t 1 #[(0, a.eval x)]).run P w = .ok v w') (h : wpListIn F n P ops Q rest (a.put o.dst v) w') : wpListIn F n P ops Q (o :: rest) a w := by
  refine wpListIn_plain hg fun K' hK' => ?_
  unfold Oper.wpIn
  refine ⟨by simp [Oper.about, hop], ?_⟩
  rw [Oper.semAt_plain F _ _ (by rw [hop]; intro c hc'; cases hc')]
  unfold execOp
  have he : (#[(0, x)] : Array (Nat × Operand)).map (fun p => (p.1, a.eval p.2)) = #[(0, a.eval x)] := by simp
  simp only [hop, Sem.run_bind, Sem.run_pure, Result.andThen_ok, he, hr]
  exact hK' _ _ h
end
end Go
namespace Gv
open Go
theorem HSim.belowSeal {E : Env} {O : List GObj} {w w' : World} (h : HSim E O w) (hb : RowKit.Below w.heap.size w w') {g n : Nat} {cur : Array Value} {el : TypeId} {fz : Nat × Nat} (hg : w.heap.size ≤ g) (hw : w'.heap[g]? = some (.cells cur el fz)) (h1 : ∀ (j : Nat) v, j < n → cur[j]? = some v → v.oneCell' = true) :
    HSim (E.sealTo g n cur) O w' ∧ Keep E O w (E.sealTo g n cur) O w' := by
  refine h.gen ⟨fun b o v hv => ?_, fun _ _ hs => hs⟩ h.fin hb.os ⟨hb.output, trivial⟩ hb.size (fun b => w.heap.size ≤ b) (fun b hb' => .inr hb') (fun k hk _ => hb.block k hk)
    (fun k o v hv => ?_) (fun k o v hk hv => ?_) (fun i obj ho => .inl ⟨ho, fun b hb' e => ?_⟩) (fun i j oi oj b hij hi hj hbi hbj e => ?_)
  · show (if b = g then (if o < n then cur[o]? else none) else E.snap b o) = some v
    rw [if_neg (by have := h.lt hv; omega)]; exact hv
  · by_cases e : k = g
    · exact .inr (by omega)
    · left; simpa [Env.sealTo, e] using hv
  · have hv' : (if k = g then (if o < n then cur[o]? else none) else E.snap k o) = some v := hv
    by_cases e : k = g
    · rw [if_pos e] at hv'
      by_cases hn : o < n
      · rw [if_pos hn] at hv'
        refine ⟨?_, h1 o v hn hv'⟩
        rw [e]
        simp only [World.cell?, hw]
        simpa using hv'
      · rw [if_neg hn] at hv'; cases hv'
    · rw [if_neg e] at hv'
      have := h.lt hv'; omega
  · have := (h.real i obj ho).blk_lt hb'; omega
  · have e2 : oi.blk (E.sealTo g n cur) = oi.blk E := by cases oi <;> rfl
    rw [e2] at hbi
    have := (h.real i oi hi).blk_lt hbi; omega
theorem HSim.belowO {E : Env} {O : List GObj} {w w' : World} (h : HSim E O w) (hb : RowKit.Below w.heap.size w w') : HSim E O w' ∧ Keep E O w E O w' :=
  h.gen (.refl E) h.fin hb.os ⟨hb.output, trivial⟩ hb.size (fun b => w.heap.size ≤ b) (fun b hb' => .inr hb') (fun k hk _ => hb.block k hk)
    (fun k o v hv => .inl hv) (fun k o v hk hv => absurd (h.lt hv) (by omega)) (fun i obj ho => .inl ⟨ho, fun b hb' e => by have := (h.real i obj ho).blk_lt hb'; omega⟩) (fun i j oi oj b hij hi hj hbi hbj e => by have := (h.real i oi hi).blk_lt hbi; omega)
end Gv
/- From a reading of plain data (numbers, bools, strings, slices, structs) to what it is without memory. -/
set_option linter.unusedVariables false
namespace Gv
open Go Go.RowKit Go.WideShapes Go.ChangeShapes

def Env.all (w : World) : Env := ⟨fun b o => match w.cell? ⟨b, o, none⟩ with
  | some v => if v.oneCell' = true then some v else none
  | none => none, fun _ => none⟩
theorem Env.all_at {w : World} {b o : Nat} {v : Value} (h : w.cell? ⟨b, o, none⟩ = some v) (hv : v.oneCell' = true) : (Env.all w).snap b o = some v := by
  simp [Env.all, h, hv]
def GlobsIn (w : World) : Prop := ∀ p ∈ globs, w.cell? ⟨p.1, p.2.1, none⟩ = some p.2.2 ∧ p.2.2.oneCell' = true
theorem globsIn_none {w : World} (h : globs = []) : GlobsIn w := fun p hp => by rw [h] at hp; cases hp
theorem HSim.all (w : World) (hg : GlobsIn w) : HSim (Env.all w) [] w := by
  have key : ∀ b o v, (Env.all w).snap b o = some v → w.cell? ⟨b, o, none⟩ = some v ∧ v.oneCell' = true := by
    intro b o v h
    simp only [Env.all] at h
    split at h
    · rename_i x hx
      split at h
      · rename_i hv
        simp only [Option.some.injEq] at h
        subst h
        exact ⟨hx, hv⟩
      · cases h
    · cases h
  exact ⟨⟨0, (fun c hc => by cases hc), fun _ _ => rfl⟩, fun b o v h => (key b o v h).1, fun b o v h => (key b o v h).2, fun i x hx => by simp at hx, fun i j oi oj b _ hi => by simp at hi, fun p hp => Env.all_at (hg p hp).1 (hg p hp).2⟩

inductive Sh where
  | int (k : IntKind)
  | bool
  | str
  | slice (e : Sh)
  | agg (l : List Sh)
mutual
def Sh.size : Sh → Nat
  | .agg l => Sh.sizes l
  | _ => 1
def Sh.sizes : List Sh → Nat
  | [] => 0
  | s :: r => s.size + Sh.sizes r
end
mutual
def shB (P : Program) : Sh → TypeId → Bool
  | .int k, t => match P.underlying t with
    | some (.int k') => k = k'
    | _ => false
  | .bool, t => match P.underlying t with
    | some .bool => true
    | _ => false
  | .str, t => match P.underlying t with
    | some .string => true
    | _ => false
  | .slice e, t => match P.underlying t with
    | some (.slice et) => shB P e et && P.cellsOf et == e.size && decide (0 < e.size)
    | _ => false
  | .agg l, t => match P.underlying t with
    | some (.struct fs) => shBs P l fs.toList 0 && P.cellsOf t == Sh.sizes l
    | some (.array n e) => l.length == n && (shAs P l e && P.cellsOf t == Sh.sizes l)
    | _ => false
def shAs (P : Program) : List Sh → TypeId → Bool
  | [], _ => true
  | s :: r, t => P.cellsOf t == s.size && (shB P s t && shAs P r t)
def shBs (P : Program) : List Sh → List Field → Nat → Bool
  | [], [], _ => true
  | s :: r, f :: fs, o => f.offset == o && P.cellsOf f.type == s.size && shB P s f.type && shBs P r fs (o + s.size)
  | _, _, _ => false
end
mutual
def Den : Sh → List GVal → Prop
  | .int k, gs => ∃ n, gs = [.int k n] ∧ (Lit.int k n).wf = true
  | .bool, gs => ∃ b, gs = [.bool b]
  | .str, gs => ∃ s, gs = [.str s] ∧ s.length ≤ maxLen
  | .slice e, gs => ∃ xs, gs = [.slice xs .none] ∧ xs.length ≤ maxLen ∧ ∀ x ∈ xs, Den e x
  | .agg l, gs => ∃ ps, gs = ps.flatten ∧ Dens l ps
def Dens : List Sh → List (List GVal) → Prop
  | [], ps => ps = []
  | s :: r, ps => ∃ p q, ps = p :: q ∧ Den s p ∧ Dens r q
end

def CellsOK (w : World) (cs : List Value) (gs : List GVal) : Prop :=
  cs.length = gs.length ∧ (∀ c ∈ cs, c.oneCell' = true) ∧ ∀ (j : Nat) c g, cs[j]? = some c → gs[j]? = some g → VR (Env.all w) c g
theorem CellsOK.one {w : World} {v : Value} {g : GVal} (hv : v.oneCell' = true) (h : VR (Env.all w) v g) : CellsOK w [v] [g] :=
  ⟨rfl, by simpa using hv, fun j c g' h1 h2 => by
    cases j with
    | zero => simp at h1 h2; subst h1; subst h2; exact h
    | succ j => simp at h1⟩
theorem CellsOK.append {w : World} {a b : List Value} {x y : List GVal} (h : CellsOK w a x) (k : CellsOK w b y) : CellsOK w (a ++ b) (x ++ y) := by
  refine ⟨by simp [h.1, k.1], fun c hc => ?_, fun j c g h1 h2 => ?_⟩
  · rcases List.mem_append.1 hc with hc | hc
    · exact h.2.1 c hc
    · exact k.2.1 c hc
  · by_cases hj : j < a.length
    · rw [List.getElem?_append_left hj] at h1
      rw [List.getElem?_append_left (by rw [← h.1]; exact hj)] at h2
      exact h.2.2 j c g h1 h2
    · rw [List.getElem?_append_right (by omega)] at h1
      rw [List.getElem?_append_right (by rw [← h.1]; omega), ← h.1] at h2
      exact k.2.2 _ c g h1 h2

section
variable {H : Type} {enc : TypeId × Value → H} {P : Program} {w : World} {spare : Nat → Bool} {held : Bool}

theorem cells_at {base : Nat} {a : Addr} {n : Nat} {cs : List Value} (h : w.cells? base a n = some cs) : cs.length = n ∧ ∀ j, j < n → w.cell? (a.add j) = cs[j]? := by
  unfold World.cells? at h
  split at h
  · have hl := mapM_some_length h
    refine ⟨by simpa using hl, fun j hj => ?_⟩
    exact mapM_some_get h j j (by simp [hj])
  · cases h

theorem flat_len {α : Type} {sz : Nat} : ∀ {xs : List (List α)}, (∀ x ∈ xs, x.length = sz) → xs.flatten.length = xs.length * sz
  | [], _ => by simp
  | x :: xs, h => by
    rw [List.flatten_cons, List.length_append, h x (by simp), flat_len fun y hy => h y (by simp [hy])]
    simp [Nat.succ_mul, Nat.add_comm]

mutual
theorem rd : ∀ (S : Sh) (n : Nat) (t : TypeId) (cs : List Value) (x : DataW H × List MemPlace), shB P S t = true → DataW.trod enc P w 0 spare held n t cs = some x → ∃ gs, CellsOK w cs gs ∧ Den S gs ∧ cs.length = S.size
  | .int k, n, t, cs, x, hs, h => by
    unfold shB at hs
    split at hs
    · rename_i k' hu
      have hs : k = k' := by simpa using hs
      subst hs
      obtain ⟨m, rfl, _, hwf⟩ := DataW.trod_int hu h
      exact ⟨[.int k m], .one rfl (.int _ _), ⟨m, rfl, hwf⟩, rfl⟩
    · cases hs
  | .bool, n, t, cs, x, hs, h => by
    unfold shB at hs
    split at hs
    · rename_i hu
      obtain ⟨b, rfl, _⟩ := DataW.trod_bool hu h
      exact ⟨[.bool b], .one rfl (.bool _), ⟨b, rfl⟩, rfl⟩
    · cases hs
  | .str, n, t, cs, x, hs, h => by
    unfold shB at hs
    split at hs
    · rename_i hu
      cases n with
      | zero => simp [DataW.trod] at h
      | succ n =>
        unfold DataW.trod at h
        rw [hu] at h
        match cs, h with
        | [.string b], h =>
          simp only at h
          split at h
          · rename_i hl
            refine ⟨[.str b.data.toList], .one rfl ?_, ⟨_, rfl, ?_⟩, rfl⟩
            · exact VR.str (E := Env.all w) b.data.toList
            · simpa using hl
          · cases h
    · cases hs
  | .slice e, n, t, cs, x, hs, h => by
    unfold shB at hs
    split at hs
    · rename_i et hu
      simp only [Bool.and_eq_true, beq_iff_eq] at hs
      obtain ⟨⟨hs, hsz⟩, hpos⟩ := hs
      have hpos : 0 < e.size := by simpa using hpos
      rcases DataW.trod_slice hu h with ⟨rfl, _⟩ | ⟨a, len, cap, elems, rest, m, rfl, rfl, _, _, hlc, hcm, hel, helem, _, _⟩
      · exact ⟨[.slice [] .none], .one rfl (.slice none 0 0 [] .none 0 (fun _ => .bool true) rfl (Nat.le_refl _) (by simp) (fun hx => absurd rfl hx) (by simp) trivial), ⟨[], rfl, by simp, by simp⟩, rfl⟩
      · have each : ∀ i : Nat, ∃ cs gs, i < len → (w.cells? 0 (a.add (i * P.cellsOf et)) (P.cellsOf et)) = some cs ∧ CellsOK w cs gs ∧ Den e gs ∧ cs.length = e.size := by
          intro i
          by_cases hi : i < len
          · have := helem i hi
            rw [← hel] at hi
            rw [List.getElem?_eq_getElem hi, Option.bind_eq_some_iff] at this
            obtain ⟨cs, h1, h2⟩ := this
            obtain ⟨gs, h3, h4, h5⟩ := rd e m et cs _ hs h2
            exact ⟨cs, gs, fun _ => ⟨h1, h3, h4, h5⟩⟩
          · exact ⟨[], [], fun h => absurd h hi⟩
        obtain ⟨C, hC⟩ := Classical.axiomOfChoice each
        obtain ⟨G, hCG⟩ := Classical.axiomOfChoice hC
        refine ⟨[.slice ((List.range len).map G) .none], .one rfl ?_, ⟨_, rfl, by simp; omega, fun x hx => ?_⟩, rfl⟩
        · have hG : ∀ i, i < len → (G i).length = e.size := fun i hi => by rw [← (hCG i hi).2.1.1]; exact (hCG i hi).2.2.2
          have cell : ∀ i, i < len → ∀ j, j < e.size → w.cell? ((a.add (i * e.size)).add j) = (C i)[j]? := fun i hi j hj => by
            have := cells_at (hCG i hi).1
            rw [hsz] at this
            exact this.2 j hj
          have dm : ∀ k, k < len * e.size → k / e.size < len ∧ k % e.size < e.size ∧ k / e.size * e.size + k % e.size = k := fun k hk =>
            ⟨(Nat.div_lt_iff_lt_mul hpos).2 hk, Nat.mod_lt _ hpos, by rw [Nat.mul_comm]; exact Nat.div_add_mod k e.size⟩
          have hszs : ∀ x ∈ (List.range len).map G, x.length = e.size := fun x hx => by
            obtain ⟨i, hi, rfl⟩ := List.mem_map.1 hx
            exact hG i (by simpa using hi)
          refine .slice (some a) len cap _ .none e.size (fun k => ((C (k / e.size))[k % e.size]?).getD (.bool true)) (by simp) hlc hszs (fun hx => ?_) (fun k g hk => ?_) trivial
          · have hlen : 0 < len := by
              rcases Nat.eq_zero_or_pos len with h0 | h0
              · subst h0; simp at hx
              · exact h0
            have in_ : ∀ i, i < len → ∀ j, j < e.size → ∃ v, (C i)[j]? = some v ∧ v.oneCell' = true := fun i hi j hj => by
              have hl : j < (C i).length := by rw [(hCG i hi).2.2.2]; exact hj
              exact ⟨_, List.getElem?_eq_getElem hl, (hCG i hi).2.1.2.1 _ (List.getElem_mem hl)⟩
            obtain ⟨b, off, spot⟩ := a
            have hspot : spot = none := by
              obtain ⟨v, hv, _⟩ := in_ 0 hlen 0 hpos
              have := cell 0 hlen 0 hpos
              rw [hv] at this
              simpa [Addr.add] using World.cell?_spot this
            subst hspot
            refine ⟨b, off, rfl, fun k hk => ?_⟩
            obtain ⟨d1, d2, d3⟩ := dm k hk
            obtain ⟨v, hv, hv2⟩ := in_ _ d1 _ d2
            have := cell _ d1 _ d2
            rw [hv] at this
            rw [hv]
            refine Env.all_at ?_ hv2
            rw [add_at, add_at, Nat.add_assoc, d3] at this
            exact this
          · have hk' : k < len * e.size := by
              have := (List.getElem?_eq_some_iff.1 hk).1
              rw [flat_len hszs] at this
              simpa using this
            obtain ⟨d1, d2, d3⟩ := dm k hk'
            have hx : ((List.range len).map G)[k / e.size]? = some (G (k / e.size)) := by simp [d1]
            have e1 := flatten_at _ hszs (k / e.size) (k % e.size) _ hx d2
            rw [d3, hk] at e1
            have hl : k % e.size < (C (k / e.size)).length := by rw [(hCG _ d1).2.2.2]; exact d2
            rw [List.getElem?_eq_getElem hl]
            exact (hCG _ d1).2.1.2.2 _ _ _ (List.getElem?_eq_getElem hl) e1.symm
        · obtain ⟨i, hi, rfl⟩ := List.mem_map.1 hx
          exact (hCG i (by simpa using hi)).2.2.1
    · cases hs
  | .agg l, n, t, cs, x, hs, h => by
    unfold shB at hs
    split at hs
    · rename_i fs hu
      simp only [Bool.and_eq_true, beq_iff_eq] at hs
      obtain ⟨hs, hsz⟩ := hs
      obtain ⟨xs, m, rfl, rfl, hcl, hxl, hf⟩ := DataW.trod_struct hu h
      obtain ⟨ps, h1, h2⟩ := rds l m fs.toList cs 0 hs (by simpa [hsz] using hcl) (fun f hf' => by
        obtain ⟨i, hi⟩ := List.getElem?_of_mem hf'
        have := hf i f (by simpa using hi)
        have hlt : i < xs.length := by rw [hxl]; simpa using (List.getElem?_eq_some_iff.1 hi).1
        rw [List.getElem?_eq_getElem hlt] at this
        exact ⟨_, this⟩)
      exact ⟨ps.flatten, by simpa using h1, ⟨ps, rfl, h2⟩, by rw [hcl, hsz]; rfl⟩
    · rename_i k et hu
      simp only [Bool.and_eq_true, beq_iff_eq] at hs
      obtain ⟨hlk, hs, hsz⟩ := hs
      obtain ⟨xs, m, rfl, rfl, hcl, hxl, hf⟩ := DataW.trod_array hu h
      obtain ⟨ps, h1, h2⟩ := rda l m et cs hs (by simpa [hsz] using hcl) (fun i hi => by
        have := hf i (by omega)
        rw [List.getElem?_eq_getElem (by omega)] at this
        exact ⟨_, this⟩)
      exact ⟨ps.flatten, h1, ⟨ps, rfl, h2⟩, by rw [hcl, hsz]; rfl⟩
    · cases hs
theorem rda : ∀ (l : List Sh) (n : Nat) (et : TypeId) (cs : List Value), shAs P l et = true → cs.length = Sh.sizes l →
    (∀ i, i < l.length → ∃ x, DataW.trod enc P w 0 spare held n et ((cs.drop (i * P.cellsOf et)).take (P.cellsOf et)) = some x) → ∃ ps, CellsOK w cs ps.flatten ∧ Dens l ps
  | [], n, et, cs, hs, hl, h => by
    have : cs = [] := List.length_eq_zero_iff.1 hl
    subst this
    exact ⟨[], ⟨rfl, by simp, fun j c g h1 => by simp at h1⟩, rfl⟩
  | s :: r, n, et, cs, hs, hl, h => by
    unfold shAs at hs
    simp only [Bool.and_eq_true, beq_iff_eq] at hs
    obtain ⟨h1, h2, h3⟩ := hs
    obtain ⟨x, hx⟩ := h 0 (by simp)
    rw [Nat.zero_mul, List.drop_zero] at hx
    obtain ⟨gs, q1, q2, q3⟩ := rd s n et _ _ h2 hx
    simp only [Sh.sizes] at hl
    obtain ⟨ps, k1, k2⟩ := rda r n et (cs.drop (P.cellsOf et)) h3 (by rw [List.length_drop, hl, h1]; omega) (fun i hi => by
      obtain ⟨y, hy⟩ := h (i + 1) (by simpa using hi)
      rw [List.drop_drop]
      have e : P.cellsOf et + i * P.cellsOf et = (i + 1) * P.cellsOf et := by rw [Nat.succ_mul, Nat.add_comm]
      rw [e]; exact ⟨y, hy⟩)
    refine ⟨gs :: ps, ?_, ⟨gs, ps, rfl, q2, k2⟩⟩
    rw [List.flatten_cons]
    have := q1.append k1
    rwa [List.take_append_drop] at this
theorem rds : ∀ (l : List Sh) (n : Nat) (fs : List Field) (cs : List Value) (o : Nat), shBs P l fs o = true → cs.length = o + Sh.sizes l →
    (∀ f ∈ fs, ∃ x, DataW.trod enc P w 0 spare held n f.type ((cs.drop f.offset).take (P.cellsOf f.type)) = some x) → ∃ ps, CellsOK w (cs.drop o) ps.flatten ∧ Dens l ps
  | [], n, fs, cs, o, hs, hl, h => by
    refine ⟨[], ?_, rfl⟩
    rw [List.drop_eq_nil_of_le (by rw [hl]; simp [Sh.sizes])]
    exact ⟨rfl, by simp, fun j c g h1 => by simp at h1⟩
  | s :: r, n, fs, cs, o, hs, hl, h => by
    match fs, hs, h with
    | f :: fs, hs, h =>
      unfold shBs at hs
      simp only [Bool.and_eq_true, beq_iff_eq] at hs
      obtain ⟨⟨⟨h1, h2⟩, h3⟩, h4⟩ := hs
      obtain ⟨x, hx⟩ := h f (by simp)
      obtain ⟨gs, q1, q2, q3⟩ := rd s n f.type _ _ h3 hx
      simp only [Sh.sizes] at hl
      obtain ⟨ps, k1, k2⟩ := rds r n fs cs (o + s.size) h4 (by rw [hl]; omega) (fun f' hf' => h f' (by simp [hf']))
      refine ⟨gs :: ps, ?_, ⟨gs, ps, rfl, q2, k2⟩⟩
      rw [List.flatten_cons]
      have e : cs.drop o = (cs.drop f.offset).take (P.cellsOf f.type) ++ cs.drop (o + s.size) := by
        rw [h1, h2, ← List.drop_drop]; exact (List.take_append_drop _ _).symm
      rw [e]
      exact q1.append k1
    | [], hs, h => simp [shBs] at hs
end

def Sh.val : Sh → List GVal → GVal
  | .agg _, gs => .agg gs
  | _, gs => gs.headD .any

theorem GPure.lawAt {P : Program} {f : FuncId} {args : Array Value} {gs : List GVal} {w : World} (h : GPure P f gs (.bool true)) (ha : ArgsR (Env.all w) args gs) (hg : GlobsIn w := by exact Gv.globsIn_none rfl) :
    Calls P f args w fun e w' => e = .returned (.bool true) ∧ Old w w' := by
  refine (h.2 (Env.all w) w args (HSim.all w hg) ha).mono ?_
  rintro e w' ⟨v, E', O', g, rfl, h1, h2, h3, rfl, rfl⟩
  cases h3
  exact ⟨rfl, h2.old⟩
theorem ArgsR.nil {E : Env} : ArgsR E #[] [] := ⟨rfl, fun i g h => by simp at h⟩
theorem ArgsR.one {E : Env} {v : Value} {g : GVal} (h : VR E v g) : ArgsR E #[v] [g] := ⟨rfl, fun i g' hg => by
  cases i with
  | zero => simp at hg; subst hg; exact h
  | succ i => simp at hg⟩

theorem Old.trod {W W' : World} {t : TypeId} {v : Value} {d : DataW H} {ps : List MemPlace} (hl : laidOutB P = true) (hr : P.readableRec t = true) (hrow : t < P.types.size) (hb : Old W W') {sp : Nat → Bool}
    (h : DataW.Trod enc P W 0 (fun _ => true) true t v d ps) (hlt : ∀ x ∈ ps, x.block < W.heap.size) (hs : ∀ x ∈ ps, sp x.block = true) : DataW.Trod enc P W' 0 sp true t v d ps :=
  WideElems.Trod_stays hl hr hrow h (fun x hx => by
    have hp := hlt x hx
    cases x with
    | cell b o => exact World.cell?_of_block (w := W) (hb.block b hp)
    | map b => exact hb.block b hp) hs
end
end Gv
/- maps.Keys of a set of hashes, and its iterator. -/
set_option linter.unusedVariables false
set_option maxRecDepth 100000
namespace Gv.Tryd
open Go Gv Go.Proofs Go.RowKit
def encV (l : List UInt8) : Value := .agg (bytesV l).toArray
theorem bytesV_len (l : List UInt8) : (bytesV l).length = l.length := by simp [bytesV]
theorem bytesV_one (l : List UInt8) : ∀ v ∈ bytesV l, v.oneCell' = true := by
  intro v hv
  obtain ⟨c, _, rfl⟩ := List.mem_map.1 hv
  rfl
theorem bytesV_all (l : List UInt8) : (bytesV l).toArray.all (·.oneCell') = true := by
  rw [Array.all_eq_true_iff_forall_mem]
  intro v hv
  exact bytesV_one l v (by simpa using hv)
def zero32 : Array Value := #[.int .u8 0, .int .u8 0, .int .u8 0, .int .u8 0, .int .u8 0, .int .u8 0, .int .u8 0, .int .u8 0, .int .u8 0, .int .u8 0, .int .u8 0, .int .u8 0, .int .u8 0, .int .u8 0, .int .u8 0, .int .u8 0, .int .u8 0, .int .u8 0, .int .u8 0, .int .u8 0, .int .u8 0, .int .u8 0, .int .u8 0, .int .u8 0, .int .u8 0, .int .u8 0, .int .u8 0, .int .u8 0, .int .u8 0, .int .u8 0, .int .u8 0, .int .u8 0]
theorem alloc_h (w : World) : (Instr.alloc 40 true (.tuple #[])).run Tryd.prog w = .ok (.pointer (some ⟨w.heap.size, 0, none⟩)) (w.alloc (.cells zero32 40)) := by
  unfold Instr.alloc
  simp only [Sem.run_bind, Tryd.zeroValue40, Result.andThen_ok]
  rfl
theorem info_h : (Tryd.prog.info? 40).map (·.size) = some 32 := by kernel_rfl
theorem store_h {w : World} {b : Nat} {old : Array Value} {t : TypeId} {l : List UInt8} (hl : l.length = 32) (hb : w.heap[b]? = some (.cells old t (0, 0))) (ho : old.size = 32) :
    (Instr.storeAt 40 (.pointer (some ⟨b, 0, none⟩)) (encV l)).run Tryd.prog w = .ok () (w.setRow b (bytesV l).toArray) := by
  have hs : (bytesV l).toArray.size = 32 := by rw [List.size_toArray, bytesV_len, hl]
  unfold Instr.storeAt
  simp only [Instr.sureAddr, Sem.run_bind, Sem.run_pure, Result.andThen_ok]
  exact run_storeVar_row w b t _ old _ hb (by rw [info_h, hs]) (by rw [hs, ho]) (bytesV_all l)
theorem load_h {w : World} {b : Nat} {t : TypeId} {fz : Nat × Nat} {l : List UInt8} (hl : l.length = 32) (h : w.heap[b]? = some (.cells (bytesV l).toArray t fz)) : (Instr.loadAt 40 (.pointer (some ⟨b, 0, none⟩))).run Tryd.prog w = .ok (encV l) w := by
  have ht : tab Tryd.prog 40 = some (32, true) := by kernel_rfl
  obtain ⟨v, h1, h2⟩ := load_run (P := Tryd.prog) (w := w) (E := Env.all w) ht (by decide) (b := b) (off := 0) (cs := bytesG l) (fun j => .int .u8 (l.getD j 0).toNat) (by simp [bytesG, hl]) (fun j hj => by simp [World.cell?, h, bytesV, hl, hj, List.getD]) (fun j g hj _ => by
    simp only [bytesG, List.getElem?_map] at hj
    cases hq : l[j]? with
    | none => rw [hq] at hj; cases hj
    | some c => rw [hq] at hj; simp at hj; subst hj; simp [List.getD, hq]; exact .int _ _)
  rw [List.take_of_length_le (by simp [bytesG, hl])] at h2
  rw [h1]
  have := argsR_agg (E := Env.all w) (vs := #[v]) (l := l) ⟨rfl, fun i g hg => by
    match i with
    | 0 => simp at hg; subst hg; exact h2
    | i + 1 => simp at hg⟩
  have e : v = .agg (bytesV l).toArray := by simpa using this
  rw [e]; rfl
abbrev HL := { l : List UInt8 // l.length = 32 }
def encH (h : HL) : Value := encV h.1
set_option maxHeartbeats 4000000 in
theorem keys1 (F : Fence) (n : Nat) (h69 : F.fn 69) (hro : F.round = none) (hn : 1 ≤ n) (l Bm off b clock : Nat) (es : Array MapEntry) (hbo : BornOK es clock) (hks : ∀ e ∈ es.toList, ∃ h : HL, e.key = encH h) (J : List HL → World → Prop)
    (hY : ∀ pre x W, J pre W → pre.length < es.size → YieldAt F (n - 1) Tryd.prog l #[encH x] W fun e W' => e = .returned (.bool true) ∧ J (pre ++ [x]) W' ∧ KeepsWalks W W')
    (W : World) (hJ : AbidesFrom W.heap.size J)
    (hm : W.cell? ⟨Bm, off, none⟩ = some (.map (some b))) (hb : W.heap[b]? = some (.map es clock)) (h0 : J [] W) :
    CallsIn F n Tryd.prog 69 #[.func (.yield l) #[] #[], .pointer (some ⟨Bm, off, none⟩)] W fun e W' => (∃ v, e = .returned v) ∧ ∃ hs : List HL, (hs.map encH).Perm (es.toList.map MapEntry.key) ∧ J hs W' := by
  refine callsIn_of_wp Tryd.func69 rfl h69 ?_ hro
  simp only [Tryd.ntmps69, List.size_toArray, List.length_cons, List.length_nil, Nat.reduceAdd, Nat.reduceSub, Array.replicate_succ, Array.replicate_zero, List.push_toArray, List.append_toArray, List.nil_append, List.cons_append]
  gi_wp2_with (first
    | (gi_at_range; refine wpListIn_range_at _ rfl _ _ rfl _ _ Tryd.underlying77 b clock es rfl hb hbo ?_; intro w0 hrg0 hg0 hs0)
    | gi_in)
  go_frame
  gi_loopw [3] (fun _ wr => ∃ (seen : Array Nat) (xs : List MapEntry) (hs : List HL), WalkAt wr b W.heap.size es clock seen ∧ Came es seen xs ∧ hs.map encH = xs.map MapEntry.key ∧ J hs wr)
    (fun _ wr => wr.rangeLeft b W.heap.size)
  case atStart =>
    exact ⟨#[], [], [], hrg0, Came.nil es, rfl, hJ [] W w0 none h0 hg0 (fun r e => by cases e)⟩
  case round =>
    obtain ⟨seen, xs, hs, hrg, hC, hsx, hJs⟩ := hrel
    gi_wp2_with (first
      | (refine wpListIn_next_at _ rfl _ rfl b W.heap.size clock es hbo seen xs hC rfl hrg ?_ ?_)
      | gi_in)
    · -- NOTHING IS LEFT
      intro hp
      gi_wp2
      go_end0
      exact ⟨⟨_, rfl⟩, hs, by rw [hsx]; exact hp.map _, hJs⟩
    · -- AN ENTRY HAS COME: yield(k)
      intro e w2 hem hC2 hlt hrg2 hmu hg2 hs2 hen
      obtain ⟨x, ex⟩ := hks e (by simpa using hem)
      have hsx2 : (hs ++ [x]).map encH = (xs ++ [e]).map MapEntry.key := by rw [List.map_append, List.map_append, hsx]; simp [ex]
      have hlen : hs.length < es.size := by
        have := congrArg List.length hsx
        rw [List.length_map, List.length_map] at this
        omega
      rw [ex] at hen ⊢
      have hal := World.alloc_heap_new w2 (.cells zero32 40)
      have hst := store_h x.2 hal rfl
      obtain ⟨w3, hw3⟩ : ∃ w3, (w2.alloc (.cells zero32 40)).setRow w2.heap.size (bytesV x.1).toArray = w3 := ⟨_, rfl⟩
      rw [hw3] at hst
      have hx3 : w3.heap[w2.heap.size]? = some (.cells (bytesV x.1).toArray 40 (0, 0)) := by rw [← hw3]; exact setRow_heap _ _ _ _ _ _ hal
      have ho3 : ∀ k, k < w2.heap.size → w3.heap[k]? = w2.heap[k]? := fun k hk => by
        rw [← hw3, setRow_other _ _ _ _ (by omega)]
        exact Below.heap_alloc _ _ k hk
      have hs3 : w3.heap.size = w2.heap.size + 1 := by rw [← hw3]; simp
      have hk3 : KeepsWalks w2 w3 := ⟨by omega, fun k o hk ho => (ho3 k (Array.getElem?_eq_some_iff.1 hk).1).trans hk⟩
      have hg3 : w2.grownBy w3 none := ⟨by rw [← hw3]; rfl, by rw [← hw3]; rfl, by rw [← hw3]; rfl, by omega, fun k hk _ => ho3 k hk⟩
      have hlo := load_h x.2 hx3
      have hJ3 : J hs w3 := hJ hs w2 w3 none (hJ hs wr w2 (some W.heap.size) hJs hg2 (fun r e => by cases e; exact ⟨Nat.le_refl _, hrg.iter_walk⟩)) hg3 (fun r e => by cases e)
      have hrg3 := hrg2.of_walks hk3
      have hmu3 : w3.rangeLeft b W.heap.size < wr.rangeLeft b W.heap.size := by rw [hrg3.left_eq, ← hrg2.left_eq]; exact hmu
      obtain ⟨fn, tmps, assign, body, hy, hR⟩ := hY hs x w3 hJ3 hlen
      change (Instr.yield l #[encV x.1]).run Tryd.prog w3 = _ at hy
      clear hw3 hs2
      gi_wp2_with (first
        | (refine wpListIn_alloc rfl rfl (alloc_h _) ?_)
        | (refine wpListIn_store rfl rfl hst ?_)
        | (refine wpListIn_load rfl rfl hlo ?_)
        | gi_in)
      refine hR.mono ?_
      rintro e' W4 ⟨rfl, hJ4, hk4⟩
      gi_wp2
      have hrg4 := hrg3.of_walks hk4
      go_roundw
      case rel => exact ⟨_, xs ++ [e], hs ++ [x], hrg4, hC2, hsx2, hJ4⟩
      case measure => rw [hrg4.left_eq, ← hrg3.left_eq]; exact hmu3
end Gv.Tryd
/- slices.Collect of an iterator of hashes. -/
set_option linter.unusedVariables false
set_option maxRecDepth 100000
namespace Gv.Tryd
open Go Gv Go.Proofs Go.RowKit Go.Maps Go.Sort Go.Shelf
theorem keysGives (F : Fence) (n : Nat) (h69 : F.fn 69) (hro : F.round = none) (hn : 1 ≤ n) (Bm off b clock : Nat) (es : Array MapEntry) (hbo : BornOK es clock) (hks : ∀ e ∈ es.toList, ∃ h : HL, e.key = encH h) (w : World) (hBm : Bm < w.heap.size)
    (hm : w.cell? ⟨Bm, off, none⟩ = some (.map (some b))) (hb : w.heap[b]? = some (.map es clock)) :
    SeqGives F n Tryd.prog 69 #[.pointer (some ⟨Bm, off, none⟩)] encH (fun hs : List HL => (hs.map encH).Perm (es.toList.map MapEntry.key)) es.size w := fun l J W hW hJ hY h0 =>
  keys1 F n h69 hro hn l Bm off b clock es hbo hks J hY W hJ ((hW.cell (p := ⟨Bm, off, none⟩) hBm).trans hm) ((hW.block b (Array.getElem?_eq_some_iff.1 hb).1).trans hb) h0
theorem foldl_fill : ∀ (xs : List Value) (k : Nat) (cs : Array Value), k + xs.length = cs.size → ((xs.zipIdx k).foldl (fun cs p => cs.setIfInBounds p.2 p.1) cs).toList = cs.toList.take k ++ xs
  | [], k, cs, h => by simp at h ⊢; rw [List.take_of_length_le (by simp [h])]
  | x :: r, k, cs, h => by
    simp only [List.zipIdx_cons, List.foldl_cons]
    rw [foldl_fill r (k + 1) _ (by simp at h ⊢; omega)]
    have hk : k < cs.toList.length := by simp at h ⊢; omega
    rw [Array.toList_setIfInBounds, List.take_succ_eq_append_getElem (by simpa using hk), List.getElem_set_self]
    rw [List.take_set_of_le (Nat.le_refl k)]
    simp
theorem build_h (w : World) {l : List UInt8} (hl : l.length = 32) : (Instr.buildSlice 30 1 #[(0, encV l)]).run Tryd.prog w = .ok (.slice (some ⟨w.heap.size, 0, none⟩) 1 1) (w.alloc (.cells (bytesV l).toArray 40)) := by
  have hs : (bytesV l).toArray.size = 32 := by rw [List.size_toArray, bytesV_len, hl]
  have hf : ∀ a : Array Value, a.size = 32 → Instr.fill (fun i => some (i * 32, 32)) a [(0, encV l)] = some (bytesV l).toArray := by
    intro a ha
    have hc : (encV l).cells = (bytesV l).toArray := rfl
    simp only [Instr.fill, hc, hs, ha, ne_eq, not_true_eq_false, decide_false, Bool.false_or, Nat.zero_mul, gt_iff_lt, Nat.lt_irrefl, if_false, Bool.false_eq_true, Nat.zero_add]
    congr 1
    rw [← Array.foldl_toList, Array.toList_zipIdx]
    apply Array.ext'
    have := foldl_fill (bytesV l) 0 a (by rw [bytesV_len, hl, ha])
    rw [List.take_zero, List.nil_append] at this
    exact this
  unfold Instr.buildSlice
  simp only [Sem.run_bind, run_underlying Tryd.underlying30, Tryd.sizeOf40, Result.andThen_ok]
  rw [if_neg (by decide)]
  rw [if_neg (by decide)]
  simp only [Sem.run_bind, Tryd.zeroValue40, Result.andThen_ok, Sem.run_pure]
  rw [hf _ (by simp)]
  rfl
def apAssign : Code := (Code.region 2 #[{ dst := some 5, op := Op.alloc 40, type := 0, pos := "iter.go:51", after := #[], guard := none }, { dst := none, op := Op.store 40 (Operand.tmp 5) (Operand.tmp 7), type := 0, pos := "iter.go:51", after := #[{ on := 0, ground := Ground.data }, { on := 0, ground := Ground.phase }], guard := none }] false)
def apBody : Code := (Code.block 1 (Code.region 3 #[{ dst := some 8, op := Op.load 30 (Operand.tmp 2), type := 30, pos := "iter.go:52", after := #[], guard := none }, { dst := some 9, op := Op.load 40 (Operand.tmp 5), type := 40, pos := "iter.go:52", after := #[], guard := none }, { dst := some 10, op := Op.buildSlice 30 1 #[(0, Operand.tmp 9)], type := 30, pos := "iter.go:52", after := #[{ on := 1, ground := Ground.data }], guard := none }, { dst := some 11, op := Op.call { callee := Callee.builtin Builtin.append, args := #[Operand.tmp 8, Operand.tmp 10], argTypes := #[30, 30] }, type := 30, pos := "iter.go:52", after := #[{ on := 0, ground := Ground.data }, { on := 2, ground := Ground.data }], guard := none }, { dst := none, op := Op.store 30 (Operand.tmp 2) (Operand.tmp 11), type := 0, pos := "iter.go:52", after := #[{ on := 3, ground := Ground.data }, { on := 3, ground := Ground.chain }, { on := 0, ground := Ground.phase }, { on := 1, ground := Ground.phase }, { on := 2, ground := Ground.phase }, { on := 3, ground := Ground.phase }], guard := none }] false))
def apRec (fn : FuncId) (sv : Value) (Bs D : Nat) (st : LoopState) (pend : Option Code) : Loop :=
  { state := st, pending := pend, fn, tmps := #[.slice none 0 0, sv, .pointer (some ⟨Bs, 0, none⟩), undef, .slice none 0 0, undef, sv, undef, undef, undef, undef, undef, undef], params := #[7], assign := apAssign, body := apBody, defers := D }
def cellsH (hs : List HL) : List Value := hs.flatMap fun h => bytesV h.1
theorem cellsH_len (hs : List HL) : (cellsH hs).length = hs.length * 32 := by
  induction hs with
  | nil => rfl
  | cons h r ih => simp only [cellsH, List.flatMap_cons, List.length_append, List.length_cons] at ih ⊢; rw [ih, bytesV_len, h.2]; omega
theorem cellsH_snoc (hs : List HL) (h : HL) : cellsH (hs ++ [h]) = cellsH hs ++ bytesV h.1 := by simp [cellsH]
structure ApAt (w0 : World) (fn : FuncId) (sv : Value) (Bs l D : Nat) (ss : List HL) (W : World) : Prop where
  box : ∃ v, W.heap[Bs]? = some (.cells #[v] 30 (0, 0)) ∧ W.ownsRow w0.heap.size 40 32 v ss.length (cellsH ss) ∧ (v = .slice none 0 0 ↔ ss = [])
  L : W.heap[l]? = some (.loop (apRec fn sv Bs D .ready none))
  K : W.heap[D]? = some (.deferred (some []))
  below : Below w0.heap.size w0 W
theorem ap_abides (w0 : World) (fn : FuncId) (sv : Value) (Bs l D B : Nat) (hB : w0.heap.size ≤ B) : AbidesFrom B (ApAt w0 fn sv Bs l D) := fun s W W' row h hg hrow => by
  have hrow' : ∀ r, row = some r → ∃ o : Obj, W.heap[r]? = some o ∧ o.isWalk = true := fun r e => (hrow r e).2
  obtain ⟨v, hv, hr, hn⟩ := h.box
  exact ⟨⟨v, (grownBy_keeps hg hrow' hv rfl).trans hv, ownsRow_abides_a hr hg hrow', hn⟩, (grownBy_keeps hg hrow' h.L rfl).trans h.L, (grownBy_keeps hg hrow' h.K rfl).trans h.K,
    h.below.grown hg h.below.size (fun k e => Nat.le_trans hB (hrow k e).1)⟩
end Gv.Tryd
/- slices.AppendSeq and slices.Collect of an iterator of hashes: the walk. -/
set_option linter.unusedVariables false
set_option maxRecDepth 100000
namespace Gv.Tryd
open Go Gv Go.Proofs Go.RowKit Go.Maps Go.Sort Go.Shelf
theorem info_hash : ∃ i : TypeInfo, Tryd.prog.info? 40 = some i ∧ i.zero = some (.agg zero32) ∧ i.size = 32 ∧ i.bytes = 32 := by
  cases h : Tryd.prog.info? 40 with
  | none =>
    have : (Tryd.prog.info? 40).isSome = true := by kernel_rfl
    rw [h] at this; cases this
  | some i =>
    have h1 : (Tryd.prog.info? 40).bind (·.zero) = some (.agg zero32) := by kernel_rfl
    have h2 : (Tryd.prog.info? 40).map (·.size) = some 32 := by kernel_rfl
    have h3 : (Tryd.prog.info? 40).map (·.bytes) = some 32 := by kernel_rfl
    rw [h] at h1 h2 h3
    exact ⟨i, rfl, h1, by simpa using h2, by simpa using h3⟩
set_option maxHeartbeats 800000 in
theorem apYield (F : Fence) (m : Nat) (w0 : World) (fn : FuncId) (hfn : F.fn fn) (sv : Value) (Bs l D : Nat) (hBl : Bs ≠ l) (hDl : D ≠ l) (hDB : D ≠ Bs) (h0B : w0.heap.size ≤ Bs) (h0l : w0.heap.size ≤ l)
    (N : Nat) (hN : N ≤ maxLen) (hNb : N * 32 ≤ 140737488355328) (ss : List HL) (x : HL) (W : World) (h : ApAt w0 fn sv Bs l D ss W) (hlen : ss.length < N) :
    YieldAt F m Tryd.prog l #[encH x] W fun e W' => e = .returned (.bool true) ∧ ApAt w0 fn sv Bs l D (ss ++ [x]) W' ∧ KeepsWalks W W' := by
  have hne : (30 : TypeId) ≠ 40 := by decide
  obtain ⟨i0, hi, hz0, hz1, hz2⟩ := info_hash
  obtain ⟨v, hv, hrow, _⟩ := h.box
  refine ⟨fn, #[.slice none 0 0, sv, .pointer (some ⟨Bs, 0, none⟩), undef, .slice none 0 0, undef, sv, encH x, undef, undef, undef, undef, undef], apAssign, apBody, by simpa [apRec] using run_yield (P := Tryd.prog) (args := #[encH x]) h.L rfl, roundIn_of_wpIn hfn ?_⟩
  have hl : l < W.heap.size := (Array.getElem?_eq_some_iff.1 h.L).1
  have hal := World.alloc_heap_new W (.cells zero32 40)
  have hst := store_h x.2 hal rfl
  obtain ⟨W1, hW1⟩ : ∃ w3, (W.alloc (.cells zero32 40)).setRow W.heap.size (bytesV x.1).toArray = w3 := ⟨_, rfl⟩
  rw [hW1] at hst
  have hx1 : W1.heap[W.heap.size]? = some (.cells (bytesV x.1).toArray 40 (0, 0)) := by rw [← hW1]; exact setRow_heap _ _ _ _ _ _ hal
  have ho1 : ∀ k, k < W.heap.size → W1.heap[k]? = W.heap[k]? := fun k hk => by
    rw [← hW1, setRow_other _ _ _ _ (by omega)]
    exact Below.heap_alloc _ _ k hk
  have hs1 : W1.heap.size = W.heap.size + 1 := by rw [← hW1]; simp
  have hg1 : W.grownBy W1 none := ⟨by rw [← hW1]; rfl, by rw [← hW1]; rfl, by rw [← hW1]; rfl, by omega, fun k hk _ => ho1 k hk⟩
  have hk1 : KeepsWalks W W1 := ⟨by omega, fun k o hk ho => (ho1 k (Array.getElem?_eq_some_iff.1 hk).1).trans hk⟩
  clear hW1
  have old : ∀ {k : Nat} {o : Obj}, W.heap[k]? = some o → W1.heap[k]? = some o := fun hk => (ho1 _ (Array.getElem?_eq_some_iff.1 hk).1).trans hk
  have hv1 := old hv
  have hK1 := old h.K
  have hL1 := old h.L
  have hob : v.ownBlock = none ∨ v.ownBlock ≠ none := by cases v.ownBlock <;> simp
  have hrow1 : W1.ownsRow w0.heap.size 40 32 v ss.length (cellsH ss) := hrow.kept hg1 hob
  have hb1 : Below w0.heap.size w0 W1 := h.below.grown hg1 h.below.size (fun k e => by cases e)
  have hl1 : l < W1.heap.size := by omega
  have hbr := run_beginRound (P := Tryd.prog) hL1 rfl
  obtain ⟨W2, hW2⟩ : ∃ W2, W1.putObj l (.loop { apRec fn sv Bs D .ready none with state := .busy }) = W2 := ⟨_, rfl⟩
  rw [hW2] at hbr
  have hg2 : W1.grownBy W2 (some l) := by rw [← hW2]; exact grownBy_putObj_a _ _ _
  have hk2 : KeepsWalks W W2 := hk1.trans (by rw [← hW2]; exact KeepsWalks.putObj _ hL1 rfl)
  have hv2 : W2.heap[Bs]? = some (.cells #[v] 30 (0, 0)) := by rw [← hW2]; exact (World.putObj_heap_other hBl).trans hv1
  have hK2 : W2.heap[D]? = some (.deferred (some [])) := by rw [← hW2]; exact (World.putObj_heap_other hDl).trans hK1
  have hL2 : W2.heap[l]? = some (.loop { apRec fn sv Bs D .ready none with state := .busy }) := by rw [← hW2]; exact World.putObj_heap_same hl1
  have hx2 : W2.heap[W.heap.size]? = some (.cells (bytesV x.1).toArray 40 (0, 0)) := by rw [← hW2]; exact (World.putObj_heap_other (by omega)).trans hx1
  have hrow2 : W2.ownsRow w0.heap.size 40 32 v ss.length (cellsH ss) := hrow1.kept hg2 (ownsRow_ne_a hrow1 hL1 (fun cur e => by first | cases e | exact hne (Obj.cells.inj e).2.1))
  have hb2 : Below w0.heap.size w0 W2 := hb1.grown hg2 hb1.size (fun k e => by cases e; exact h0l)
  have hlo := load_h x.2 hx2
  clear hW2
  obtain ⟨hc2, hf2⟩ := cell_of_box_a hv2
  have hBlt : Bs < W2.heap.size := (Array.getElem?_eq_some_iff.1 hv2).1
  have hl2 : l < W2.heap.size := (Array.getElem?_eq_some_iff.1 hL2).1
  have hDlt : D < W2.heap.size := (Array.getElem?_eq_some_iff.1 hK2).1
  have ne_of : ∀ {j : Nat} {o : Obj}, W2.heap[j]? = some o → (∀ cur, o ≠ .cells cur 40 (0, 0)) → some j ≠ v.ownBlock := fun hj hno => by
    rcases ownsRow_ne_a hrow2 hj hno with e | e
    · rw [e]; simp
    · exact fun e' => e e'.symm
  have hbd := build_h W2 x.2
  have h32 : (bytesV x.1).length = 32 := by rw [bytesV_len, x.2]
  obtain ⟨V, hV⟩ : ∃ V, W2.alloc (.cells (bytesV x.1).toArray 40) = V := ⟨_, rfl⟩
  rw [hV] at hbd
  have hcl : ∀ (j : Nat) (u : Value), (bytesV x.1)[j]? = some u → V.cell? (Addr.add ⟨W2.heap.size, 0, none⟩ j) = some u := fun j u hj => by
    have ha : Addr.add ⟨W2.heap.size, 0, none⟩ j = ⟨W2.heap.size, j, none⟩ := by unfold Addr.add; split <;> simp_all
    have := World.alloc_heap_new W2 (.cells (bytesV x.1).toArray 40)
    rw [ha, ← hV]
    simp only [World.cell?, this]
    simpa using hj
  have hrowV : V.ownsRow w0.heap.size 40 32 v ss.length (cellsH ss) := by rw [← hV]; exact hrow2.alloc _
  have hsV : V.heap.size = W2.heap.size + 1 := by rw [← hV]; simp
  have oldV : ∀ {k : Nat} {o : Obj}, W2.heap[k]? = some o → V.heap[k]? = some o := fun hk => by rw [← hV]; exact (Below.heap_alloc _ _ _ (Array.getElem?_eq_some_iff.1 hk).1).trans hk
  have hbV : Below w0.heap.size w0 V := by rw [← hV]; exact hb2.alloc hb2.size _
  have hkV : KeepsWalks W V := hk2.trans (by rw [← hV]; exact KeepsWalks.alloc _ _)
  have h0V := hbV.size
  clear hV
  unfold apAssign
  gi_wp2_with (first
    | (refine wpListIn_alloc (t := 40) rfl rfl (alloc_h _) ?_)
    | (refine wpListIn_store (t := 40) (x := .tmp 5) (y := .tmp 7) (w' := W1) rfl rfl ?_ ?_; exact hst)
    | gi_round_op_a)
  unfold apBody
  gi_wp2_with (first
    | (refine wpListIn_load (t := 40) (x := .tmp 5) (v := encV x.1) rfl rfl ?_ ?_; exact hlo)
    | (refine wpListIn_buildSlice1 (t := 30) (x := .tmp 9) (v := .slice (some ⟨W2.heap.size, 0, none⟩) 1 1) (w' := V) rfl rfl ?_ ?_; exact hbd)
    | (gi_at_builtin; refine wpListIn_append_own V rfl (.tmp 8) (.tmp 10) 30 rfl w0.heap.size 40 i0 (.agg zero32) 32 32 Tryd.underlying30 hi hz0 hz1 hz2 rfl (by decide) v _ _ rfl hrowV ⟨W2.heap.size, 0, none⟩ 1 1 (bytesV x.1) rfl (by rw [h32]) hcl (bytesV_one x.1) (by omega) (by omega) h0V ?_; intro v' w3 hown' hg3 hnil3
       have hv3 : w3.heap[Bs]? = some (.cells #[v] 30 (0, 0)) := (hg3.block Bs (by omega) (ne_of hv2 (fun cur e => by first | cases e | exact hne (Obj.cells.inj e).2.1))).trans (oldV hv2)
       obtain ⟨hc3, hf3⟩ := cell_of_box_a hv3
       obtain ⟨g', cap', cur', rfl, hbase', hgb', hr1, hr2, hr3, hr4⟩ : ∃ g' cap' cur', v' = .slice (some ⟨g', 0, none⟩) (ss.length + 1) cap' ∧ w0.heap.size ≤ g' ∧ w3.heap[g']? = some (.cells cur' 40 (0, 0)) ∧ ss.length + 1 ≤ cap' ∧ cap' ≤ maxLen ∧ cur'.size = cap' * 32 ∧ cur'.toList.take ((ss.length + 1) * 32) = cellsH ss ++ bytesV x.1 := by
         rcases hown'.2 with ⟨_, h0⟩ | h'
         · exact absurd h0 (by omega)
         · exact h'
       go_frame)
    | gi_round_op_a)
  have hL3 : w3.heap[l]? = some (.loop { apRec fn sv Bs D .ready none with state := .busy }) := (hg3.block l (by omega) (ne_of hL2 (fun cur e => by first | cases e | exact hne (Obj.cells.inj e).2.1))).trans (oldV hL2)
  have hK3 : w3.heap[D]? = some (.deferred (some [])) := (hg3.block D (by omega) (ne_of hK2 (fun cur e => by first | cases e | exact hne (Obj.cells.inj e).2.1))).trans (oldV hK2)
  obtain ⟨w4, hw4⟩ : ∃ w4, w3.setCell ⟨Bs, 0, none⟩ (.slice (some ⟨g', 0, none⟩) (ss.length + 1) cap') = w4 := ⟨_, rfl⟩
  rw [hw4]
  have hg4 : w3.grownBy w4 (some Bs) := by rw [← hw4]; exact grownBy_setCell0_a _ _ _
  have hv4 : w4.heap[Bs]? = some (.cells #[.slice (some ⟨g', 0, none⟩) (ss.length + 1) cap'] 30 (0, 0)) := by rw [← hw4]; exact heap_setCell_box_a _ hv3
  have hL4 : w4.heap[l]? = some (.loop { apRec fn sv Bs D .ready none with state := .busy }) := (hg4.block l (Array.getElem?_eq_some_iff.1 hL3).1 (fun e => hBl (by cases e; rfl))).trans hL3
  have hK4 : w4.heap[D]? = some (.deferred (some [])) := (hg4.block D (Array.getElem?_eq_some_iff.1 hK3).1 (fun e => hDB (by cases e; rfl))).trans hK3
  have hrow4 := hown'.kept hg4 (ownsRow_ne_a hown' hv3 (fun cur e => by first | cases e | exact hne (Obj.cells.inj e).2.1))
  have hl4 : l < w4.heap.size := (Array.getElem?_eq_some_iff.1 hL4).1
  have hb3 : Below w0.heap.size w0 w3 := hbV.grown hg3 h0V (fun k e => (hrow2.lt k e).1)
  have hb4 : Below w0.heap.size w0 w4 := hb3.grown hg4 hb3.size (fun k e => by cases e; exact h0B)
  have hk4 : KeepsWalks W w4 := (hkV.trans (KeepsWalks.of_grownBy hg3 (ownsRow_not_walk_a hrowV))).trans (by rw [← hw4]; exact KeepsWalks.setCell _ _ _)
  clear hw4
  refine ⟨_, _, run_endRound none hL4, rfl, ⟨⟨_, (World.putObj_heap_other hBl).trans hv4, ?_, by simp⟩, World.putObj_heap_same hl4, (World.putObj_heap_other hDl).trans hK4, hb4.grown (grownBy_putObj_a _ _ _) hb4.size (fun k e => by cases e; exact h0l)⟩, hk4.trans (KeepsWalks.putObj _ hL4 rfl)⟩
  have := hrow4.kept (grownBy_putObj_a w4 l (.loop { { apRec fn sv Bs D .ready none with state := .busy } with state := if (none : Option Code).isNone then .ready else .done, pending := none })) (ownsRow_ne_a hrow4 hL4 (fun cur e => by first | cases e | exact hne (Obj.cells.inj e).2.1))
  rw [cellsH_snoc, List.length_append]
  exact this
set_option maxHeartbeats 2000000 in
theorem appendSeq (F : Fence) (n : Nat) (h11 : F.fn 52) (hro : F.round = none) (hn : 2 ≤ n) (g : Nat) (lb : Array Value) (hFg : F.fn g) (eg : ∀ args w, (callFunc g args).run Tryd.prog w = .ok (.enter g args) w)
    (S : List HL → Prop) (N : Nat) (hN : N ≤ maxLen) (hNb : N * 32 ≤ 140737488355328) (w : World) (hseq : SeqGives F (n - 1) Tryd.prog g lb encH S N w) :
    CallsIn F n Tryd.prog 52 #[.slice none 0 0, .func (.func g) #[] lb] w fun e w' => ∃ (v : Value) (ss : List HL), e = .returned v ∧ S ss ∧ w'.ownsRow w.heap.size 40 32 v ss.length (cellsH ss) ∧ (v = .slice none 0 0 ↔ ss = []) ∧ Below w.heap.size w w' := by
  have h1 : 1 ≤ n := by omega
  have hne : (30 : TypeId) ≠ 40 := by decide
  refine callsIn_of_wp_marks Tryd.func52 rfl h11 ?_ hro
  simp only [Tryd.ntmps52, List.size_toArray, List.length_cons, List.length_nil, Nat.reduceAdd, Nat.reduceSub, Array.replicate_succ, Array.replicate_zero, List.push_toArray, List.append_toArray, List.nil_append, List.cons_append]
  gi_wp2
  refine wpIn_rangeFunc ?_
  intro fn hfn
  rw [hro]
  obtain ⟨W0, hW0⟩ : ∃ W0, w.alloc (.cells #[.slice none 0 0] 30) = W0 := ⟨_, rfl⟩
  have hs0 : W0.heap.size = w.heap.size + 1 := by rw [← hW0]; simp
  have hv0 : W0.heap[w.heap.size]? = some (.cells #[.slice none 0 0] 30 (0, 0)) := by rw [← hW0]; exact World.alloc_heap_new w _
  have hb0 : Below w.heap.size w W0 := by rw [← hW0]; exact (Below.refl _ w).alloc (Nat.le_refl _) _
  rw [hW0]
  obtain ⟨W1, hW1⟩ : ∃ W1, (W0.alloc (.deferred (some []))).alloc (.loop (apRec fn (.func (.func g) #[] lb) w.heap.size W0.heap.size .ready none)) = W1 := ⟨_, rfl⟩
  have hold : ∀ k, k < W0.heap.size → W1.heap[k]? = W0.heap[k]? := fun k hk => by
    rw [← hW1]; exact (Below.heap_alloc _ _ k (by simp; omega)).trans (Below.heap_alloc _ _ k hk)
  have hb1 : Below w.heap.size w W1 := by rw [← hW1]; exact (hb0.alloc hb0.size _).alloc (by have := hb0.size; simp; omega) _
  have hs1 : W1.heap.size = W0.heap.size + 2 := by rw [← hW1]; simp
  have hM : ApAt w fn (.func (.func g) #[] lb) w.heap.size (W0.heap.size + 1) W0.heap.size [] W1 :=
    ⟨⟨_, (hold w.heap.size (by omega)).trans hv0, ⟨rfl, .inl ⟨rfl, rfl⟩⟩, by simp⟩,
     by rw [← hW1]; have := World.alloc_heap_new (W0.alloc (.deferred (some []))) (.loop (apRec fn (.func (.func g) #[] lb) w.heap.size W0.heap.size .ready none)); rwa [World.size_alloc] at this,
     by rw [← hW1]; exact (Below.heap_alloc _ _ _ (by simp)).trans (World.alloc_heap_new W0 _), hb1⟩
  refine ⟨W0.heap.size + 1, [{ target := .collected W0.heap.size, args := #[] }], W1, { target := .fn (.func g) lb, args := #[.func (.yield (W0.heap.size + 1)) #[] #[]] }, W1, g,
    #[.func (.yield (W0.heap.size + 1)) #[] #[]] ++ lb, W1, ?_, ?_, ?_, ?_, fun _ => h1, ?_⟩
  · rw [← hW1]; exact run_enterLoop_outer _ _ _ _ _
  · simp [resolve, go_sem]
  · intro f' hf'; simp [Target.leads] at hf'; subst hf'; exact hFg
  · simp [invoke, go_sem, eg]
  · refine (hseq (W0.heap.size + 1) (ApAt w fn (.func (.func g) #[] lb) w.heap.size (W0.heap.size + 1) W0.heap.size) W1 hb1 (ap_abides _ _ _ _ _ _ _ hb1.size)
      (fun pre x W hJ hl => apYield F (n - 1 - 1) w fn hfn _ w.heap.size (W0.heap.size + 1) W0.heap.size (by omega) (by omega) (by omega) (Nat.le_refl _) (by omega) N hN hNb pre x W hJ hl) hM).mono ?_
    rintro e W2 ⟨⟨v0, rfl⟩, ss, hS, h2⟩
    obtain ⟨v, hv, hrow, hnil⟩ := h2.box
    have hend := run_endLoop (P := Tryd.prog) h2.L (by simp [apRec])
    obtain ⟨W3, hW3⟩ : ∃ W3, W2.putObj (W0.heap.size + 1) (.loop { apRec fn (.func (.func g) #[] lb) w.heap.size W0.heap.size .ready none with state := .exhausted }) = W3 := ⟨_, rfl⟩
    rw [hW3] at hend
    have hg3 : W2.grownBy W3 (some (W0.heap.size + 1)) := by rw [← hW3]; exact grownBy_putObj_a _ _ _
    have hv3 : W3.heap[w.heap.size]? = some (.cells #[v] 30 (0, 0)) := by rw [← hW3]; exact (World.putObj_heap_other (by omega)).trans hv
    have hK3 : W3.heap[W0.heap.size]? = some (.deferred (some [])) := by rw [← hW3]; exact (World.putObj_heap_other (by omega)).trans h2.K
    have hrow3 := hrow.kept hg3 (ownsRow_ne_a hrow h2.L (fun cur e => by first | cases e | exact hne (Obj.cells.inj e).2.1))
    have hb3 : Below w.heap.size w W3 := h2.below.grown hg3 h2.below.size (fun k e => by cases e; omega)
    obtain ⟨hc3, hf3⟩ := cell_of_box_a hv3
    clear hW3
    refine ⟨none, W3, hend, ?_⟩
    gi_wp2
    rw [← hs0]
    refine ⟨by simp, .inl ⟨_, _, rfl, run_takeDeferred hK3, ?_⟩⟩
    exact ⟨_, results_tmp rfl _ _ _, v, ss, rfl, hS, hrow3.kept (grownBy_putObj_a _ _ _) (ownsRow_ne_a hrow3 hK3 (fun cur e => by first | cases e | exact hne (Obj.cells.inj e).2.1)), hnil, hb3.grown (grownBy_putObj_a _ _ _) hb3.size (fun k e => by cases e; omega)⟩
set_option maxHeartbeats 1000000 in
theorem collect (F : Fence) (n : Nat) (h8 : F.fn 30) (h11 : F.fn 52) (hro : F.round = none) (hn : 3 ≤ n) (g : Nat) (lb : Array Value) (hFg : F.fn g) (eg : ∀ args w, (callFunc g args).run Tryd.prog w = .ok (.enter g args) w)
    (S : List HL → Prop) (N : Nat) (hN : N ≤ maxLen) (hNb : N * 32 ≤ 140737488355328) (w : World) (hseq : SeqGives F (n - 1 - 1) Tryd.prog g lb encH S N w) :
    CallsIn F n Tryd.prog 30 #[.func (.func g) #[] lb] w fun e w' => ∃ (v : Value) (ss : List HL), e = .returned v ∧ S ss ∧ w'.ownsRow w.heap.size 40 32 v ss.length (cellsH ss) ∧ (v = .slice none 0 0 ↔ ss = []) ∧ Below w.heap.size w w' := by
  have h1 : 1 ≤ n := by omega
  have e11 : ∀ args w, (callFunc 52 args).run Tryd.prog w = .ok (.enter 52 args) w := enters_of Tryd.func52 (by kernel_rfl) rfl
  refine callsIn_of_wp Tryd.func30 rfl h8 ?_ hro
  simp only [Tryd.ntmps30, List.size_toArray, List.length_cons, List.length_nil, Nat.reduceAdd, Nat.reduceSub, Array.replicate_succ, Array.replicate_zero, List.push_toArray, List.append_toArray, List.nil_append, List.cons_append]
  gi_wp2_with (gi_at_fn 52; refine (appendSeq F (n - 1) h11 hro (by omega) g lb hFg eg S N hN hNb _ hseq).mono ?_; rintro e w' ⟨v, ss, rfl, hS, hrow, hnil, hb⟩)
  go_ret
  exact ⟨v, ss, rfl, hS, hrow, hnil, hb⟩
end Gv.Tryd
