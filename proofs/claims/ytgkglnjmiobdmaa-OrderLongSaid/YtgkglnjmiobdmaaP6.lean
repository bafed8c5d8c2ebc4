/- A call that is handed one object of the caller's: wherever it lies among the caller's objects, the others stay as they are. -/
import Derived.Test.YtgkglnjmiobdmaaP5
import Derived.Below
import Derived.Test.YtgkglnjmiobdmaaProg
import Derived.KernelRfl
set_option linter.unusedVariables false
namespace Gv
open Go
def GVal.place (i : Nat) : GVal → GVal
  | .ptr _ st a b => .ptr i st a b
  | .own _ st a b => .own i st a b
  | .map _ st => .map i st
  | g => g
theorem VR.place {E : Env} {v : Value} {g : GVal} (i : Nat) (h : VR E v (g.place i)) : VR E v g := by
  cases g with
  | ptr o st a b => cases h; exact .ptr _ _ _ _ _ _ _ (by assumption) (by assumption) (by assumption)
  | own o st a b => cases h; exact .own _ _ _ _ _ _ _ (by assumption) (by assumption) (by assumption)
  | map o st => cases h; exact .map _ _ _ _ (by assumption) (by assumption)
  | _ => exact h
theorem HSim.only {E : Env} {O : List GObj} {w : World} (h : HSim E O w) {i : Nat} {x : GObj} (hx : O[i]? = some x) (hc : x.isClock = false) : HSim E [x] w := by
  refine ⟨?_, h.sealed, h.one, fun k y hy => ?_, fun a b oa ob bb hab ha hb => ?_, h.glob⟩
  · obtain ⟨n, _, h2⟩ := h.fin
    refine ⟨n, fun c hc' => ?_, h2⟩
    cases x <;> simp [clockOf, GObj.isClock] at hc' hc
  · match k with
    | 0 => simp at hy; subst hy; exact h.real i x hx
    | k + 1 => simp at hy
  · match a, b with
    | 0, 0 => exact absurd rfl hab
    | a + 1, _ => simp at ha
    | 0, b + 1 => simp at hb
theorem GCalls.ownFrame {P : Program} {f : FuncId} {args : List GVal} {x : GObj} {R : GVal → GObj → Prop} (h : GCalls P f args [x] (fun g O' => ∃ x', O' = [x'] ∧ R g x')) {O : List GObj} (i : Nat) (hO : O[i]? = some x) (hc : clockOf O = none) (hcl : ∀ g x', R g x' → x'.isClock = false) (hx : x.isClock = false) :
    GCalls P f (args.map (GVal.place i)) O (fun g O' => ∃ x', O' = O.set i x' ∧ R g x') := by
  have hlt : i < O.length := (List.getElem?_eq_some_iff.1 hO).1
  refine ⟨h.1, fun E w vs hs ha => ?_⟩
  have ha' : ArgsR E vs args := ⟨by simpa using ha.1, fun k g hg => VR.place i (ha.2 k _ (by simp [hg]))⟩
  refine (h.2 E w vs (hs.only hO hx) ha').mono ?_
  rintro e w' ⟨v, E', O', g, rfl, h1, h2, h3, x', rfl, hR⟩
  have inX : ∀ b, InO E [x] b ↔ x.blk E = some b := fun b => ⟨fun ⟨k, y, hy, hb⟩ => by
    match k with
    | 0 => simp at hy; subst hy; exact hb
    | k + 1 => simp at hy, fun hb => ⟨0, x, rfl, hb⟩⟩
  have inX' : ∀ b, x'.blk E' = some b → x.blk E = some b ∨ w.heap.size ≤ b := fun b hb => by
    rcases h2.objs b ⟨0, x', rfl, hb⟩ with q | q
    · exact .inl ((inX b).1 q)
    · exact .inr q
  have get : ∀ (k : Nat) y, (O.set i x')[k]? = some y → (k = i ∧ y = x') ∨ (k ≠ i ∧ O[k]? = some y) := by
    intro k y hy
    rw [List.getElem?_set] at hy
    by_cases e : i = k
    · rw [if_pos e, if_pos hlt] at hy
      simp only [Option.some.injEq] at hy; exact .inl ⟨e.symm, hy.symm⟩
    · rw [if_neg e] at hy; exact .inr ⟨fun q => e q.symm, hy⟩
  have far : ∀ (k : Nat) y b, k ≠ i → O[k]? = some y → y.blk E = some b → ¬ InO E [x] b := fun k y b hk hy hb hin => hs.sep k i y x b hk hy hO hb ((inX b).1 hin)
  have hold : ∀ (k : Nat) y, k ≠ i → O[k]? = some y → Realized E' w' y ∧ y.blk E' = y.blk E := fun k y hk hy =>
    ⟨(hs.real k y hy).keep h2.ext (fun b hb => h2.heap b ((hs.real k y hy).blk_lt hb) (far k y b hk hy hb)) (fun b o v hb hv => by
      rcases h2.snap b o v hv with q | q | q
      · exact q
      · exact absurd ((hs.real k y hy).blk_lt hb) (by omega)
      · exact absurd q (far k y b hk hy hb)), GObj.blk_mono h2.ext (hs.real k y hy)⟩
  have hclk : clockOf (O.set i x') = none := by
    have := clockOf_set (obj' := x') hO hx (hcl _ _ hR)
    rw [this, hc]
  have hx'r : Realized E' w' x' := h1.real 0 x' rfl
  refine ⟨v, E', O.set i x', g, rfl, ⟨?_, h1.sealed, h1.one, fun k y hy => ?_, fun a b oa ob bb hab ha1 hb1 q1 q2 => ?_, h1.glob⟩, ⟨h2.ext, h2.os, h2.out, h2.size, fun b hb hn => h2.heap b hb fun hin => hn ⟨i, x, hO, (inX b).1 hin⟩, fun b o v hv => ?_, fun b hb => ?_, trivial⟩, h3, x', rfl, hR⟩
  · obtain ⟨n, _, q⟩ := h1.fin
    exact ⟨n, fun c hc' => (by rw [hclk] at hc'; cases hc'), q⟩
  · rcases get k y hy with ⟨rfl, rfl⟩ | ⟨hk, hy⟩
    · exact hx'r
    · exact (hold k y hk hy).1
  · rcases get a oa ha1 with ⟨rfl, rfl⟩ | ⟨hka, hya⟩ <;> rcases get b ob hb1 with ⟨rfl, rfl⟩ | ⟨hkb, hyb⟩
    · exact hab rfl
    · rw [(hold b ob hkb hyb).2] at q2
      rcases inX' bb q1 with e | e
      · exact hs.sep b a ob x bb hkb hyb hO q2 e
      · exact absurd ((hs.real b ob hyb).blk_lt q2) (by omega)
    · rw [(hold a oa hka hya).2] at q1
      rcases inX' bb q2 with e | e
      · exact hs.sep a b oa x bb hka hya hO q1 e
      · exact absurd ((hs.real a oa hya).blk_lt q1) (by omega)
    · rw [(hold a oa hka hya).2] at q1
      rw [(hold b ob hkb hyb).2] at q2
      exact hs.sep a b oa ob bb hab hya hyb q1 q2
  · rcases h2.snap b o v hv with q | q | q
    · exact .inl q
    · exact .inr (.inl q)
    · exact .inr (.inr ⟨i, x, hO, (inX b).1 q⟩)
  · obtain ⟨k, y, hy, hb⟩ := hb
    rcases get k y hy with ⟨rfl, rfl⟩ | ⟨hk, hy⟩
    · rcases inX' b hb with e | e
      · exact .inl ⟨_, x, hO, e⟩
      · exact .inr e
    · exact .inl ⟨k, y, hy, by rw [← (hold k y hk hy).2]; exact hb⟩
def dropTo (K : GVal → List GObj → Prop) (g : GVal) (O' : List GObj) : Prop := ∃ g' O1 X, O' = O1 ++ X ∧ leA g g' ∧ K g' O1
theorem GCalls.dropTo {P : Program} {f : FuncId} {args : List GVal} {O : List GObj} {K : GVal → List GObj → Prop} (h : GCalls P f args O (dropTo K)) : GCalls P f args O K :=
  (h.mono fun g O' ⟨g', O1, X, e, hl, hk⟩ => by
    subst e
    exact fun E v w hs hv => by
      obtain ⟨h1, h2⟩ := hs.drop
      exact ⟨g', O1, E, hk, h1, h2, hl.sound hv⟩ : GCalls P f args O (fun g O' => GInto g O' K)).into
end Gv
/- A call that is handed some of the caller's objects, wherever they lie: the others stay as they are; what it leaves behind may be forgotten. -/
set_option linter.unusedVariables false
namespace Gv
open Go
structure OLe (x y : GObj) : Prop where
  real : ∀ E w, Realized E w x → Realized E w y
  blk : ∀ E, y.blk E = x.blk E
  clk : y.isClock = x.isClock
theorem OLe.refl (x : GObj) : OLe x x := ⟨fun _ _ h => h, fun _ => rfl, rfl⟩
theorem OLe.row {st sz : Nat} {xs ys : List (List GVal)} (h : GLess xs ys) : OLe (.row st sz xs) (.row st sz ys) := by
  obtain ⟨h1, h2, h3⟩ := h.flat
  refine ⟨fun E w hr => ?_, fun E => rfl, rfl⟩
  obtain ⟨l, hl, hz, hx, hb⟩ := hr
  refine ⟨l, hl, hz, h3 sz hx, ?_⟩
  cases hbl : l.block with
  | none => simp only [hbl] at hb; subst hb; exact List.length_eq_zero_iff.1 (by rw [← h2]; rfl)
  | some b =>
    simp only [hbl] at hb ⊢
    obtain ⟨cur, el, a1, a2, a3, a4, a5⟩ := hb
    refine ⟨cur, el, a1, a2, by rw [← h2]; exact a3, fun j g hj => ?_, a5⟩
    obtain ⟨g0, hg0, hle⟩ := h1.at_ j g hj
    obtain ⟨v, q1, q2, q3⟩ := a4 j g0 hg0
    exact ⟨v, q1, q2, hle _ _ q3⟩
theorem GLe.place (i : Nat) (g : GVal) : GLe g (g.place i) := fun E v h => by
  cases g with
  | ptr o st a b => cases h; exact .ptr _ _ _ _ _ _ _ (by assumption) (by assumption) (by assumption)
  | own o st a b => cases h; exact .own _ _ _ _ _ _ _ (by assumption) (by assumption) (by assumption)
  | map o st => cases h; exact .map _ _ _ _ (by assumption) (by assumption)
  | _ => exact h
theorem GLe.ptr (o o' st i j : Nat) : GLe (.ptr o st i j) (.ptr o' st i j) := GLe.place o' (.ptr o st i j)
theorem GLe.map (o o' st : Nat) : GLe (.map o st) (.map o' st) := GLe.place o' (.map o st)
theorem GLe.own (o o' st i j : Nat) : GLe (.own o st i j) (.own o' st i j) := GLe.place o' (.own o st i j)
def Comes (O : List GObj) (pl : List Nat) (O' : List GObj) : List (Bool × Nat) → List GObj → Prop
  | [], [] => True
  | (true, j) :: s, z :: r => (j ∉ pl ∧ ∃ y, O[j]? = some y ∧ OLe y z) ∧ Comes O pl O' s r
  | (false, j) :: s, z :: r => (∃ y, O'[j]? = some y ∧ OLe y z) ∧ Comes O pl O' s r
  | _, _ => False
theorem Comes.at_ {O O' : List GObj} {pl : List Nat} : ∀ {s : List (Bool × Nat)} {r : List GObj}, Comes O pl O' s r → ∀ (k : Nat) z, r[k]? = some z →
    (∃ j, s[k]? = some (true, j) ∧ j ∉ pl ∧ ∃ y, O[j]? = some y ∧ OLe y z) ∨ (∃ j, s[k]? = some (false, j) ∧ ∃ y, O'[j]? = some y ∧ OLe y z)
  | [], [], _, k, z, hz => by simp at hz
  | (true, j) :: s, z :: r, h, 0, y, hy => by simp at hy; subst hy; exact .inl ⟨j, rfl, h.1⟩
  | (false, j) :: s, z :: r, h, 0, y, hy => by simp at hy; subst hy; exact .inr ⟨j, rfl, h.1⟩
  | (true, j) :: s, z :: r, h, k + 1, y, hy => by
    have := Comes.at_ h.2 k y (by simpa using hy)
    simpa using this
  | (false, j) :: s, z :: r, h, k + 1, y, hy => by
    have := Comes.at_ h.2 k y (by simpa using hy)
    simpa using this
  | [], _ :: _, h, _, _, _ => h.elim
  | (true, _) :: _, [], h, _, _, _ => h.elim
  | (false, _) :: _, [], h, _, _, _ => h.elim
def Fits (O : List GObj) : List Nat → List GObj → Prop
  | [], [] => True
  | j :: pl, x :: r => (∃ y, O[j]? = some y ∧ OLe y x) ∧ Fits O pl r
  | _, _ => False
theorem Fits.at_ {O : List GObj} : ∀ {pl : List Nat} {X : List GObj}, Fits O pl X → ∀ (i : Nat) x, X[i]? = some x → ∃ j y, pl[i]? = some j ∧ O[j]? = some y ∧ OLe y x
  | [], [], _, i, x, h => by simp at h
  | j :: pl, x :: r, h, 0, y, hy => by simp at hy; subst hy; obtain ⟨y, h1, h2⟩ := h.1; exact ⟨j, y, rfl, h1, h2⟩
  | j :: pl, x :: r, h, i + 1, y, hy => by simpa using Fits.at_ h.2 i y (by simpa using hy)
  | [], _ :: _, h, _, _, _ => h.elim
  | _ :: _, [], h, _, _, _ => h.elim
theorem GCalls.frame {P : Program} {f : FuncId} {args args' : List GVal} {X O : List GObj} {K K' : GVal → List GObj → Prop} (h : GCalls P f args X K) (pl : List Nat) (hX : Fits O pl X) (hnd : pl.Nodup) (ha : GLes args' args) (hcX : clockOf X = none) (hc : clockOf O = none)
    (hK : ∀ g O', K g O' → ∃ g' O'' s, K' g' O'' ∧ GLe g g' ∧ Comes O pl O' s O'' ∧ s.Nodup ∧ clockOf O'' = none) : GCalls P f args' O K' := by
  refine ⟨h.1, fun E w vs hs hv => ?_⟩
  have hsX : HSim E X w := by
    refine ⟨by obtain ⟨n, _, q⟩ := hs.fin; exact ⟨n, fun c e => (by rw [hcX] at e; cases e), q⟩, hs.sealed, hs.one, fun i x hx => ?_, fun i j oi oj b hij hi hj hbi hbj => ?_, hs.glob⟩
    · obtain ⟨j, y, h1, h2, h3⟩ := hX.at_ i x hx
      exact h3.real _ _ (hs.real j y h2)
    · obtain ⟨i', yi, p1, p2, p3⟩ := hX.at_ i oi hi
      obtain ⟨j', yj, q1, q2, q3⟩ := hX.at_ j oj hj
      have hne : i' ≠ j' := fun e => by
        subst e
        have hil := (List.getElem?_eq_some_iff.1 p1)
        have hjl := (List.getElem?_eq_some_iff.1 q1)
        obtain ⟨a1, a2⟩ := hil
        obtain ⟨b1, b2⟩ := hjl
        exact hij ((List.getElem_inj hnd).1 (a2.trans b2.symm))
      rw [p3.blk] at hbi
      rw [q3.blk] at hbj
      exact hs.sep i' j' yi yj b hne p2 q2 hbi hbj
  have hv' : ArgsR E vs args := ⟨by rw [hv.1, ha.len], fun k g hg => by
    obtain ⟨x, hx, hle⟩ := ha.at_ k g hg
    exact hle _ _ (hv.2 k x hx)⟩
  refine (h.2 E w vs hsX hv').mono ?_
  rintro e w' ⟨v, E', O', g, rfl, h1, h2, h3, hk⟩
  obtain ⟨g', O'', s, hK', hg, hcm, hsn, hcl⟩ := hK g O' hk
  have inX : ∀ b, InO E X b → InO E O b := fun b ⟨i, x, hx, hb⟩ => by
    obtain ⟨j, y, _, hy, hle⟩ := hX.at_ i x hx
    exact ⟨j, y, hy, by rw [← hle.blk]; exact hb⟩
  have far : ∀ (j : Nat) y b, j ∉ pl → O[j]? = some y → y.blk E = some b → ¬ InO E X b := fun j y b hj hy hb ⟨i, x, hx, hxb⟩ => by
    obtain ⟨j', y', p1, p2, p3⟩ := hX.at_ i x hx
    have hne : j ≠ j' := fun e => hj (by rw [e]; exact List.mem_of_getElem? p1)
    rw [p3.blk] at hxb
    exact hs.sep j j' y y' b hne hy p2 hb hxb
  have hold : ∀ (j : Nat) y, j ∉ pl → O[j]? = some y → Realized E' w' y ∧ y.blk E' = y.blk E := fun j y hj hy =>
    ⟨(hs.real j y hy).keep h2.ext (fun b hb => h2.heap b ((hs.real j y hy).blk_lt hb) (far j y b hj hy hb)) (fun b o v hb hv => by
      rcases h2.snap b o v hv with q | q | q
      · exact q
      · exact absurd ((hs.real j y hy).blk_lt hb) (by omega)
      · exact absurd q (far j y b hj hy hb)), GObj.blk_mono h2.ext (hs.real j y hy)⟩
  have hnew : ∀ (j : Nat) y b, O'[j]? = some y → y.blk E' = some b → InO E X b ∨ w.heap.size ≤ b := fun j y b hy hb => h2.objs b ⟨j, y, hy, hb⟩
  refine ⟨v, E', O'', g', rfl, ⟨?_, h1.sealed, h1.one, fun k z hz => ?_, fun a b oa ob bb hab ha1 hb1 q1 q2 => ?_, h1.glob⟩, ⟨h2.ext, h2.os, h2.out, h2.size, fun b hb hn => h2.heap b hb fun hin => hn (inX b hin), fun b o v hv => ?_, fun b hb => ?_, trivial⟩, hg _ _ h3, hK'⟩
  · obtain ⟨n, _, q⟩ := h1.fin
    exact ⟨n, fun c hc' => (by rw [hcl] at hc'; cases hc'), q⟩
  · rcases hcm.at_ k z hz with ⟨j, _, hj, y, hy, hle⟩ | ⟨j, _, y, hy, hle⟩
    · exact hle.real _ _ (hold j y hj hy).1
    · exact hle.real _ _ (h1.real j y hy)
  · have uniq : ∀ (x : Bool × Nat), s[a]? = some x → s[b]? = some x → False := fun x ea eb => by
      obtain ⟨a1, a2⟩ := List.getElem?_eq_some_iff.1 ea
      obtain ⟨b1, b2⟩ := List.getElem?_eq_some_iff.1 eb
      exact hab ((List.getElem_inj hsn).1 (a2.trans b2.symm))
    rcases hcm.at_ a oa ha1 with ⟨ja, sa, ka, ya, hya, la⟩ | ⟨ja, sa, ya, hya, la⟩ <;> rcases hcm.at_ b ob hb1 with ⟨jb, sb, kb, yb, hyb, lb⟩ | ⟨jb, sb, yb, hyb, lb⟩
    · rw [la.blk, (hold ja ya ka hya).2] at q1
      rw [lb.blk, (hold jb yb kb hyb).2] at q2
      exact hs.sep ja jb ya yb bb (fun e => uniq (true, ja) sa (by rw [e]; exact sb)) hya hyb q1 q2
    · rw [la.blk, (hold ja ya ka hya).2] at q1
      rw [lb.blk] at q2
      rcases hnew jb yb bb hyb q2 with e | e
      · exact far ja ya bb ka hya q1 e
      · exact absurd ((hs.real ja ya hya).blk_lt q1) (by omega)
    · rw [la.blk] at q1
      rw [lb.blk, (hold jb yb kb hyb).2] at q2
      rcases hnew ja ya bb hya q1 with e | e
      · exact far jb yb bb kb hyb q2 e
      · exact absurd ((hs.real jb yb hyb).blk_lt q2) (by omega)
    · rw [la.blk] at q1
      rw [lb.blk] at q2
      exact h1.sep ja jb ya yb bb (fun e => uniq (false, ja) sa (by rw [e]; exact sb)) hya hyb q1 q2
  · rcases h2.snap b o v hv with q | q | q
    · exact .inl q
    · exact .inr (.inl q)
    · exact .inr (.inr (inX b q))
  · obtain ⟨k, z, hz, hb⟩ := hb
    rcases hcm.at_ k z hz with ⟨j, _, hj, y, hy, hle⟩ | ⟨j, _, y, hy, hle⟩
    · rw [hle.blk, (hold j y hj hy).2] at hb
      exact .inl ⟨j, y, hy, hb⟩
    · rw [hle.blk] at hb
      rcases hnew j y b hy hb with e | e
      · exact .inl (inX b e)
      · exact .inr e
def GObj.place (j : Nat) : GObj → GObj
  | .row st sz xs => .row st sz (xs.map fun c => c.map (GVal.place j))
  | o => o
theorem GLes.place (j : Nat) : ∀ c : List GVal, GLes c (c.map (GVal.place j))
  | [] => trivial
  | x :: r => ⟨GLe.place j x, GLes.place j r⟩
theorem GLess.place (j : Nat) : ∀ xs : List (List GVal), GLess xs (xs.map fun c => c.map (GVal.place j))
  | [] => trivial
  | x :: r => ⟨GLes.place j x, GLess.place j r⟩
theorem OLe.place (j : Nat) (x : GObj) : OLe x (x.place j) := by
  cases x with
  | row st sz xs => exact OLe.row (GLess.place j xs)
  | _ => exact .refl _
theorem Comes.of {O O' : List GObj} {pl : List Nat} : ∀ {s : List (Bool × Nat)} {r : List GObj}, s.length = r.length → (∀ (k : Nat) z x, r[k]? = some z → s[k]? = some x → match x with
    | (true, j) => j ∉ pl ∧ ∃ y, O[j]? = some y ∧ OLe y z
    | (false, j) => ∃ y, O'[j]? = some y ∧ OLe y z) → Comes O pl O' s r
  | [], [], _, _ => trivial
  | (true, j) :: s, z :: r, hl, h => ⟨h 0 z (true, j) rfl rfl, Comes.of (by simpa using hl) fun k z x hz hx => h (k + 1) z x (by simpa using hz) (by simpa using hx)⟩
  | (false, j) :: s, z :: r, hl, h => ⟨h 0 z (false, j) rfl rfl, Comes.of (by simpa using hl) fun k z x hz hx => h (k + 1) z x (by simpa using hz) (by simpa using hx)⟩
  | [], _ :: _, hl, _ => by simp at hl
  | _ :: _, [], hl, _ => by simp at hl
theorem GCalls.keep2 {P : Program} {f : FuncId} {args : List GVal} {a b : GObj} {r : GVal} (h : GCalls P f args [a, b] (fun g O' => g = r ∧ O' = [a, b])) (ha : a.isClock = false) (X : List GObj) : GCalls P f args (a :: b :: X) (fun g O' => g = r ∧ O' = a :: b :: X) := by
  have hcl : ∀ Y, clockOf (a :: Y) = none := fun Y => by cases a <;> first | rfl | cases ha
  refine GCalls.frame h [0, 1] ⟨⟨a, rfl, .refl _⟩, ⟨b, rfl, .refl _⟩, trivial⟩ (by simp) (GLes.refl _) (hcl _) (hcl _) ?_
  rintro g O' ⟨rfl, rfl⟩
  refine ⟨g, a :: b :: X, (false, 0) :: (false, 1) :: (List.range X.length).map (fun k => (true, k + 2)), ⟨rfl, rfl⟩, GLe.refl g, ⟨⟨a, rfl, .refl _⟩, ⟨b, rfl, .refl _⟩, Comes.of (by simp) fun k z s hz hs => ?_⟩, ?_, hcl _⟩
  · have hk : k < X.length := (List.getElem?_eq_some_iff.1 hz).1
    simp only [List.getElem?_map, List.getElem?_range hk, Option.map_some, Option.some.injEq] at hs
    subst hs
    exact ⟨by simp, z, by simpa using hz, .refl _⟩
  · simp only [List.nodup_cons, List.mem_cons, List.mem_map, Prod.mk.injEq, reduceCtorEq, false_and, and_false, exists_false, or_false, not_false_eq_true, Nat.zero_ne_one, true_and]
    rw [List.nodup_iff_pairwise_ne, List.pairwise_map]
    refine List.Pairwise.imp ?_ (List.pairwise_lt_range (n := X.length))
    intro a b hab
    simp; omega
theorem GLe.func (fn : Fn) {gs gs' ks ks' : List GVal} (h : GLes gs gs') (k : GLes ks ks') : GLe (.func fn gs ks) (.func fn gs' ks') := fun E v hv => by
  cases hv with
  | func _ fs cs _ _ hf hk hfs hcs =>
    refine .func fn fs cs gs' ks' (by rw [hf, h.len]) (by rw [hk, k.len]) (fun j g hg => ?_) (fun j g hg => ?_)
    · obtain ⟨x, hx, hle⟩ := h.at_ j g hg
      exact hle _ _ (hfs j x hx)
    · obtain ⟨x, hx, hle⟩ := k.at_ j g hg
      exact hle _ _ (hcs j x hx)
theorem GLe.ref {cs cs' : List GVal} (h : GLes cs cs') : GLe (.ref cs) (.ref cs') := fun E v hv => by
  cases hv with
  | ref b off _ c ha hc =>
    refine .ref b off cs' c (fun j hj => ha j (by rw [h.len]; exact hj)) (fun j g hg => ?_)
    obtain ⟨x, hx, hle⟩ := h.at_ j g hg
    exact hle _ _ (hc j x hx)
theorem GCalls.on2new {P : Program} {f : FuncId} {args args' : List GVal} {x y : GObj} {R : Nat → List (GVal × GVal) → Prop} (h : GCalls P f args [x, y] (fun g O' => ∃ st kv, g = .map 2 st ∧ O' = [x, y, .map st kv] ∧ R st kv)) {O : List GObj} (i j : Nat) (hij : i ≠ j) (hi : O[i]? = some x) (hj : O[j]? = some y)
    (ha : GLes args' args) (hcx : x.isClock = false) (hc : clockOf O = none) : GCalls P f args' O (fun g O'' => ∃ st kv, g = .map O.length st ∧ O'' = O ++ [.map st kv] ∧ R st kv) := by
  refine GCalls.frame h [i, j] ⟨⟨x, hi, .refl _⟩, ⟨y, hj, .refl _⟩, trivial⟩ (by simp [hij]) ha (by cases x <;> first | rfl | cases hcx) hc ?_
  rintro g O' ⟨st, kv, rfl, rfl, hr⟩
  refine ⟨.map O.length st, O ++ [.map st kv], (List.range (O.length + 1)).map (fun k => if k = i then (false, 0) else if k = j then (false, 1) else if k = O.length then (false, 2) else (true, k)), ⟨st, kv, rfl, rfl, hr⟩, GLe.map _ _ _, Comes.of (by simp) fun k z s hz hs => ?_, ?_, by rw [clockOf_app rfl, hc]⟩
  · have hli := (List.getElem?_eq_some_iff.1 hi).1
    have hlj := (List.getElem?_eq_some_iff.1 hj).1
    have hk : k < O.length + 1 := by have := (List.getElem?_eq_some_iff.1 hz).1; simpa using this
    simp only [List.getElem?_map, List.getElem?_range hk, Option.map_some, Option.some.injEq] at hs
    subst hs
    by_cases e : k = i
    · subst e
      rw [List.getElem?_append_left hli, hi] at hz
      cases hz
      simp only [if_pos]
      exact ⟨x, rfl, .refl _⟩
    · by_cases e2 : k = j
      · subst e2
        rw [List.getElem?_append_left hlj, hj] at hz
        cases hz
        simp only [if_neg e, if_pos]
        exact ⟨y, rfl, .refl _⟩
      · by_cases e3 : k = O.length
        · subst e3
          simp at hz
          subst hz
          simp only [if_neg e, if_neg e2, if_pos]
          exact ⟨_, rfl, .refl _⟩
        · rw [List.getElem?_append_left (by omega)] at hz
          simp only [if_neg e, if_neg e2, if_neg e3]
          exact ⟨by simp [e, e2], z, hz, .refl _⟩
  · have hli := (List.getElem?_eq_some_iff.1 hi).1
    have hlj := (List.getElem?_eq_some_iff.1 hj).1
    rw [List.nodup_iff_pairwise_ne, List.pairwise_map]
    refine List.Pairwise.imp_of_mem ?_ (List.pairwise_lt_range (n := O.length + 1))
    intro a b _ _ hab
    by_cases a1 : a = i <;> by_cases b1 : b = i <;> by_cases a2 : a = j <;> by_cases b2 : b = j <;> by_cases a3 : a = O.length <;> by_cases b3 : b = O.length <;> simp_all <;> omega
theorem GCalls.keep1 {P : Program} {f : FuncId} {args args' : List GVal} {x : GObj} {r : GVal} (h : GCalls P f args [x] (fun g O' => ∃ x', O' = [x'] ∧ (g = r ∧ x' = x))) {O : List GObj} (i : Nat) (hO : O[i]? = some x) (ha : args.map (GVal.place i) = args') (hx : x.isClock = false) (hc : clockOf O = none) :
    GCalls P f args' O (fun g O' => g = r ∧ O' = O) := by
  subst ha
  refine (GCalls.ownFrame h i hO hc (fun g x' q => by rw [q.2]; exact hx) hx).mono ?_
  rintro g O' ⟨x', rfl, rfl, rfl⟩
  refine ⟨rfl, ?_⟩
  apply List.ext_getElem (by simp)
  intro j h1 h2
  rw [List.getElem_set]
  split
  · rename_i e; subst e
    rw [List.getElem?_eq_getElem h2] at hO
    exact (Option.some.inj hO).symm
  · rfl
end Gv
/- maps.Clone as a contract over ghost values: a new map with the same entries. -/
set_option linter.unusedVariables false
namespace Gv
open Go
theorem tickO_none {O : List GObj} (h : clockOf O = none) : tickO O = O := by
  cases O with
  | nil => rfl
  | cons x r => cases x <;> first | rfl | cases h
theorem gcalls_clone {P : Program} {f : FuncId} (hen : enterable P f = true) (hcall : ∀ (b : Nat) (es : Array MapEntry) (clock : Nat) (w : World), w.heap[b]? = some (.map es clock) → Calls P f #[.map (some b)] w fun e w' => e = .returned (.map (some w.heap.size)) ∧ w' = w.alloc (.map es clock))
    {O : List GObj} {o st : Nat} {kv : List (GVal × GVal)} (hO : O[o]? = some (.map st kv)) (hc : clockOf O = none) :
    GCalls P f [.map o st] O (fun g O' => ∃ st', g = .map O.length st' ∧ O' = O ++ [.map st' kv]) := by
  refine ⟨hen, fun E w vs hs ha => ?_⟩
  obtain ⟨hsz, hat⟩ := ha
  match vs, hsz with
  | ⟨[v]⟩, _ =>
    have hv := hat 0 _ rfl
    change VR E v (.map o st) at hv
    cases hv with
    | map r o st l hl hb =>
      obtain ⟨b, es, clock, e, hw, hes, hent, hloc, hsn⟩ := map_block hs (VR.map r o st l hl hb) hO
      cases e
      refine (hcall r es clock w hw).mono ?_
      rintro e w' ⟨rfl, rfl⟩
      have hk : stamp O (fun _ => True) := by unfold stamp; rw [hc]; exact fun _ => trivial
      obtain ⟨t, _, ht, hnx, hs2, hkeep⟩ := hs.stamp hk
      rw [tickO_none hc] at hnx hs2 hkeep
      have hle := Env.addLoc_le ⟨some w.heap.size, 0, 0, 0⟩ ht
      obtain ⟨h1, h2⟩ := hs2.objNew (.map es clock) (.map t kv) (l := ⟨some w.heap.size, 0, 0, 0⟩) ht hnx rfl trivial rfl
        ⟨_, w.heap.size, es, clock, Env.addLoc_self _ _ _, rfl, alloc_new _ _, by simpa using hes, fun i e p he hp => by
          have := hent i e p (by simpa using he) hp
          exact ⟨this.1.mono hle, this.2.mono hle⟩, fun o => hs2.snap_new (Nat.le_refl _)⟩
        (by simp [GObj.blk, Env.addLoc_self])
      exact ⟨_, _, _, .map O.length t, rfl, h1, hkeep.trans h2, VR.map _ _ t _ (Env.addLoc_self _ _ _) rfl, t, rfl, rfl⟩
end Gv
/- A contract from a walk of the kit's: all that was stands below. -/
set_option linter.unusedVariables false
namespace Gv
open Go
def bytesG (l : List UInt8) : List GVal := l.map fun c => .int .u8 c.toNat
def bytesV (l : List UInt8) : List Value := l.map fun c => .int .u8 c.toNat
theorem bytesG_len (l : List UInt8) : (bytesG l).length = l.length := by simp [bytesG]
end Gv
set_option maxRecDepth 100000
set_option linter.defProp false
namespace Gv.Try
open Go Gv Go.Proofs
namespace S
abbrev t (n : Nat) : Operand := .tmp n
abbrev mv (d s : Nat) : SOp := .mk (some d) (.move (.tmp s)) none
abbrev sv (d s : Nat) : SOp := .mk (some d) (.assign (.tmp s)) none
abbrev sc (d : Nat) (n : Int) : SOp := .mk (some d) (.assign (.const (.int .i64 n))) none
abbrev ld (d k s : Nat) : SOp := .mk (some d) (.load k (.tmp s)) none
abbrev ia (d k a b : Nat) : SOp := .mk (some d) (.indexAddr k (.tmp a) (.tmp b)) none
abbrev fa (d k a i : Nat) : SOp := .mk (some d) (.fieldAddr k (.tmp a) i) none
abbrev bi (d : Nat) (o : BinOp) (k a b u : Nat) : SOp := .mk (some d) (.binOp o k (.tmp a) (.tmp b) u) none
abbrev bc (d : Nat) (o : BinOp) (k a : Nat) (n : Int) (u : Nat) : SOp := .mk (some d) (.binOp o k (.tmp a) (.const (.int .i64 n)) u) none
abbrev ln (d a k : Nat) : SOp := .mk (some d) (.call (.mk (.builtin .len) #[.tmp a] #[k])) none
abbrev c1 (d f a k : Nat) : SOp := .mk (some d) (.call (.mk (.value (.func f)) #[.tmp a] #[k])) none
abbrev c2 (d f a b k l : Nat) : SOp := .mk (some d) (.call (.mk (.value (.func f)) #[.tmp a, .tmp b] #[k, l])) none
abbrev ap (d a b k : Nat) : SOp := .mk (some d) (.call (.mk (.builtin .append) #[.tmp a, .tmp b] #[k, k])) none
abbrev b1 (d k a : Nat) : SOp := .mk (some d) (.buildSlice k 1 #[(0, .tmp a)]) none
abbrev mg (d s g : Nat) (b : Bool) : SOp := .mk (some d) (.move (.tmp s)) (some (g, b))
abbrev sn (d : Nat) : SOp := .mk (some d) (.assign (.const (.slice none 0 0))) none
abbrev sb (d : Nat) (b : Bool) : SOp := .mk (some d) (.assign (.const (.bool b))) none
abbrev nt (d a : Nat) : SOp := .mk (some d) (.unOp .not 4 (.tmp a)) none
abbrev ex (d a i : Nat) : SOp := .mk (some d) (.extract (.tmp a) i) none
abbrev pk (d a b : Nat) (c : Bool) : SOp := .mk (some d) (.pick (.tmp a) (.tmp b) (.const (.bool c))) none
abbrev st (k a b : Nat) : SOp := .mk none (.store k (.tmp a) (.tmp b)) none
end S
section
open S
def s3_0 : SCode := (.reg [(sb 2 false)])
def s3_1 : SCode := (.reg [(mv 10 0), (.mk (some 11) (.call (.mk (.value (.func 8)) #[(t 10), (.const (.int (.i64) 700))] #[3, 3])) none), (.mk (some 12) (.binOp (.add) 3 (.const (.int (.i64) 100)) (t 11) 3) none), (sv 0 12)])
def s3_2 : SCode := (.reg [(.mk (some 13) (.call (.mk (.value (.func 9)) #[] #[])) none), (sv 3 13)])
def s3_3 : SCode := (.reg [(.mk (some 14) (.call (.mk (.value (.func 10)) #[] #[])) none), (nt 15 14), (mv 16 15), (mg 17 3 16 false), (.mk (some 18) (.binOp (.eql) 23 (t 17) (.const (.pointer none)) 23) (some (16, false))), (.mk (some 19) (.pick (t 16) (.const (.bool true)) (t 18)) none)])
def s3_4 : SCode := (.reg [(sb 2 false)])
def s3_5 : SCode := (.cond (t 19) (.seq s3_4 (.ret)) (.skip))
def s3_6 : SCode := (.reg [(.mk (some 4) (.alloc 27) none)])
def s3_7 : SCode := (.reg [(sn 5)])
def s3_8 : SCode := (.reg [(sc 6 0)])
def s3_9 : SCode := (.reg [(mv 20 6), (mv 21 0), (bi 22 .lss 3 20 21 3)])
def s3_10 : SCode := (.seq s3_9 (.cond (t 22) (.skip) (.exit 0)))
def s3_11 : SCode := (.reg [(sn 7)])
def s3_12 : SCode := (.reg [(mv 25 6), (sv 8 25)])
def s3_13 : SCode := (.reg [(mv 26 8), (mv 27 6), (bc 28 .add 3 27 100 3), (bi 29 .lss 3 26 28 3), (mv 30 29), (mg 31 8 30 true), (mg 32 0 30 true), (.mk (some 33) (.binOp (.lss) 3 (t 31) (t 32) 3) (some (30, true))), (pk 34 30 33 false)])
def s3_14 : SCode := (.seq s3_13 (.cond (t 34) (.skip) (.exit 2)))
def s3_15 : SCode := (.reg [(mv 37 8), (.mk (some 38) (.binOp (.shr) 3 (t 37) (.const (.int (.u64) 8)) 30) none), (.mk (some 39) (.convert 3 5 (t 38)) none), (mv 40 8), (.mk (some 41) (.convert 3 5 (t 40)) none), (.mk (some 42) (.build 27 #[(0, (t 39)), (1, (t 41)), (2, (.const (.int (.u8) 1)))]) none), (.mk (some 43) (.build 32 #[(0, (t 42))]) none), (.mk (some 9) (.alloc 32) none), (st 32 9 43)])
def s3_16 : SCode := (.reg [(mv 44 8), (bc 45 .gtr 3 44 0 3)])
def s3_17 : SCode := (.reg [(ld 46 27 4), (b1 47 28 46), (fa 48 32 9 1), (st 28 48 47)])
def s3_18 : SCode := (.seq s3_16 (.cond (t 45) s3_17 (.skip)))
def s3_19 : SCode := (.reg [(fa 49 32 9 0), (ld 50 27 49), (st 27 4 50)])
def s3_20 : SCode := (.reg [(mv 51 7), (ld 52 32 9), (b1 53 29 52), (ap 54 51 53 29), (sv 7 54)])
def s3_21 : SCode := (.reg [(mv 55 5), (ld 56 27 4), (b1 57 28 56), (ap 58 55 57 28), (sv 5 58)])
def s3_22 : SCode := (.seq s3_18 (.seq s3_19 (.seq s3_20 s3_21)))
def s3_23 : SCode := (.reg [(mv 35 8), (bc 36 .add 3 35 1 3), (sv 8 36)])
def s3_24 : SCode := (.seq (.block 3 (.seq s3_15 s3_22)) s3_23)
def s3_25 : SCode := (.seq s3_12 (.block 2 (.loop (.seq s3_14 s3_24))))
def s3_26 : SCode := (.reg [(mv 59 3), (mv 60 7), (c2 61 11 59 60 23 29), (.mk (some 62) (.binOp (.neq) 34 (t 61) (.const (.nilIface)) 34) none)])
def s3_27 : SCode := (.reg [(sb 2 false)])
def s3_28 : SCode := (.cond (t 62) (.seq s3_27 (.ret)) (.skip))
def s3_29 : SCode := (.seq s3_11 (.seq s3_25 (.seq s3_26 s3_28)))
def s3_30 : SCode := (.reg [(mv 23 6), (bc 24 .add 3 23 100 3), (sv 6 24)])
def s3_31 : SCode := (.seq s3_10 (.seq (.block 1 s3_29) s3_30))
def s3_32 : SCode := (.reg [(mv 63 3), (ld 64 27 4), (b1 65 28 64), (.mk (some 66) (.call (.mk (.value (.func 13)) #[(t 63), (t 65), (.const (.nilFunc))] #[23, 28, 39])) none), (mv 67 5), (c2 68 12 66 67 28 28), (sv 2 68)])
def s3_33 : SCode := (.seq (.seq s3_8 (.block 0 (.loop s3_31))) (.seq s3_32 (.ret)))
def s3_34 : SCode := (.seq (.seq s3_3 s3_5) (.seq s3_6 (.seq s3_7 s3_33)))
def s3 : SCode := (.seq s3_0 (.seq s3_1 (.seq s3_2 s3_34)))
def e3 := And.intro s3_0.eq_1 <| And.intro s3_1.eq_1 <| And.intro s3_2.eq_1 <| And.intro s3_3.eq_1 <| And.intro s3_4.eq_1 <| And.intro s3_5.eq_1 <| And.intro s3_6.eq_1 <| And.intro s3_7.eq_1 <| And.intro s3_8.eq_1 <| And.intro s3_9.eq_1 <| And.intro s3_10.eq_1 <| And.intro s3_11.eq_1 <| And.intro s3_12.eq_1 <| And.intro s3_13.eq_1 <| And.intro s3_14.eq_1 <| And.intro s3_15.eq_1 <| And.intro s3_16.eq_1 <| And.intro s3_17.eq_1 <| And.intro s3_18.eq_1 <| And.intro s3_19.eq_1 <| And.intro s3_20.eq_1 <| And.intro s3_21.eq_1 <| And.intro s3_22.eq_1 <| And.intro s3_23.eq_1 <| And.intro s3_24.eq_1 <| And.intro s3_25.eq_1 <| And.intro s3_26.eq_1 <| And.intro s3_27.eq_1 <| And.intro s3_28.eq_1 <| And.intro s3_29.eq_1 <| And.intro s3_30.eq_1 <| And.intro s3_31.eq_1 <| And.intro s3_32.eq_1 <| And.intro s3_33.eq_1 <| s3_34.eq_1
theorem h3 : FnS Try.prog 3 ⟨[], []⟩ 69 [(.tmp 2)] s3 := by refine .mk' Try.func3 ?_ ?_ ?_ ?_ ?_ ?_ <;> kernel_rfl
def s4_0 : SCode := (.reg [(sb 0 false)])
def s4_1 : SCode := (.reg [(.mk (some 3) (.call (.mk (.value (.func 14)) #[] #[])) none), (sv 1 3)])
def s4_2 : SCode := (.reg [(.mk (some 4) (.call (.mk (.value (.func 10)) #[] #[])) none), (nt 5 4), (mv 6 5), (mg 7 1 6 false), (.mk (some 8) (.binOp (.eql) 23 (t 7) (.const (.pointer none)) 23) (some (6, false))), (.mk (some 9) (.pick (t 6) (.const (.bool true)) (t 8)) none)])
def s4_3 : SCode := (.reg [(sb 0 false)])
def s4_4 : SCode := (.cond (t 9) (.seq s4_3 (.ret)) (.skip))
def s4_5 : SCode := (.reg [(mv 10 1), (.mk (some 11) (.build 27 #[(0, (.const (.int (.u8) 3)))]) none), (.mk (some 12) (.build 27 #[(0, (.const (.int (.u8) 9)))]) none), (.mk (some 13) (.build 27 #[(0, (.const (.int (.u8) 4)))]) none), (.mk (some 14) (.build 27 #[(0, (.const (.int (.u8) 3)))]) none), (.mk (some 15) (.buildSlice 28 4 #[(0, (t 11)), (1, (t 12)), (2, (t 13)), (3, (t 14))]) none), (.mk (some 16) (.call (.mk (.value (.func 13)) #[(t 10), (t 15), (.func 15)] #[23, 28, 39])) none), (sv 2 16)])
def s4_6 : SCode := (.reg [(mv 17 2), (.mk (some 18) (.build 27 #[(0, (.const (.int (.u8) 3)))]) none), (.mk (some 19) (.build 27 #[(0, (.const (.int (.u8) 2)))]) none), (.mk (some 20) (.build 27 #[(0, (.const (.int (.u8) 4)))]) none), (.mk (some 21) (.buildSlice 28 3 #[(0, (t 18)), (1, (t 19)), (2, (t 20))]) none), (c2 22 12 17 21 28 28), (mv 23 22), (.mk (some 24) (.build 27 #[(0, (.const (.int (.u8) 4)))]) (some (23, true))), (.mk (some 25) (.buildSlice 28 1 #[(0, (t 24))]) (some (23, true))), (.mk (some 26) (.call (.mk (.value (.func 13)) #[(.const (.pointer none)), (t 25), (.const (.nilFunc))] #[23, 28, 39])) (some (23, true))), (.mk (some 27) (.call (.mk (.builtin (.len)) #[(t 26)] #[28])) (some (23, true))), (.mk (some 28) (.binOp (.eql) 3 (t 27) (.const (.int (.i64) 0)) 3) (some (23, true))), (pk 29 23 28 false), (mv 30 29), (mg 31 1 30 true), (mg 32 2 30 true), (.mk (some 33) (.call (.mk (.value (.func 16)) #[(t 31), (t 32)] #[23, 28])) (some (30, true))), (pk 34 30 33 false), (mv 35 34), (mg 36 1 35 true), (.mk (some 37) (.build 27 #[(0, (.const (.int (.u8) 4)))]) (some (35, true))), (.mk (some 38) (.build 27 #[(0, (.const (.int (.u8) 2)))]) (some (35, true))), (.mk (some 39) (.buildSlice 28 2 #[(0, (t 37)), (1, (t 38))]) (some (35, true))), (.mk (some 40) (.call (.mk (.value (.func 16)) #[(t 36), (t 39)] #[23, 28])) (some (35, true))), (.mk (some 41) (.unOp (.not) 4 (t 40)) (some (35, true))), (pk 42 35 41 false), (mv 43 42), (mg 44 1 43 true), (.mk (some 45) (.build 27 #[(0, (.const (.int (.u8) 2)))]) (some (43, true))), (.mk (some 46) (.build 27 #[(0, (.const (.int (.u8) 2)))]) (some (43, true))), (.mk (some 47) (.buildSlice 28 2 #[(0, (t 45)), (1, (t 46))]) (some (43, true))), (.mk (some 48) (.call (.mk (.value (.func 16)) #[(t 44), (t 47)] #[23, 28])) (some (43, true))), (.mk (some 49) (.unOp (.not) 4 (t 48)) (some (43, true))), (pk 50 43 49 false), (mv 51 50), (mg 52 1 51 true), (.mk (some 53) (.build 27 #[(0, (.const (.int (.u8) 9)))]) (some (51, true))), (.mk (some 54) (.buildSlice 28 1 #[(0, (t 53))]) (some (51, true))), (.mk (some 55) (.call (.mk (.value (.func 16)) #[(t 52), (t 54)] #[23, 28])) (some (51, true))), (.mk (some 56) (.unOp (.not) 4 (t 55)) (some (51, true))), (pk 57 51 56 false), (mv 58 57), (mg 59 1 58 true), (.mk (some 60) (.call (.mk (.value (.func 16)) #[(t 59), (.const (.slice none 0 0))] #[23, 28])) (some (58, true))), (pk 61 58 60 false), (sv 0 61)])
def s4_7 : SCode := (.seq (.seq s4_2 s4_4) (.seq s4_5 (.seq s4_6 (.ret))))
def s4 : SCode := (.seq s4_0 (.seq s4_1 s4_7))
def e4 := And.intro s4_0.eq_1 <| And.intro s4_1.eq_1 <| And.intro s4_2.eq_1 <| And.intro s4_3.eq_1 <| And.intro s4_4.eq_1 <| And.intro s4_5.eq_1 <| And.intro s4_6.eq_1 <| s4_7.eq_1
theorem h4 : FnS Try.prog 4 ⟨[], []⟩ 62 [(.tmp 0)] s4 := by refine .mk' Try.func4 ?_ ?_ ?_ ?_ ?_ ?_ <;> kernel_rfl
def s5_0 : SCode := (.reg [(sb 8 false)])
def s5_1 : SCode := (.reg [(mv 19 0), (c1 20 17 19 41), (mv 18 20), (ex 21 18 0), (ex 22 18 1), (sv 9 21), (sv 10 22)])
def s5_2 : SCode := (.reg [(.mk (some 23) (.call (.mk (.value (.func 10)) #[] #[])) none), (nt 24 23), (mv 25 24), (mg 26 9 25 false), (.mk (some 27) (.binOp (.eql) 23 (t 26) (.const (.pointer none)) 23) (some (25, false))), (.mk (some 28) (.pick (t 25) (.const (.bool true)) (t 27)) none)])
def s5_3 : SCode := (.reg [(sb 8 false)])
def s5_4 : SCode := (.cond (t 28) (.seq s5_3 (.ret)) (.skip))
def s5_5 : SCode := (.reg [(mv 29 1), (.mk (some 30) (.call (.mk (.value (.func 18)) #[(t 29), (.const (.int (.i64) 6))] #[42, 3])) none), (sv 11 30)])
def s5_6 : SCode := (.reg [(mv 31 2), (.mk (some 32) (.call (.mk (.value (.func 18)) #[(t 31), (.const (.int (.i64) 8))] #[42, 3])) none), (.mk (some 12) (.alloc 28) none), (st 28 12 32)])
def s5_7 : SCode := (.reg [(mv 33 9), (mv 34 11), (.mk (some 35) (.makeFunc (.func 19) #[] #[(t 12)]) none), (.mk (some 36) (.call (.mk (.value (.func 13)) #[(t 33), (t 34), (t 35)] #[23, 28, 39])) none), (sv 13 36)])
def s5_8 : SCode := (.reg [(mv 37 13), (mv 38 10), (mv 39 11), (ld 40 28 12), (.mk (some 41) (.call (.mk (.value (.func 21)) #[(t 38), (t 39), (t 40)] #[43, 28, 28])) none), (c2 42 12 37 41 28 28), (nt 43 42), (mv 44 43), (mg 45 9 44 false), (mg 46 11 44 false), (.mk (some 47) (.call (.mk (.value (.func 13)) #[(t 45), (t 46), (.const (.nilFunc))] #[23, 28, 39])) (some (44, false))), (mg 48 10 44 false), (mg 49 11 44 false), (.mk (some 50) (.call (.mk (.value (.func 21)) #[(t 48), (t 49), (.const (.slice none 0 0))] #[43, 28, 28])) (some (44, false))), (.mk (some 51) (.call (.mk (.value (.func 12)) #[(t 47), (t 50)] #[28, 28])) (some (44, false))), (.mk (some 52) (.unOp (.not) 4 (t 51)) (some (44, false))), (.mk (some 53) (.pick (t 44) (.const (.bool true)) (t 52)) none)])
def s5_9 : SCode := (.reg [(sb 8 false)])
def s5_10 : SCode := (.cond (t 53) (.seq s5_9 (.ret)) (.skip))
def s5_11 : SCode := (.reg [(mv 54 3), (.mk (some 55) (.call (.mk (.value (.func 18)) #[(t 54), (.const (.int (.i64) 6))] #[42, 3])) none), (sv 14 55)])
def s5_12 : SCode := (.reg [(sb 15 true)])
def s5_13 : SCode := (.reg [(sc 16 0)])
def s5_14 : SCode := (.reg [(mv 56 16), (mv 57 14), (ln 58 57 28), (bi 59 .lss 3 56 58 3)])
def s5_15 : SCode := (.seq s5_14 (.cond (t 59) (.skip) (.exit 0)))
def s5_16 : SCode := (.drw [((mv 62 15), 0), ((mv 63 62), 0), ((mg 64 10 63 true), 0), ((mg 65 14 63 true), 0), ((mg 66 16 63 true), 0), ((.mk (some 67) (.indexAddr 28 (t 65) (t 66)) (some (63, true))), 0), ((.mk (some 68) (.load 27 (t 67)) (some (63, true))), 0), ((.mk (some 69) (.call (.mk (.value (.func 22)) #[(t 64), (t 68)] #[43, 27])) (some (63, true))), 1), ((pk 70 63 69 false), 0), ((mv 71 70), 0), ((mg 72 14 71 true), 0), ((mg 73 16 71 true), 0), ((.mk (some 74) (.slice 28 (t 72) none (some (t 73)) none) (some (71, true))), 0), ((mg 75 14 71 true), 0), ((mg 76 16 71 true), 0), ((.mk (some 77) (.indexAddr 28 (t 75) (t 76)) (some (71, true))), 0), ((.mk (some 78) (.load 27 (t 77)) (some (71, true))), 0), ((.mk (some 79) (.call (.mk (.value (.func 20)) #[(t 74), (t 78)] #[28, 27])) (some (71, true))), 1), ((.mk (some 80) (.unOp (.not) 4 (t 79)) (some (71, true))), 0), ((pk 81 71 80 false), 0), ((sv 15 81), 0)])
def s5_17 : SCode := (.reg [(sc 17 0)])
def s5_18 : SCode := (.reg [(mv 82 17), (mv 83 16), (bi 84 .lss 3 82 83 3), (mv 85 84), (mg 86 15 85 true), (pk 87 85 86 false)])
def s5_19 : SCode := (.seq s5_18 (.cond (t 87) (.skip) (.exit 2)))
def s5_20 : SCode := (.drw [((mv 90 10), 0), ((mv 91 14), 0), ((mv 92 17), 0), ((mv 93 17), 0), ((bc 94 .add 3 93 1 3), 0), ((.mk (some 95) (.slice 28 (t 91) (some (t 92)) (some (t 94)) none) none), 0), ((mv 97 14), 0), ((mv 98 16), 0), ((ia 99 28 97 98), 0), ((ld 100 27 99), 0), ((c2 96 23 90 95 43 28), 2), ((c2 101 20 96 100 28 27), 1), ((nt 102 101), 0), ((sv 15 102), 0)])
def s5_21 : SCode := (.reg [(mv 88 17), (bc 89 .add 3 88 1 3), (sv 17 89)])
def s5_22 : SCode := (.seq s5_19 (.seq (.block 3 s5_20) s5_21))
def s5_23 : SCode := (.seq s5_16 (.seq s5_17 (.block 2 (.loop s5_22))))
def s5_24 : SCode := (.reg [(mv 60 16), (bc 61 .add 3 60 1 3), (sv 16 61)])
def s5_25 : SCode := (.seq s5_15 (.seq (.block 1 s5_23) s5_24))
def s5_26 : SCode := (.reg [(mv 103 9), (mv 104 14), (c2 105 16 103 104 23 28), (mv 106 15), (bi 107 .eql 4 105 106 4), (sv 8 107)])
def s5_27 : SCode := (.seq (.seq s5_13 (.block 0 (.loop s5_25))) (.seq s5_26 (.ret)))
def s5_28 : SCode := (.seq (.seq s5_8 s5_10) (.seq s5_11 (.seq s5_12 s5_27)))
def s5_29 : SCode := (.seq s5_5 (.seq s5_6 (.seq s5_7 s5_28)))
def s5_30 : SCode := (.seq s5_1 (.seq (.seq s5_2 s5_4) s5_29))
def s5 : SCode := (.seq s5_0 s5_30)
theorem h5 : FnS Try.prog 5 ⟨[], [(14, [(0, 0), (1, 0), (2, 0), (3, 0), (4, 0), (5, 0), (6, 0), (7, 1), (8, 0), (9, 0), (10, 0), (11, 0), (12, 0), (13, 0), (14, 0), (15, 0), (16, 0), (17, 1), (18, 0), (19, 0), (20, 0)]), (18, [(0, 0), (1, 0), (2, 0), (3, 0), (4, 0), (5, 0), (7, 0), (8, 0), (9, 0), (10, 0), (6, 2), (11, 1), (12, 0), (13, 0)])]⟩ 108 [(.tmp 8)] s5 := by refine .mk' Try.func5 ?_ ?_ ?_ ?_ ?_ ?_ <;> kernel_rfl
def s6_0 : SCode := (.reg [(sb 4 false)])
def s6_1 : SCode := (.reg [(mv 14 0), (c1 15 17 14 41), (mv 13 15), (ex 16 13 0), (ex 17 13 1), (sv 5 16), (sv 6 17)])
def s6_2 : SCode := (.reg [(.mk (some 18) (.call (.mk (.value (.func 10)) #[] #[])) none), (nt 19 18), (mv 20 19), (mg 21 5 20 false), (.mk (some 22) (.binOp (.eql) 23 (t 21) (.const (.pointer none)) 23) (some (20, false))), (.mk (some 23) (.pick (t 20) (.const (.bool true)) (t 22)) none)])
def s6_3 : SCode := (.reg [(sb 4 false)])
def s6_4 : SCode := (.cond (t 23) (.seq s6_3 (.ret)) (.skip))
def s6_5 : SCode := (.reg [(mv 24 1), (.mk (some 25) (.call (.mk (.value (.func 18)) #[(t 24), (.const (.int (.i64) 8))] #[42, 3])) none), (sv 7 25)])
def s6_6 : SCode := (.reg [(mv 26 5), (mv 27 7), (.mk (some 28) (.call (.mk (.value (.func 13)) #[(t 26), (t 27), (.const (.nilFunc))] #[23, 28, 39])) none), (sv 8 28)])
def s6_7 : SCode := (.reg [(mv 29 5), (mv 30 8), (c2 31 16 29 30 23 28), (nt 32 31), (mv 33 32), (mg 34 8 33 false), (.mk (some 35) (.call (.mk (.value (.func 24)) #[(t 34)] #[28])) (some (33, false))), (mg 36 5 33 false), (mg 37 7 33 false), (.mk (some 38) (.call (.mk (.value (.func 25)) #[(t 36), (t 37)] #[23, 28])) (some (33, false))), (.mk (some 39) (.call (.mk (.value (.func 12)) #[(t 35), (t 38)] #[28, 28])) (some (33, false))), (.mk (some 40) (.unOp (.not) 4 (t 39)) (some (33, false))), (.mk (some 41) (.pick (t 33) (.const (.bool true)) (t 40)) none)])
def s6_8 : SCode := (.reg [(sb 4 false)])
def s6_9 : SCode := (.cond (t 41) (.seq s6_8 (.ret)) (.skip))
def s6_10 : SCode := (.reg [(sc 9 0)])
def s6_11 : SCode := (.reg [(mv 42 9), (mv 43 8), (ln 44 43 28), (bi 45 .lss 3 42 44 3)])
def s6_12 : SCode := (.seq s6_11 (.cond (t 45) (.skip) (.exit 0)))
def s6_13 : SCode := (.reg [(mv 49 5), (mv 50 8), (mv 51 9), (ia 52 28 50 51), (ld 53 27 52), (c2 54 26 49 53 23 27), (mv 48 54), (ex 55 48 0), (ex 56 48 1), (sv 10 55), (sv 11 56)])
def s6_14 : SCode := (.reg [(sc 12 0)])
def s6_15 : SCode := (.reg [(mv 57 12), (mv 58 10), (ln 59 58 28), (bi 60 .lss 3 57 59 3)])
def s6_16 : SCode := (.seq s6_15 (.cond (t 60) (.skip) (.exit 2)))
def s6_17 : SCode := (.drw [((mv 63 8), 0), ((mv 64 9), 0), ((.mk (some 65) (.slice 28 (t 63) none (some (t 64)) none) none), 0), ((mv 66 10), 0), ((mv 67 12), 0), ((ia 68 28 66 67), 0), ((ld 69 27 68), 0), ((c2 70 20 65 69 28 27), 1), ((nt 71 70), 0)])
def s6_18 : SCode := (.reg [(sb 4 false)])
def s6_19 : SCode := (.cond (t 71) (.seq s6_18 (.ret)) (.skip))
def s6_20 : SCode := (.reg [(mv 61 12), (bc 62 .add 3 61 1 3), (sv 12 62)])
def s6_21 : SCode := (.seq (.block 3 (.seq s6_17 s6_19)) s6_20)
def s6_22 : SCode := (.seq s6_14 (.block 2 (.loop (.seq s6_16 s6_21))))
def s6_23 : SCode := (.reg [(mv 46 9), (bc 47 .add 3 46 1 3), (sv 9 47)])
def s6_24 : SCode := (.seq (.block 1 (.seq s6_13 s6_22)) s6_23)
def s6_25 : SCode := (.seq s6_10 (.block 0 (.loop (.seq s6_12 s6_24))))
def s6_26 : SCode := (.reg [(sb 4 true)])
def s6_27 : SCode := (.seq (.seq s6_7 s6_9) (.seq s6_25 (.seq s6_26 (.ret))))
def s6_28 : SCode := (.seq (.seq s6_2 s6_4) (.seq s6_5 (.seq s6_6 s6_27)))
def s6 : SCode := (.seq s6_0 (.seq s6_1 s6_28))
theorem h6 : FnS Try.prog 6 ⟨[], [(15, [(0, 0), (1, 0), (2, 0), (3, 0), (4, 0), (5, 0), (6, 0), (7, 1), (8, 0)])]⟩ 72 [(.tmp 4)] s6 := by refine .mk' Try.func6 ?_ ?_ ?_ ?_ ?_ ?_ <;> kernel_rfl
def s7_0 : SCode := (.reg [(sb 6 false)])
def s7_1 : SCode := (.reg [(mv 13 0), (c1 14 17 13 41), (mv 12 14), (ex 15 12 0), (ex 16 12 1), (sv 7 15), (sv 8 16)])
def s7_2 : SCode := (.reg [(.mk (some 17) (.call (.mk (.value (.func 10)) #[] #[])) none), (nt 18 17), (mv 19 18), (mg 20 7 19 false), (.mk (some 21) (.binOp (.eql) 23 (t 20) (.const (.pointer none)) 23) (some (19, false))), (.mk (some 22) (.pick (t 19) (.const (.bool true)) (t 21)) none)])
def s7_3 : SCode := (.reg [(sb 6 false)])
def s7_4 : SCode := (.cond (t 22) (.seq s7_3 (.ret)) (.skip))
def s7_5 : SCode := (.reg [(mv 23 1), (.mk (some 24) (.call (.mk (.value (.func 18)) #[(t 23), (.const (.int (.i64) 8))] #[42, 3])) none), (sv 9 24)])
def s7_6 : SCode := (.reg [(mv 25 2), (mv 26 9), (ln 27 26 28), (bc 28 .add 3 27 1 3), (c2 29 8 25 28 3 3), (sv 2 29)])
def s7_7 : SCode := (.reg [(mv 30 7), (mv 31 9), (mv 32 2), (.mk (some 33) (.slice 28 (t 31) none (some (t 32)) none) none), (.mk (some 34) (.call (.mk (.value (.func 13)) #[(t 30), (t 33), (.const (.nilFunc))] #[23, 28, 39])) none), (.mk (some 10) (.alloc 28) none), (st 28 10 34)])
def s7_8 : SCode := (.reg [(mv 35 7), (mv 36 9), (mv 37 2), (.mk (some 38) (.slice 28 (t 36) (some (t 37)) none none) none), (.mk (some 39) (.makeFunc (.func 27) #[] #[(t 10)]) none), (.mk (some 40) (.call (.mk (.value (.func 13)) #[(t 35), (t 38), (t 39)] #[23, 28, 39])) none), (sv 11 40)])
def s7_9 : SCode := (.reg [(.mk (some 41) (.buildSlice 28 0 #[]) none), (ld 42 28 10), (ap 43 41 42 28), (mv 44 11), (ap 45 43 44 28), (mv 46 7), (mv 47 9), (.mk (some 48) (.call (.mk (.value (.func 13)) #[(t 46), (t 47), (.const (.nilFunc))] #[23, 28, 39])) none), (c2 49 12 45 48 28 28), (mv 50 49), (mg 51 7 50 true), (.mk (some 52) (.load 28 (t 10)) (some (50, true))), (.mk (some 53) (.call (.mk (.value (.func 16)) #[(t 51), (t 52)] #[23, 28])) (some (50, true))), (pk 54 50 53 false), (sv 6 54)])
def s7_10 : SCode := (.seq s7_7 (.seq s7_8 (.seq s7_9 (.ret))))
def s7_11 : SCode := (.seq (.seq s7_2 s7_4) (.seq s7_5 (.seq s7_6 s7_10)))
def s7 : SCode := (.seq s7_0 (.seq s7_1 s7_11))
theorem h7 : FnS Try.prog 7 ⟨[], []⟩ 55 [(.tmp 6)] s7 := by refine .mk' Try.func7 ?_ ?_ ?_ ?_ ?_ ?_ <;> kernel_rfl
def s8_0 : SCode := (.reg [(sc 4 0)])
def s8_1 : SCode := (.reg [(mv 5 0), (mv 6 1), (bi 7 .rem 3 5 6 3), (sv 0 7)])
def s8_2 : SCode := (.reg [(mv 8 0), (bc 9 .lss 3 8 0 3)])
def s8_3 : SCode := (.reg [(mv 10 0), (mv 11 1), (bi 12 .add 3 10 11 3), (sv 0 12)])
def s8_4 : SCode := (.seq s8_2 (.cond (t 9) s8_3 (.skip)))
def s8_5 : SCode := (.reg [(mv 13 0), (sv 4 13)])
def s8_6 : SCode := (.seq s8_1 (.seq s8_4 (.seq s8_5 (.ret))))
def s8 : SCode := (.seq s8_0 s8_6)
def e8 := And.intro s8_0.eq_1 <| And.intro s8_1.eq_1 <| And.intro s8_2.eq_1 <| And.intro s8_3.eq_1 <| And.intro s8_4.eq_1 <| And.intro s8_5.eq_1 <| s8_6.eq_1
theorem h8 : FnS Try.prog 8 ⟨[], []⟩ 14 [(.tmp 4)] s8 := by refine .mk' Try.func8 ?_ ?_ ?_ ?_ ?_ ?_ <;> kernel_rfl
def s9_0 : SCode := (.reg [(.mk (some 0) (.assign (.const (.pointer none))) none)])
def s9_1 : SCode := (.reg [(.mk (some 1) (.makeMap 55 none) none), (.mk (some 2) (.build 57 #[(0, (t 1))]) none), (.mk (some 3) (.box 57 (t 2)) none), (sv 0 3)])
def s9 : SCode := (.seq s9_0 (.seq s9_1 (.ret)))
def e9 := And.intro s9_0.eq_1 <| s9_1.eq_1
theorem h9 : FnS Try.prog 9 ⟨[], []⟩ 4 [(.tmp 0)] s9 := by refine .mk' Try.func9 ?_ ?_ ?_ ?_ ?_ ?_ <;> kernel_rfl
def s10_0 : SCode := (.reg [(sb 0 false)])
def s10_1 : SCode := (.reg [(.mk (some 2) (.call (.mk (.value (.func 14)) #[] #[])) none), (sv 1 2)])
def s10_2 : SCode := (.reg [(mv 3 1), (.mk (some 4) (.binOp (.neq) 23 (t 3) (.const (.pointer none)) 23) none), (mv 5 4), (mg 6 1 5 true), (.mk (some 7) (.build 27 #[(0, (.const (.int (.u8) 4)))]) (some (5, true))), (.mk (some 8) (.buildSlice 28 1 #[(0, (t 7))]) (some (5, true))), (.mk (some 9) (.call (.mk (.value (.func 13)) #[(t 6), (t 8), (.const (.nilFunc))] #[23, 28, 39])) (some (5, true))), (.mk (some 10) (.build 27 #[(0, (.const (.int (.u8) 1)))]) (some (5, true))), (.mk (some 11) (.build 27 #[(0, (.const (.int (.u8) 2)))]) (some (5, true))), (.mk (some 12) (.build 27 #[(0, (.const (.int (.u8) 3)))]) (some (5, true))), (.mk (some 13) (.build 27 #[(0, (.const (.int (.u8) 4)))]) (some (5, true))), (.mk (some 14) (.buildSlice 28 4 #[(0, (t 10)), (1, (t 11)), (2, (t 12)), (3, (t 13))]) (some (5, true))), (.mk (some 15) (.call (.mk (.value (.func 12)) #[(t 9), (t 14)] #[28, 28])) (some (5, true))), (pk 16 5 15 false), (sv 0 16)])
def s10 : SCode := (.seq s10_0 (.seq s10_1 (.seq s10_2 (.ret))))
def e10 := And.intro s10_0.eq_1 <| And.intro s10_1.eq_1 <| s10_2.eq_1
theorem h10 : FnS Try.prog 10 ⟨[], []⟩ 17 [(.tmp 0)] s10 := by refine .mk' Try.func10 ?_ ?_ ?_ ?_ ?_ ?_ <;> kernel_rfl
def s11_0 : SCode := (.reg [(.mk (some 4) (.assign (.const (.nilIface))) none)])
def s11_1 : SCode := (.reg [(mv 8 0), (mv 9 1), (.mk (some 10) (.build 61 #[(0, (t 9)), (2, (.const (.int (.i64) 2)))]) none), (c2 11 28 8 10 23 61), (mv 7 11), (ex 12 7 0), (ex 13 7 1), (sv 5 12), (sv 6 13)])
def s11_2 : SCode := (.reg [(mv 14 6), (.mk (some 15) (.binOp (.eql) 34 (t 14) (.const (.nilIface)) 34) none)])
def s11_3 : SCode := (.reg [(mv 16 0), (mv 17 5), (.mk (some 18) (.nilCheck (t 16)) none), (fa 19 57 18 0), (st 55 19 17)])
def s11_4 : SCode := (.seq s11_2 (.cond (t 15) s11_3 (.skip)))
def s11_5 : SCode := (.reg [(mv 20 6), (sv 4 20)])
def s11_6 : SCode := (.seq s11_1 (.seq s11_4 (.seq s11_5 (.ret))))
def s11 : SCode := (.seq s11_0 s11_6)
def e11 := And.intro s11_0.eq_1 <| And.intro s11_1.eq_1 <| And.intro s11_2.eq_1 <| And.intro s11_3.eq_1 <| And.intro s11_4.eq_1 <| And.intro s11_5.eq_1 <| s11_6.eq_1
theorem h11 : FnS Try.prog 11 ⟨[], []⟩ 21 [(.tmp 4)] s11 := by refine .mk' Try.func11 ?_ ?_ ?_ ?_ ?_ ?_ <;> kernel_rfl
def s12_0 : SCode := (.reg [(sb 4 false)])
def s12_1 : SCode := (.reg [(mv 6 0), (ln 7 6 28), (mv 8 1), (ln 9 8 28), (bi 10 .neq 3 7 9 3)])
def s12_2 : SCode := (.reg [(sb 4 false)])
def s12_3 : SCode := (.cond (t 10) (.seq s12_2 (.ret)) (.skip))
def s12_4 : SCode := (.reg [(sc 5 0)])
def s12_5 : SCode := (.reg [(mv 11 5), (mv 12 0), (ln 13 12 28), (bi 14 .lss 3 11 13 3)])
def s12_6 : SCode := (.seq s12_5 (.cond (t 14) (.skip) (.exit 0)))
def s12_7 : SCode := (.drw [((mv 17 0), 0), ((mv 18 5), 0), ((ia 19 28 17 18), 0), ((ld 20 27 19), 0), ((mv 21 1), 0), ((mv 22 5), 0), ((ia 23 28 21 22), 0), ((ld 24 27 23), 0), ((bi 25 .neq 27 20 24 27), 0)])
def s12_8 : SCode := (.reg [(sb 4 false)])
def s12_9 : SCode := (.cond (t 25) (.seq s12_8 (.ret)) (.skip))
def s12_10 : SCode := (.reg [(mv 15 5), (bc 16 .add 3 15 1 3), (sv 5 16)])
def s12_11 : SCode := (.seq (.block 1 (.seq s12_7 s12_9)) s12_10)
def s12_12 : SCode := (.seq s12_4 (.block 0 (.loop (.seq s12_6 s12_11))))
def s12_13 : SCode := (.reg [(sb 4 true)])
def s12_14 : SCode := (.seq (.seq s12_1 s12_3) (.seq s12_12 (.seq s12_13 (.ret))))
def s12 : SCode := (.seq s12_0 s12_14)
def e12 := And.intro s12_0.eq_1 <| And.intro s12_1.eq_1 <| And.intro s12_2.eq_1 <| And.intro s12_3.eq_1 <| And.intro s12_4.eq_1 <| And.intro s12_5.eq_1 <| And.intro s12_6.eq_1 <| And.intro s12_7.eq_1 <| And.intro s12_8.eq_1 <| And.intro s12_9.eq_1 <| And.intro s12_10.eq_1 <| And.intro s12_11.eq_1 <| And.intro s12_12.eq_1 <| And.intro s12_13.eq_1 <| s12_14.eq_1
theorem h12 : FnS Try.prog 12 ⟨[], [(6, [(0, 0), (1, 0), (2, 0), (3, 0), (4, 0), (5, 0), (6, 0), (7, 0), (8, 0)])]⟩ 26 [(.tmp 4)] s12 := by refine .mk' Try.func12 ?_ ?_ ?_ ?_ ?_ ?_ <;> kernel_rfl
def s13_0 : SCode := (.reg [(sn 6)])
def s13_1 : SCode := (.reg [(mv 10 0), (.mk (some 11) (.binOp (.eql) 23 (t 10) (.const (.pointer none)) 23) none)])
def s13_2 : SCode := (.reg [(sn 6)])
def s13_3 : SCode := (.cond (t 11) (.seq s13_2 (.ret)) (.skip))
def s13_4 : SCode := (.reg [(mv 12 0), (mv 13 2), (.mk (some 14) (.makeMap 63 none) none), (.mk (some 15) (.build 66 #[(0, (t 12)), (1, (t 13)), (2, (t 14))]) none), (.mk (some 16) (.box 66 (t 15)) none), (sv 7 16)])
def s13_5 : SCode := (.reg [(mv 17 1), (ln 18 17 28), (.mk (some 19) (.move (.const (.int (.i64) 0))) none)])
def s13_6 : SCode := (.reg [(bi 20 .lss 3 19 18 3)])
def s13_7 : SCode := (.reg [(ia 21 28 17 19), (ld 22 27 21), (.mk (some 9) (.alloc 27) none), (st 27 9 22)])
def s13_8 : SCode := (.reg [(mv 23 7), (ld 24 27 9), (c2 25 29 23 24 62 27)])
def s13_9 : SCode := (.reg [(mv 26 7), (.mk (some 27) (.nilCheck (t 26)) none), (fa 28 66 27 3), (ld 29 64 28), (ln 30 29 64), (bc 31 .gtr 3 30 0 3)])
def s13_10 : SCode := (.seq s13_9 (.cond (t 31) (.skip) (.exit 2)))
def s13_11 : SCode := (.reg [(mv 32 7), (c1 33 30 32 62)])
def s13_12 : SCode := (.block 2 (.loop (.seq s13_10 (.block 3 s13_11))))
def s13_13 : SCode := (.block 1 (.seq s13_7 (.seq s13_8 s13_12)))
def s13_14 : SCode := (.reg [(bc 34 .add 3 19 1 3), (mv 19 34)])
def s13_15 : SCode := (.seq (.cond (t 20) (.skip) (.exit 0)) (.seq s13_13 s13_14))
def s13_16 : SCode := (.seq s13_5 (.block 0 (.loop (.seq s13_6 s13_15))))
def s13_17 : SCode := (.reg [(mv 35 7), (.mk (some 36) (.nilCheck (t 35)) none), (fa 37 66 36 4), (ld 38 28 37), (sv 6 38)])
def s13_18 : SCode := (.seq s13_4 (.seq s13_16 (.seq s13_17 (.ret))))
def s13 : SCode := (.seq s13_0 (.seq (.seq s13_1 s13_3) s13_18))
def e13 := And.intro s13_0.eq_1 <| And.intro s13_1.eq_1 <| And.intro s13_2.eq_1 <| And.intro s13_3.eq_1 <| And.intro s13_4.eq_1 <| And.intro s13_5.eq_1 <| And.intro s13_6.eq_1 <| And.intro s13_7.eq_1 <| And.intro s13_8.eq_1 <| And.intro s13_9.eq_1 <| And.intro s13_10.eq_1 <| And.intro s13_11.eq_1 <| And.intro s13_12.eq_1 <| And.intro s13_13.eq_1 <| And.intro s13_14.eq_1 <| And.intro s13_15.eq_1 <| And.intro s13_16.eq_1 <| And.intro s13_17.eq_1 <| s13_18.eq_1
theorem h13 : FnS Try.prog 13 ⟨[], []⟩ 39 [(.tmp 6)] s13 := by refine .mk' Try.func13 ?_ ?_ ?_ ?_ ?_ ?_ <;> kernel_rfl
def s14_0 : SCode := (.reg [(.mk (some 0) (.assign (.const (.pointer none))) none)])
def s14_1 : SCode := (.reg [(.mk (some 2) (.call (.mk (.value (.func 9)) #[] #[])) none), (sv 1 2)])
def s14_2 : SCode := (.reg [(mv 3 1), (.mk (some 4) (.binOp (.eql) 23 (t 3) (.const (.pointer none)) 23) none)])
def s14_3 : SCode := (.reg [(.mk (some 0) (.assign (.const (.pointer none))) none)])
def s14_4 : SCode := (.cond (t 4) (.seq s14_3 (.ret)) (.skip))
def s14_5 : SCode := (.reg [(mv 5 1), (.mk (some 6) (.build 27 #[(0, (.const (.int (.u8) 4)))]) none), (.mk (some 7) (.build 27 #[(0, (.const (.int (.u8) 2)))]) none), (.mk (some 8) (.build 27 #[(0, (.const (.int (.u8) 3)))]) none), (.mk (some 9) (.buildSlice 28 2 #[(0, (t 7)), (1, (t 8))]) none), (.mk (some 10) (.build 32 #[(0, (t 6)), (1, (t 9))]) none), (.mk (some 11) (.build 27 #[(0, (.const (.int (.u8) 2)))]) none), (.mk (some 12) (.build 27 #[(0, (.const (.int (.u8) 1)))]) none), (b1 13 28 12), (.mk (some 14) (.build 32 #[(0, (t 11)), (1, (t 13))]) none), (.mk (some 15) (.build 27 #[(0, (.const (.int (.u8) 3)))]) none), (.mk (some 16) (.build 27 #[(0, (.const (.int (.u8) 1)))]) none), (b1 17 28 16), (.mk (some 18) (.build 32 #[(0, (t 15)), (1, (t 17))]) none), (.mk (some 19) (.build 27 #[(0, (.const (.int (.u8) 1)))]) none), (.mk (some 20) (.build 32 #[(0, (t 19))]) none), (.mk (some 21) (.buildSlice 29 4 #[(0, (t 10)), (1, (t 14)), (2, (t 18)), (3, (t 20))]) none), (c2 22 11 5 21 23 29)])
def s14_6 : SCode := (.reg [(mv 23 1), (sv 0 23)])
def s14_7 : SCode := (.seq (.seq s14_2 s14_4) (.seq s14_5 (.seq s14_6 (.ret))))
def s14 : SCode := (.seq s14_0 (.seq s14_1 s14_7))
def e14 := And.intro s14_0.eq_1 <| And.intro s14_1.eq_1 <| And.intro s14_2.eq_1 <| And.intro s14_3.eq_1 <| And.intro s14_4.eq_1 <| And.intro s14_5.eq_1 <| And.intro s14_6.eq_1 <| s14_7.eq_1
theorem h14 : FnS Try.prog 14 ⟨[], []⟩ 24 [(.tmp 0)] s14 := by refine .mk' Try.func14 ?_ ?_ ?_ ?_ ?_ ?_ <;> kernel_rfl
def s15_0 : SCode := (.reg [(.mk (some 1) (.box 27 (t 0)) none), (sb 2 false)])
def s15_1 : SCode := (.reg [(ld 3 27 1), (.mk (some 4) (.build 27 #[(0, (.const (.int (.u8) 1)))]) none), (bi 5 .eql 27 3 4 27), (sv 2 5)])
def e15 := And.intro s15_0.eq_1 <| s15_1.eq_1
def s20_0 : SCode := (.reg [(.mk (some 3) (.box 27 (t 1)) none), (sb 4 false)])
def s20_1 : SCode := (.reg [(sc 5 0)])
def s20_2 : SCode := (.reg [(mv 6 5), (mv 7 0), (ln 8 7 28), (bi 9 .lss 3 6 8 3)])
def s20_3 : SCode := (.seq s20_2 (.cond (t 9) (.skip) (.exit 0)))
def s20_4 : SCode := (.drw [((mv 12 0), 0), ((mv 13 5), 0), ((ia 14 28 12 13), 0), ((ld 15 27 14), 0), ((ld 16 27 3), 0), ((bi 17 .eql 27 15 16 27), 0)])
def s20_5 : SCode := (.reg [(sb 4 true)])
def s20_6 : SCode := (.cond (t 17) (.seq s20_5 (.ret)) (.skip))
def s20_7 : SCode := (.reg [(mv 10 5), (bc 11 .add 3 10 1 3), (sv 5 11)])
def s20_8 : SCode := (.seq (.block 1 (.seq s20_4 s20_6)) s20_7)
def s20_9 : SCode := (.seq s20_1 (.block 0 (.loop (.seq s20_3 s20_8))))
def s20_10 : SCode := (.reg [(sb 4 false)])
def e20 := And.intro s20_0.eq_1 <| And.intro s20_1.eq_1 <| And.intro s20_2.eq_1 <| And.intro s20_3.eq_1 <| And.intro s20_4.eq_1 <| And.intro s20_5.eq_1 <| And.intro s20_6.eq_1 <| And.intro s20_7.eq_1 <| And.intro s20_8.eq_1 <| And.intro s20_9.eq_1 <| s20_10.eq_1
def s26_0 : SCode := (.reg [(.mk (some 3) (.box 27 (t 1)) none), (sn 4), (sb 5 false)])
def s26_1 : SCode := (.drw [((mv 9 0), 0), ((.mk (some 10) (.nilCheck (t 9)) none), 0), ((fa 11 57 10 0), 0), ((ld 12 55 11), 0), ((ld 13 27 3), 0), ((.mk (some 14) (.lookup 55 (t 12) (t 13) true) none), 0), ((mv 8 14), 0), ((ex 15 8 0), 0), ((ex 16 8 1), 0), ((sv 6 15), 0), ((sv 7 16), 0)])
def s26_2 : SCode := (.reg [(mv 17 6), (c1 18 44 17 28), (mv 19 7), (sv 4 18), (sv 5 19)])
def s26 : SCode := (.seq s26_0 (.seq s26_1 (.seq s26_2 (.ret))))
def e26 := And.intro s26_0.eq_1 <| And.intro s26_1.eq_1 <| s26_2.eq_1
theorem h26 : FnS Try.prog 26 ⟨[3], [(1, [(0, 0), (1, 0), (2, 0), (3, 0), (4, 0), (5, 0), (6, 0), (7, 0), (8, 0), (9, 0), (10, 0)])]⟩ 20 [(.tmp 4), (.tmp 5)] s26 := by refine .mk' Try.func26 ?_ ?_ ?_ ?_ ?_ ?_ <;> kernel_rfl
def s28_0 : SCode := (.reg [(.mk (some 3) (.box 61 (t 1)) none), (.mk (some 4) (.assign (.const (.map none))) none), (.mk (some 5) (.assign (.const (.nilIface))) none)])
def s28_1 : SCode := (.reg [(ld 11 61 3), (c1 12 45 11 61), (sv 6 12)])
def s28_2 : SCode := (.reg [(mv 13 6), (.mk (some 14) (.binOp (.neq) 34 (t 13) (.const (.nilIface)) 34) none)])
def s28_3 : SCode := (.reg [(mv 15 6), (.mk (some 4) (.assign (.const (.map none))) none), (sv 5 15)])
def s28_4 : SCode := (.cond (t 14) (.seq s28_3 (.ret)) (.skip))
def s28_5 : SCode := (.reg [(mv 17 0), (fa 18 61 3 0), (ld 19 29 18), (c2 20 46 17 19 23 29), (mv 16 20), (ex 21 16 0), (ex 22 16 1), (sv 7 21), (sv 8 22)])
def s28_6 : SCode := (.reg [(mv 23 8), (.mk (some 24) (.binOp (.neq) 34 (t 23) (.const (.nilIface)) 34) none)])
def s28_7 : SCode := (.reg [(mv 25 8), (.mk (some 4) (.assign (.const (.map none))) none), (sv 5 25)])
def s28_8 : SCode := (.cond (t 24) (.seq s28_7 (.ret)) (.skip))
def s28_9 : SCode := (.reg [(mv 26 7), (ld 27 61 3), (c2 28 47 26 27 55 61), (sv 9 28)])
def s28_10 : SCode := (.reg [(mv 29 9), (.mk (some 30) (.binOp (.neq) 34 (t 29) (.const (.nilIface)) 34) none)])
def s28_11 : SCode := (.reg [(mv 31 9), (.mk (some 4) (.assign (.const (.map none))) none), (sv 5 31)])
def s28_12 : SCode := (.cond (t 30) (.seq s28_11 (.ret)) (.skip))
def s28_13 : SCode := (.reg [(mv 32 0), (mv 33 7), (fa 34 61 3 0), (ld 35 29 34), (.mk (some 36) (.call (.mk (.value (.func 48)) #[(t 32), (t 33), (t 35)] #[23, 55, 29])) none), (sv 10 36)])
def s28_14 : SCode := (.reg [(mv 37 10), (.mk (some 38) (.binOp (.neq) 34 (t 37) (.const (.nilIface)) 34) none)])
def s28_15 : SCode := (.reg [(mv 39 10), (.mk (some 4) (.assign (.const (.map none))) none), (sv 5 39)])
def s28_16 : SCode := (.cond (t 38) (.seq s28_15 (.ret)) (.skip))
def s28_17 : SCode := (.reg [(mv 40 7), (ln 41 40 55), (bc 42 .gtr 3 41 1000 3)])
def s28_18 : SCode := (.reg [(.mk (some 43) (.makeInterface 76 (.const (.int (.i64) 13))) none), (.mk (some 4) (.assign (.const (.map none))) none), (sv 5 43)])
def s28_19 : SCode := (.cond (t 42) (.seq s28_18 (.ret)) (.skip))
def s28_20 : SCode := (.reg [(mv 44 7), (sv 4 44), (.mk (some 5) (.assign (.const (.nilIface))) none)])
def s28_21 : SCode := (.seq (.seq s28_17 s28_19) (.seq s28_20 (.ret)))
def s28_22 : SCode := (.seq (.seq s28_13 (.seq s28_14 s28_16)) s28_21)
def s28_23 : SCode := (.seq (.seq s28_9 (.seq s28_10 s28_12)) s28_22)
def s28_24 : SCode := (.seq s28_5 (.seq (.seq s28_6 s28_8) s28_23))
def s28_25 : SCode := (.seq (.seq s28_1 (.seq s28_2 s28_4)) s28_24)
def s28 : SCode := (.seq s28_0 s28_25)
def e28 := And.intro s28_0.eq_1 <| And.intro s28_1.eq_1 <| And.intro s28_2.eq_1 <| And.intro s28_3.eq_1 <| And.intro s28_4.eq_1 <| And.intro s28_5.eq_1 <| And.intro s28_6.eq_1 <| And.intro s28_7.eq_1 <| And.intro s28_8.eq_1 <| And.intro s28_9.eq_1 <| And.intro s28_10.eq_1 <| And.intro s28_11.eq_1 <| And.intro s28_12.eq_1 <| And.intro s28_13.eq_1 <| And.intro s28_14.eq_1 <| And.intro s28_15.eq_1 <| And.intro s28_16.eq_1 <| And.intro s28_17.eq_1 <| And.intro s28_18.eq_1 <| And.intro s28_19.eq_1 <| And.intro s28_20.eq_1 <| And.intro s28_21.eq_1 <| And.intro s28_22.eq_1 <| And.intro s28_23.eq_1 <| And.intro s28_24.eq_1 <| s28_25.eq_1
theorem h28 : FnS Try.prog 28 ⟨[3], []⟩ 45 [(.tmp 4), (.tmp 5)] s28 := by refine .mk' Try.func28 ?_ ?_ ?_ ?_ ?_ ?_ <;> kernel_rfl
def s29_0 : SCode := (.reg [(.mk (some 3) (.box 27 (t 1)) none)])
def s29_1 : SCode := (.drw [((mv 7 0), 0), ((.mk (some 8) (.nilCheck (t 7)) none), 0), ((fa 9 66 8 0), 0), ((ld 10 23 9), 0), ((ld 11 27 3), 0), ((c2 12 26 10 11 23 27), 1), ((mv 6 12), 0), ((ex 13 6 0), 0), ((ex 14 6 1), 0), ((sv 4 13), 0), ((sv 5 14), 0)])
def s29_2 : SCode := (.drw [((mv 15 5), 0), ((nt 16 15), 0), ((mv 17 16), 0), ((mg 18 0 17 false), 0), ((.mk (some 19) (.nilCheck (t 18)) (some (17, false))), 0), ((.mk (some 20) (.fieldAddr 66 (t 19) 2) (some (17, false))), 0), ((.mk (some 21) (.load 63 (t 20)) (some (17, false))), 0), ((.mk (some 22) (.load 27 (t 3)) (some (17, false))), 0), ((.mk (some 23) (.lookup 63 (t 21) (t 22) false) (some (17, false))), 0), ((.mk (some 24) (.pick (t 17) (.const (.bool true)) (t 23)) none), 0), ((mv 25 24), 0), ((mg 26 0 25 false), 0), ((.mk (some 27) (.nilCheck (t 26)) (some (25, false))), 0), ((.mk (some 28) (.fieldAddr 66 (t 27) 1) (some (25, false))), 0), ((.mk (some 29) (.load 39 (t 28)) (some (25, false))), 0), ((.mk (some 30) (.binOp (.neq) 39 (t 29) (.const (.nilFunc)) 39) (some (25, false))), 0), ((mg 31 30 25 false), 0), ((mg 32 0 31 true), 0), ((.mk (some 33) (.nilCheck (t 32)) (some (31, true))), 0), ((.mk (some 34) (.fieldAddr 66 (t 33) 1) (some (31, true))), 0), ((.mk (some 35) (.load 39 (t 34)) (some (31, true))), 0), ((.mk (some 36) (.load 27 (t 3)) (some (31, true))), 0), ((.mk (some 37) (.call (.mk (.value (t 35)) #[(t 36)] #[27])) (some (31, true))), 1), ((.mk (some 38) (.pick (t 31) (t 37) (.const (.bool false))) (some (25, false))), 0), ((.mk (some 39) (.pick (t 25) (.const (.bool true)) (t 38)) none), 0)])
def s29_3 : SCode := (.seq s29_2 (.cond (t 39) (.ret) (.skip)))
def s29_4 : SCode := (.drw [((mv 40 0), 0), ((.mk (some 41) (.nilCheck (t 40)) none), 0), ((fa 42 66 41 2), 0), ((ld 43 63 42), 0), ((ld 44 27 3), 0), ((.mk none (.mapUpdate 63 (t 43) (t 44) (.const (.bool true))) none), 1)])
def s29_5 : SCode := (.drw [((mv 45 0), 0), ((mv 46 0), 0), ((.mk (some 47) (.nilCheck (t 46)) none), 0), ((fa 48 66 47 3), 0), ((ld 49 64 48), 0), ((ld 50 27 3), 0), ((mv 51 4), 0), ((.mk (some 52) (.build 94 #[(0, (t 50)), (1, (t 51))]) none), 0), ((b1 53 64 52), 0), ((ap 54 49 53 64), 1), ((.mk (some 55) (.nilCheck (t 45)) none), 0), ((fa 56 66 55 3), 0), ((st 64 56 54), 1)])
def s29_6 : SCode := (.seq s29_1 (.seq s29_3 (.seq s29_4 s29_5)))
def s29 : SCode := (.seq s29_0 s29_6)
def e29 := And.intro s29_0.eq_1 <| And.intro s29_1.eq_1 <| And.intro s29_2.eq_1 <| And.intro s29_3.eq_1 <| And.intro s29_4.eq_1 <| And.intro s29_5.eq_1 <| s29_6.eq_1
theorem h29 : FnS Try.prog 29 ⟨[3], [(1, [(0, 0), (1, 0), (2, 0), (3, 0), (4, 0), (5, 1), (6, 0), (7, 0), (8, 0), (9, 0), (10, 0)]), (2, [(0, 0), (1, 0), (2, 0), (3, 0), (4, 0), (5, 0), (6, 0), (7, 0), (8, 0), (9, 0), (10, 0), (11, 0), (12, 0), (13, 0), (14, 0), (15, 0), (16, 0), (17, 0), (18, 0), (19, 0), (20, 0), (21, 0), (22, 1), (23, 0), (24, 0)]), (3, [(0, 0), (1, 0), (2, 0), (3, 0), (4, 0), (5, 1)]), (4, [(0, 0), (1, 0), (2, 0), (3, 0), (4, 0), (5, 0), (6, 0), (7, 0), (8, 0), (9, 1), (10, 0), (11, 0), (12, 1)])]⟩ 57 [] s29 := by refine .mk' Try.func29 ?_ ?_ ?_ ?_ ?_ ?_ <;> kernel_rfl
def s30_0 : SCode := (.drw [((mv 4 0), 0), ((.mk (some 5) (.nilCheck (t 4)) none), 0), ((fa 6 66 5 3), 0), ((ld 7 64 6), 0), ((mv 8 0), 0), ((.mk (some 9) (.nilCheck (t 8)) none), 0), ((fa 10 66 9 3), 0), ((ld 11 64 10), 0), ((ln 12 11 64), 0), ((bc 13 .sub 3 12 1 3), 0), ((ia 14 64 7 13), 0), ((sv 2 14), 0)])
def s30_1 : SCode := (.reg [(mv 15 2), (.mk (some 16) (.nilCheck (t 15)) none), (fa 17 94 16 1), (ld 18 28 17), (ln 19 18 28), (bc 20 .gtr 3 19 0 3)])
def s30_2 : SCode := (.reg [(mv 21 2), (.mk (some 22) (.nilCheck (t 21)) none), (fa 23 94 22 1), (ld 24 28 23), (.mk (some 25) (.indexAddr 28 (t 24) (.const (.int (.i64) 0))) none), (ld 26 27 25), (.mk (some 3) (.alloc 27) none), (st 27 3 26)])
def s30_3 : SCode := (.reg [(mv 27 2), (mv 28 2), (.mk (some 29) (.nilCheck (t 28)) none), (fa 30 94 29 1), (ld 31 28 30), (.mk (some 32) (.slice 28 (t 31) (some (.const (.int (.i64) 1))) none none) none), (.mk (some 33) (.nilCheck (t 27)) none), (fa 34 94 33 1), (st 28 34 32)])
def s30_4 : SCode := (.reg [(mv 35 0), (ld 36 27 3), (c2 37 29 35 36 62 27)])
def s30_5 : SCode := (.seq s30_2 (.seq s30_3 (.seq s30_4 (.ret))))
def s30_6 : SCode := (.seq s30_1 (.cond (t 20) s30_5 (.skip)))
def s30_7 : SCode := (.drw [((mv 38 0), 0), ((mv 39 0), 0), ((.mk (some 40) (.nilCheck (t 39)) none), 0), ((fa 41 66 40 4), 0), ((ld 42 28 41), 0), ((mv 43 2), 0), ((.mk (some 44) (.nilCheck (t 43)) none), 0), ((fa 45 94 44 0), 0), ((ld 46 27 45), 0), ((b1 47 28 46), 0), ((ap 48 42 47 28), 1), ((.mk (some 49) (.nilCheck (t 38)) none), 0), ((fa 50 66 49 4), 0), ((st 28 50 48), 1)])
def s30_8 : SCode := (.drw [((mv 51 0), 0), ((mv 52 0), 0), ((.mk (some 53) (.nilCheck (t 52)) none), 0), ((fa 54 66 53 3), 0), ((ld 55 64 54), 0), ((mv 56 0), 0), ((.mk (some 57) (.nilCheck (t 56)) none), 0), ((fa 58 66 57 3), 0), ((ld 59 64 58), 0), ((ln 60 59 64), 0), ((bc 61 .sub 3 60 1 3), 0), ((.mk (some 62) (.slice 64 (t 55) none (some (t 61)) none) none), 0), ((.mk (some 63) (.nilCheck (t 51)) none), 0), ((fa 64 66 63 3), 0), ((st 64 64 62), 1)])
def s30 : SCode := (.seq s30_0 (.seq s30_6 (.seq s30_7 s30_8)))
def e30 := And.intro s30_0.eq_1 <| And.intro s30_1.eq_1 <| And.intro s30_2.eq_1 <| And.intro s30_3.eq_1 <| And.intro s30_4.eq_1 <| And.intro s30_5.eq_1 <| And.intro s30_6.eq_1 <| And.intro s30_7.eq_1 <| s30_8.eq_1
theorem h30 : FnS Try.prog 30 ⟨[], [(0, [(0, 0), (1, 0), (2, 0), (3, 0), (4, 0), (5, 0), (6, 0), (7, 0), (8, 0), (9, 0), (10, 0), (11, 0)]), (5, [(0, 0), (1, 0), (2, 0), (3, 0), (4, 0), (5, 0), (6, 0), (7, 0), (8, 0), (9, 0), (10, 1), (11, 0), (12, 0), (13, 1)]), (6, [(0, 0), (1, 0), (2, 0), (3, 0), (4, 0), (5, 0), (6, 0), (7, 0), (8, 0), (9, 0), (10, 0), (11, 0), (12, 0), (13, 0), (14, 1)])]⟩ 65 [] s30 := by refine .mk' Try.func30 ?_ ?_ ?_ ?_ ?_ ?_ <;> kernel_rfl
def s41_0 : SCode := (.reg [(.mk (some 4) (.assign (.const (.map none))) none)])
def s41_1 : SCode := (.reg [(.mk (some 8) (.makeMap 63 none) none), (sv 5 8)])
def s41_2 : SCode := (.reg [(mv 9 0), (c1 10 44 9 28), (sv 6 10)])
def s41_3 : SCode := (.reg [(mv 11 6), (ln 12 11 28), (bc 13 .gtr 3 12 0 3)])
def s41_4 : SCode := (.seq s41_3 (.cond (t 13) (.skip) (.exit 0)))
def s41_5 : SCode := (.reg [(mv 14 6), (mv 15 6), (ln 16 15 28), (bc 17 .sub 3 16 1 3), (ia 18 28 14 17), (ld 19 27 18), (.mk (some 7) (.alloc 27) none), (st 27 7 19)])
def s41_6 : SCode := (.reg [(mv 20 6), (mv 21 6), (ln 22 21 28), (bc 23 .sub 3 22 1 3), (.mk (some 24) (.slice 28 (t 20) none (some (t 23)) none) none), (sv 6 24)])
def s41_7 : SCode := (.reg [(mv 25 5), (ld 26 27 7), (.mk (some 27) (.lookup 63 (t 25) (t 26) false) none), (nt 28 27)])
def s41_8 : SCode := (.reg [(mv 29 5), (ld 30 27 7), (.mk none (.mapUpdate 63 (t 29) (t 30) (.const (.bool true))) none)])
def s41_9 : SCode := (.reg [(mv 31 6), (mv 32 1), (ld 33 27 7), (.mk (some 34) (.call (.mk (.value (t 32)) #[(t 33)] #[27])) none), (ap 35 31 34 28), (sv 6 35)])
def s41_10 : SCode := (.cond (t 28) (.seq s41_8 s41_9) (.skip))
def s41_11 : SCode := (.seq s41_5 (.seq s41_6 (.seq s41_7 s41_10)))
def s41_12 : SCode := (.block 0 (.loop (.seq s41_4 (.block 1 s41_11))))
def s41_13 : SCode := (.reg [(mv 36 5), (sv 4 36)])
def s41_14 : SCode := (.seq s41_2 (.seq s41_12 (.seq s41_13 (.ret))))
def s41 : SCode := (.seq s41_0 (.seq s41_1 s41_14))
def e41 := And.intro s41_0.eq_1 <| And.intro s41_1.eq_1 <| And.intro s41_2.eq_1 <| And.intro s41_3.eq_1 <| And.intro s41_4.eq_1 <| And.intro s41_5.eq_1 <| And.intro s41_6.eq_1 <| And.intro s41_7.eq_1 <| And.intro s41_8.eq_1 <| And.intro s41_9.eq_1 <| And.intro s41_10.eq_1 <| And.intro s41_11.eq_1 <| And.intro s41_12.eq_1 <| And.intro s41_13.eq_1 <| s41_14.eq_1
theorem h41 : FnS Try.prog 41 ⟨[], []⟩ 37 [(.tmp 4)] s41 := by refine .mk' Try.func41 ?_ ?_ ?_ ?_ ?_ ?_ <;> kernel_rfl
def s44_0 : SCode := (.reg [(sn 2)])
def s44_1 : SCode := (.reg [(mv 3 0), (.mk (some 4) (.binOp (.eql) 28 (t 3) (.const (.slice none 0 0)) 28) none)])
def s44_2 : SCode := (.reg [(sn 2)])
def s44_3 : SCode := (.cond (t 4) (.seq s44_2 (.ret)) (.skip))
def s44_4 : SCode := (.reg [(.mk (some 5) (.buildSlice 28 0 #[]) none), (mv 6 0), (ap 7 5 6 28), (sv 2 7)])
def s44_5 : SCode := (.seq (.seq s44_1 s44_3) (.seq s44_4 (.ret)))
def s44 : SCode := (.seq s44_0 s44_5)
def e44 := And.intro s44_0.eq_1 <| And.intro s44_1.eq_1 <| And.intro s44_2.eq_1 <| And.intro s44_3.eq_1 <| And.intro s44_4.eq_1 <| s44_5.eq_1
theorem h44 : FnS Try.prog 44 ⟨[7], []⟩ 8 [(.tmp 2)] s44 := by refine .mk' Try.func44 ?_ ?_ ?_ ?_ ?_ ?_ <;> kernel_rfl
def s45_0 : SCode := (.reg [(.mk (some 1) (.box 61 (t 0)) none), (.mk (some 2) (.assign (.const (.nilIface))) none)])
def s45_1 : SCode := (.reg [(fa 5 61 1 2), (ld 6 3 5), (bc 7 .neq 3 6 1 3), (mv 8 7), (.mk (some 9) (.fieldAddr 61 (t 1) 2) (some (8, true))), (.mk (some 10) (.load 3 (t 9)) (some (8, true))), (.mk (some 11) (.binOp (.neq) 3 (t 10) (.const (.int (.i64) 2)) 3) (some (8, true))), (pk 12 8 11 false), (mv 13 12), (.mk (some 14) (.fieldAddr 61 (t 1) 0) (some (13, false))), (.mk (some 15) (.load 29 (t 14)) (some (13, false))), (.mk (some 16) (.call (.mk (.builtin (.len)) #[(t 15)] #[29])) (some (13, false))), (.mk (some 17) (.binOp (.gtr) 3 (t 16) (.const (.int (.i64) 200)) 3) (some (13, false))), (.mk (some 18) (.pick (t 13) (.const (.bool true)) (t 17)) none), (mv 19 18), (.mk (some 20) (.fieldAddr 61 (t 1) 1) (some (19, false))), (.mk (some 21) (.load 28 (t 20)) (some (19, false))), (.mk (some 22) (.call (.mk (.builtin (.len)) #[(t 21)] #[28])) (some (19, false))), (.mk (some 23) (.binOp (.gtr) 3 (t 22) (.const (.int (.i64) 200)) 3) (some (19, false))), (.mk (some 24) (.pick (t 19) (.const (.bool true)) (t 23)) none)])
def s45_2 : SCode := (.reg [(.mk (some 25) (.makeInterface 76 (.const (.int (.i64) 1))) none), (sv 2 25)])
def s45_3 : SCode := (.cond (t 24) (.seq s45_2 (.ret)) (.skip))
def s45_4 : SCode := (.reg [(fa 26 61 1 0), (ld 27 29 26), (ln 28 27 29), (.mk (some 29) (.move (.const (.int (.i64) 0))) none)])
def s45_5 : SCode := (.reg [(bi 30 .lss 3 29 28 3)])
def s45_6 : SCode := (.reg [(ia 31 29 27 29), (ld 32 32 31), (.mk (some 4) (.alloc 32) none), (st 32 4 32)])
def s45_7 : SCode := (.reg [(fa 34 32 4 1), (ld 35 28 34), (ln 36 35 28), (bc 37 .gtr 3 36 4 3), (sv 33 37)])
def s45_8 : SCode := (.reg [(fa 38 32 4 0), (ld 39 27 38), (.mk (some 40) (.makeInterface 76 (.const (.int (.i64) 8))) none), (c2 41 59 39 40 27 34), (sv 2 41)])
def s45_9 : SCode := (.reg [(fa 43 32 4 1), (ld 44 28 43), (c1 45 60 44 28), (sv 42 45)])
def s45_10 : SCode := (.reg [(fa 46 32 4 0), (ld 47 27 46), (.mk (some 48) (.makeInterface 76 (.const (.int (.i64) 1))) none), (c2 49 59 47 48 27 34), (sv 2 49)])
def s45_11 : SCode := (.cond (t 42) (.seq s45_10 (.ret)) (.skip))
def s45_12 : SCode := (.cond (t 33) (.seq s45_8 (.ret)) (.seq s45_9 s45_11))
def s45_13 : SCode := (.seq s45_6 (.block 2 (.seq s45_7 s45_12)))
def s45_14 : SCode := (.reg [(bc 50 .add 3 29 1 3), (mv 29 50)])
def s45_15 : SCode := (.seq (.cond (t 30) (.skip) (.exit 0)) (.seq (.block 1 s45_13) s45_14))
def s45_16 : SCode := (.seq s45_4 (.block 0 (.loop (.seq s45_5 s45_15))))
def s45_17 : SCode := (.reg [(.mk (some 2) (.assign (.const (.nilIface))) none)])
def s45_18 : SCode := (.seq (.seq s45_1 s45_3) (.seq s45_16 (.seq s45_17 (.ret))))
def s45 : SCode := (.seq s45_0 s45_18)
def e45 := And.intro s45_0.eq_1 <| And.intro s45_1.eq_1 <| And.intro s45_2.eq_1 <| And.intro s45_3.eq_1 <| And.intro s45_4.eq_1 <| And.intro s45_5.eq_1 <| And.intro s45_6.eq_1 <| And.intro s45_7.eq_1 <| And.intro s45_8.eq_1 <| And.intro s45_9.eq_1 <| And.intro s45_10.eq_1 <| And.intro s45_11.eq_1 <| And.intro s45_12.eq_1 <| And.intro s45_13.eq_1 <| And.intro s45_14.eq_1 <| And.intro s45_15.eq_1 <| And.intro s45_16.eq_1 <| And.intro s45_17.eq_1 <| s45_18.eq_1
theorem h45 : FnS Try.prog 45 ⟨[1], []⟩ 51 [(.tmp 2)] s45 := by refine .mk' Try.func45 ?_ ?_ ?_ ?_ ?_ ?_ <;> kernel_rfl
def s46_0 : SCode := (.reg [(.mk (some 4) (.assign (.const (.map none))) none), (.mk (some 5) (.assign (.const (.nilIface))) none)])
def s46_1 : SCode := (.reg [(mv 11 0), (.mk (some 12) (.nilCheck (t 11)) none), (fa 13 57 12 0), (ld 14 55 13), (c1 15 61 14 55), (sv 6 15)])
def s46_2 : SCode := (.reg [(mv 16 1), (ln 17 16 29), (.mk (some 18) (.move (.const (.int (.i64) 0))) none)])
def s46_3 : SCode := (.reg [(bi 19 .lss 3 18 17 3)])
def s46_4 : SCode := (.reg [(ia 20 29 16 18), (ld 21 32 20), (.mk (some 8) (.alloc 32) none), (st 32 8 21)])
def s46_5 : SCode := (.reg [(mv 23 6), (fa 24 32 8 0), (ld 25 27 24), (.mk (some 26) (.lookup 55 (t 23) (t 25) true) none), (mv 22 26), (ex 27 22 0), (ex 28 22 1), (sv 9 27), (sv 10 28)])
def s46_6 : SCode := (.reg [(mv 29 10), (mv 30 29), (mg 31 9 30 true), (.mk (some 32) (.fieldAddr 32 (t 8) 1) (some (30, true))), (.mk (some 33) (.load 28 (t 32)) (some (30, true))), (.mk (some 34) (.call (.mk (.value (.func 62)) #[(t 31), (t 33)] #[28, 28])) (some (30, true))), (.mk (some 35) (.unOp (.not) 4 (t 34)) (some (30, true))), (pk 36 30 35 false)])
def s46_7 : SCode := (.reg [(fa 37 32 8 0), (ld 38 27 37), (.mk (some 39) (.makeInterface 76 (.const (.int (.i64) 9))) none), (c2 40 59 38 39 27 34), (.mk (some 4) (.assign (.const (.map none))) none), (sv 5 40)])
def s46_8 : SCode := (.cond (t 36) (.seq s46_7 (.ret)) (.skip))
def s46_9 : SCode := (.reg [(mv 41 10), (nt 42 41)])
def s46_10 : SCode := (.drw [((mv 43 6), 0), ((fa 44 32 8 0), 0), ((ld 45 27 44), 0), ((fa 46 32 8 1), 0), ((ld 47 28 46), 0), ((c1 48 44 47 28), 2), ((.mk none (.mapUpdate 55 (t 43) (t 45) (t 48)) none), 1)])
def s46_11 : SCode := (.seq s46_9 (.cond (t 42) s46_10 (.skip)))
def s46_12 : SCode := (.seq s46_5 (.seq (.seq s46_6 s46_8) s46_11))
def s46_13 : SCode := (.reg [(bc 49 .add 3 18 1 3), (mv 18 49)])
def s46_14 : SCode := (.seq (.block 1 (.seq s46_4 s46_12)) s46_13)
def s46_15 : SCode := (.seq (.cond (t 19) (.skip) (.exit 0)) s46_14)
def s46_16 : SCode := (.seq s46_2 (.block 0 (.loop (.seq s46_3 s46_15))))
def s46_17 : SCode := (.reg [(mv 50 6), (sv 4 50), (.mk (some 5) (.assign (.const (.nilIface))) none)])
def s46_18 : SCode := (.seq s46_1 (.seq s46_16 (.seq s46_17 (.ret))))
def s46 : SCode := (.seq s46_0 s46_18)
def e46 := And.intro s46_0.eq_1 <| And.intro s46_1.eq_1 <| And.intro s46_2.eq_1 <| And.intro s46_3.eq_1 <| And.intro s46_4.eq_1 <| And.intro s46_5.eq_1 <| And.intro s46_6.eq_1 <| And.intro s46_7.eq_1 <| And.intro s46_8.eq_1 <| And.intro s46_9.eq_1 <| And.intro s46_10.eq_1 <| And.intro s46_11.eq_1 <| And.intro s46_12.eq_1 <| And.intro s46_13.eq_1 <| And.intro s46_14.eq_1 <| And.intro s46_15.eq_1 <| And.intro s46_16.eq_1 <| And.intro s46_17.eq_1 <| s46_18.eq_1
theorem h46 : FnS Try.prog 46 ⟨[], [(9, [(0, 0), (1, 0), (2, 0), (3, 0), (4, 0), (5, 2), (6, 1)])]⟩ 51 [(.tmp 4), (.tmp 5)] s46 := by refine .mk' Try.func46 ?_ ?_ ?_ ?_ ?_ ?_ <;> kernel_rfl
def s47_0 : SCode := (.reg [(.mk (some 3) (.box 61 (t 1)) none), (.mk (some 4) (.assign (.const (.nilIface))) none)])
def s47_1 : SCode := (.reg [(fa 15 61 3 0), (ld 16 29 15), (ln 17 16 29), (.mk (some 18) (.move (.const (.int (.i64) 0))) none)])
def s47_2 : SCode := (.reg [(bi 19 .lss 3 18 17 3)])
def s47_3 : SCode := (.reg [(ia 20 29 16 18), (ld 21 32 20), (.mk (some 6) (.alloc 32) none), (st 32 6 21)])
def s47_4 : SCode := (.reg [(fa 22 32 6 1), (ld 23 28 22), (ln 24 23 28), (.mk (some 25) (.move (.const (.int (.i64) 0))) none)])
def s47_5 : SCode := (.reg [(bi 26 .lss 3 25 24 3)])
def s47_6 : SCode := (.reg [(ia 27 28 23 25), (ld 28 27 27), (.mk (some 8) (.alloc 27) none), (st 27 8 28)])
def s47_7 : SCode := (.reg [(mv 30 0), (ld 31 27 8), (.mk (some 32) (.lookup 55 (t 30) (t 31) true) none), (mv 29 32), (ex 33 29 0), (ex 34 29 1), (sv 9 33), (sv 10 34)])
def s47_8 : SCode := (.reg [(mv 35 10), (nt 36 35)])
def s47_9 : SCode := (.reg [(ld 37 27 8), (.mk (some 38) (.makeInterface 76 (.const (.int (.i64) 10))) none), (c2 39 59 37 38 27 34), (sv 4 39)])
def s47_10 : SCode := (.cond (t 36) (.seq s47_9 (.ret)) (.skip))
def s47_11 : SCode := (.seq s47_6 (.seq s47_7 (.seq s47_8 s47_10)))
def s47_12 : SCode := (.reg [(bc 40 .add 3 25 1 3), (mv 25 40)])
def s47_13 : SCode := (.seq (.cond (t 26) (.skip) (.exit 2)) (.seq (.block 3 s47_11) s47_12))
def s47_14 : SCode := (.seq s47_4 (.block 2 (.loop (.seq s47_5 s47_13))))
def s47_15 : SCode := (.reg [(bc 41 .add 3 18 1 3), (mv 18 41)])
def s47_16 : SCode := (.seq (.block 1 (.seq s47_3 s47_14)) s47_15)
def s47_17 : SCode := (.seq (.cond (t 19) (.skip) (.exit 0)) s47_16)
def s47_18 : SCode := (.seq s47_1 (.block 0 (.loop (.seq s47_2 s47_17))))
def s47_19 : SCode := (.reg [(fa 42 61 3 1), (ld 43 28 42), (ln 44 43 28), (.mk (some 45) (.move (.const (.int (.i64) 0))) none)])
def s47_20 : SCode := (.reg [(bi 46 .lss 3 45 44 3)])
def s47_21 : SCode := (.reg [(ia 47 28 43 45), (ld 48 27 47), (.mk (some 12) (.alloc 27) none), (st 27 12 48)])
def s47_22 : SCode := (.reg [(mv 50 0), (ld 51 27 12), (.mk (some 52) (.lookup 55 (t 50) (t 51) true) none), (mv 49 52), (ex 53 49 0), (ex 54 49 1), (sv 13 53), (sv 14 54)])
def s47_23 : SCode := (.reg [(mv 55 14), (nt 56 55)])
def s47_24 : SCode := (.reg [(ld 57 27 12), (.mk (some 58) (.makeInterface 76 (.const (.int (.i64) 11))) none), (c2 59 59 57 58 27 34), (sv 4 59)])
def s47_25 : SCode := (.cond (t 56) (.seq s47_24 (.ret)) (.skip))
def s47_26 : SCode := (.seq s47_21 (.seq s47_22 (.seq s47_23 s47_25)))
def s47_27 : SCode := (.reg [(bc 60 .add 3 45 1 3), (mv 45 60)])
def s47_28 : SCode := (.seq (.cond (t 46) (.skip) (.exit 4)) (.seq (.block 5 s47_26) s47_27))
def s47_29 : SCode := (.seq s47_19 (.block 4 (.loop (.seq s47_20 s47_28))))
def s47_30 : SCode := (.reg [(.mk (some 4) (.assign (.const (.nilIface))) none)])
def s47_31 : SCode := (.seq s47_18 (.seq s47_29 (.seq s47_30 (.ret))))
def s47 : SCode := (.seq s47_0 s47_31)
def e47 := And.intro s47_0.eq_1 <| And.intro s47_1.eq_1 <| And.intro s47_2.eq_1 <| And.intro s47_3.eq_1 <| And.intro s47_4.eq_1 <| And.intro s47_5.eq_1 <| And.intro s47_6.eq_1 <| And.intro s47_7.eq_1 <| And.intro s47_8.eq_1 <| And.intro s47_9.eq_1 <| And.intro s47_10.eq_1 <| And.intro s47_11.eq_1 <| And.intro s47_12.eq_1 <| And.intro s47_13.eq_1 <| And.intro s47_14.eq_1 <| And.intro s47_15.eq_1 <| And.intro s47_16.eq_1 <| And.intro s47_17.eq_1 <| And.intro s47_18.eq_1 <| And.intro s47_19.eq_1 <| And.intro s47_20.eq_1 <| And.intro s47_21.eq_1 <| And.intro s47_22.eq_1 <| And.intro s47_23.eq_1 <| And.intro s47_24.eq_1 <| And.intro s47_25.eq_1 <| And.intro s47_26.eq_1 <| And.intro s47_27.eq_1 <| And.intro s47_28.eq_1 <| And.intro s47_29.eq_1 <| And.intro s47_30.eq_1 <| s47_31.eq_1
theorem h47 : FnS Try.prog 47 ⟨[3], []⟩ 61 [(.tmp 4)] s47 := by refine .mk' Try.func47 ?_ ?_ ?_ ?_ ?_ ?_ <;> kernel_rfl
def s48_0 : SCode := (.reg [(.mk (some 4) (.box 55 (t 1)) none), (.mk (some 6) (.assign (.const (.nilIface))) none)])
def s48_1 : SCode := (.reg [(mv 11 2), (ln 12 11 29), (.mk (some 13) (.move (.const (.int (.i64) 0))) none)])
def s48_2 : SCode := (.reg [(bi 14 .lss 3 13 12 3)])
def s48_3 : SCode := (.reg [(ia 15 29 11 13), (ld 16 32 15), (.mk (some 8) (.alloc 32) none), (st 32 8 16)])
def s48_4 : SCode := (.drw [((mv 18 0), 0), ((.mk (some 19) (.nilCheck (t 18)) none), 0), ((fa 20 57 19 0), 0), ((ld 21 55 20), 0), ((fa 22 32 8 0), 0), ((ld 23 27 22), 0), ((.mk (some 24) (.lookup 55 (t 21) (t 23) true) none), 0), ((mv 17 24), 0), ((ex 25 17 0), 0), ((ex 26 17 1), 0), ((sv 9 25), 0), ((sv 10 26), 0)])
def s48_5 : SCode := (.reg [(mv 27 10)])
def s48_6 : SCode := (.seq s48_5 (.cond (t 27) (.exit 1) (.skip)))
def s48_7 : SCode := (.drw [((fa 28 32 8 1), 0), ((ld 29 28 28), 0), ((.mk (some 30) (.makeFunc (.func 63) #[] #[(t 4)]) none), 0), ((fa 32 32 8 0), 0), ((ld 33 27 32), 0), ((c2 31 41 29 30 28 88), 2), ((.mk (some 34) (.lookup 63 (t 31) (t 33) false) none), 0)])
def s48_8 : SCode := (.reg [(fa 35 32 8 0), (ld 36 27 35), (.mk (some 37) (.makeInterface 76 (.const (.int (.i64) 12))) none), (c2 38 59 36 37 27 34), (sv 6 38)])
def s48_9 : SCode := (.cond (t 34) (.seq s48_8 (.ret)) (.skip))
def s48_10 : SCode := (.seq (.seq s48_4 s48_6) (.seq s48_7 s48_9))
def s48_11 : SCode := (.reg [(bc 39 .add 3 13 1 3), (mv 13 39)])
def s48_12 : SCode := (.seq (.block 1 (.seq s48_3 s48_10)) s48_11)
def s48_13 : SCode := (.seq (.cond (t 14) (.skip) (.exit 0)) s48_12)
def s48_14 : SCode := (.seq s48_1 (.block 0 (.loop (.seq s48_2 s48_13))))
def s48_15 : SCode := (.reg [(.mk (some 6) (.assign (.const (.nilIface))) none)])
def s48 : SCode := (.seq s48_0 (.seq s48_14 (.seq s48_15 (.ret))))
def e48 := And.intro s48_0.eq_1 <| And.intro s48_1.eq_1 <| And.intro s48_2.eq_1 <| And.intro s48_3.eq_1 <| And.intro s48_4.eq_1 <| And.intro s48_5.eq_1 <| And.intro s48_6.eq_1 <| And.intro s48_7.eq_1 <| And.intro s48_8.eq_1 <| And.intro s48_9.eq_1 <| And.intro s48_10.eq_1 <| And.intro s48_11.eq_1 <| And.intro s48_12.eq_1 <| And.intro s48_13.eq_1 <| And.intro s48_14.eq_1 <| s48_15.eq_1
theorem h48 : FnS Try.prog 48 ⟨[4], [(4, [(0, 0), (1, 0), (2, 0), (3, 0), (4, 0), (5, 0), (6, 0), (7, 0), (8, 0), (9, 0), (10, 0), (11, 0)]), (6, [(0, 0), (1, 0), (2, 0), (4, 0), (5, 0), (3, 2), (6, 0)])]⟩ 40 [(.tmp 6)] s48 := by refine .mk' Try.func48 ?_ ?_ ?_ ?_ ?_ ?_ <;> kernel_rfl
def s54_0 : SCode := (.reg [(sn 2)])
def s54_1 : SCode := (.reg [(mv 4 0), (c1 5 44 4 28), (sv 3 5)])
def s54_2 : SCode := (.reg [(mv 6 3), (.mk (some 7) (.call (.mk (.value (.func 64)) #[(t 6), (.func 65)] #[28, 114])) none)])
def s54_3 : SCode := (.reg [(mv 8 3), (c1 9 67 8 28), (sv 2 9)])
def s54_4 : SCode := (.seq s54_1 (.seq s54_2 (.seq s54_3 (.ret))))
def s54 : SCode := (.seq s54_0 s54_4)
def e54 := And.intro s54_0.eq_1 <| And.intro s54_1.eq_1 <| And.intro s54_2.eq_1 <| And.intro s54_3.eq_1 <| s54_4.eq_1
theorem h54 : FnS Try.prog 54 ⟨[], []⟩ 10 [(.tmp 2)] s54 := by refine .mk' Try.func54 ?_ ?_ ?_ ?_ ?_ ?_ <;> kernel_rfl
def s59_0 : SCode := (.reg [(.mk (some 2) (.box 27 (t 0)) none), (.mk (some 4) (.assign (.const (.nilIface))) none)])
def s59_1 : SCode := (.reg [(mv 5 1), (.mk (some 6) (.binOp (.eql) 34 (t 5) (.const (.nilIface)) 34) none)])
def s59_2 : SCode := (.reg [(.mk (some 4) (.assign (.const (.nilIface))) none)])
def s59_3 : SCode := (.cond (t 6) (.seq s59_2 (.ret)) (.skip))
def s59_4 : SCode := (.reg [(ld 7 27 2), (mv 8 1), (.mk (some 9) (.build 119 #[(0, (t 7)), (1, (t 8))]) none), (.mk (some 10) (.box 119 (t 9)) none), (.mk (some 11) (.makeInterface 117 (t 10)) none), (sv 4 11)])
def s59_5 : SCode := (.seq (.seq s59_1 s59_3) (.seq s59_4 (.ret)))
def s59 : SCode := (.seq s59_0 s59_5)
def e59 := And.intro s59_0.eq_1 <| And.intro s59_1.eq_1 <| And.intro s59_2.eq_1 <| And.intro s59_3.eq_1 <| And.intro s59_4.eq_1 <| s59_5.eq_1
theorem h59 : FnS Try.prog 59 ⟨[2, 10], []⟩ 12 [(.tmp 4)] s59 := by refine .mk' Try.func59 ?_ ?_ ?_ ?_ ?_ ?_ <;> kernel_rfl
def s60_0 : SCode := (.reg [(sb 2 false)])
def s60_1 : SCode := (.reg [(mv 3 0), (c1 4 54 3 28), (ln 5 4 28), (mv 6 0), (ln 7 6 28), (bi 8 .lss 3 5 7 3), (sv 2 8)])
def s60 : SCode := (.seq s60_0 (.seq s60_1 (.ret)))
def e60 := And.intro s60_0.eq_1 <| s60_1.eq_1
theorem h60 : FnS Try.prog 60 ⟨[], []⟩ 9 [(.tmp 2)] s60 := by refine .mk' Try.func60 ?_ ?_ ?_ ?_ ?_ ?_ <;> kernel_rfl
def s62_0 : SCode := (.reg [(sb 4 false)])
def s62_1 : SCode := (.reg [(mv 6 0), (ln 7 6 28), (mv 8 1), (ln 9 8 28), (bi 10 .neq 3 7 9 3)])
def s62_2 : SCode := (.reg [(sb 4 false)])
def s62_3 : SCode := (.cond (t 10) (.seq s62_2 (.ret)) (.skip))
def s62_4 : SCode := (.reg [(mv 11 0), (ln 12 11 28), (.mk (some 13) (.move (.const (.int (.i64) 0))) none)])
def s62_5 : SCode := (.reg [(bi 14 .lss 3 13 12 3)])
def s62_6 : SCode := (.reg [(mv 15 13), (sv 5 15)])
def s62_7 : SCode := (.drw [((mv 16 0), 0), ((mv 17 5), 0), ((ia 18 28 16 17), 0), ((ld 19 27 18), 0), ((mv 20 1), 0), ((mv 21 5), 0), ((ia 22 28 20 21), 0), ((ld 23 27 22), 0), ((bi 24 .neq 27 19 23 27), 0)])
def s62_8 : SCode := (.reg [(sb 4 false)])
def s62_9 : SCode := (.cond (t 24) (.seq s62_8 (.ret)) (.skip))
def s62_10 : SCode := (.block 1 (.seq s62_6 (.seq s62_7 s62_9)))
def s62_11 : SCode := (.reg [(bc 25 .add 3 13 1 3), (mv 13 25)])
def s62_12 : SCode := (.seq (.cond (t 14) (.skip) (.exit 0)) (.seq s62_10 s62_11))
def s62_13 : SCode := (.seq s62_4 (.block 0 (.loop (.seq s62_5 s62_12))))
def s62_14 : SCode := (.reg [(sb 4 true)])
def s62_15 : SCode := (.seq (.seq s62_1 s62_3) (.seq s62_13 (.seq s62_14 (.ret))))
def s62 : SCode := (.seq s62_0 s62_15)
def e62 := And.intro s62_0.eq_1 <| And.intro s62_1.eq_1 <| And.intro s62_2.eq_1 <| And.intro s62_3.eq_1 <| And.intro s62_4.eq_1 <| And.intro s62_5.eq_1 <| And.intro s62_6.eq_1 <| And.intro s62_7.eq_1 <| And.intro s62_8.eq_1 <| And.intro s62_9.eq_1 <| And.intro s62_10.eq_1 <| And.intro s62_11.eq_1 <| And.intro s62_12.eq_1 <| And.intro s62_13.eq_1 <| And.intro s62_14.eq_1 <| s62_15.eq_1
theorem h62 : FnS Try.prog 62 ⟨[], [(6, [(0, 0), (1, 0), (2, 0), (3, 0), (4, 0), (5, 0), (6, 0), (7, 0), (8, 0)])]⟩ 26 [(.tmp 4)] s62 := by refine .mk' Try.func62 ?_ ?_ ?_ ?_ ?_ ?_ <;> kernel_rfl
def s63_0 : SCode := (.reg [(.mk (some 2) (.box 27 (t 0)) none), (sn 3)])
def s63_1 : SCode := (.reg [(ld 4 55 1), (ld 5 27 2), (.mk (some 6) (.lookup 55 (t 4) (t 5) false) none), (sv 3 6)])
def s63 : SCode := (.seq s63_0 (.seq s63_1 (.ret)))
def e63 := And.intro s63_0.eq_1 <| s63_1.eq_1
theorem h63 : FnS Try.prog 63 ⟨[2], []⟩ 7 [(.tmp 3)] s63 := by refine .mk' Try.func63 ?_ ?_ ?_ ?_ ?_ ?_ <;> kernel_rfl
def s67_0 : SCode := (.reg [(sn 2)])
def s67_1 : SCode := (.reg [(mv 6 0), (ln 7 6 28), (bc 8 .lss 3 7 2 3)])
def s67_2 : SCode := (.reg [(mv 9 0), (sv 2 9)])
def s67_3 : SCode := (.cond (t 8) (.seq s67_2 (.ret)) (.skip))
def s67_4 : SCode := (.reg [(sc 3 1)])
def s67_5 : SCode := (.reg [(mv 10 3), (mv 11 0), (ln 12 11 28), (bi 13 .lss 3 10 12 3)])
def s67_6 : SCode := (.seq s67_5 (.cond (t 13) (.skip) (.exit 0)))
def s67_7 : SCode := (.drw [((mv 16 0), 0), ((mv 17 3), 0), ((ia 18 28 16 17), 0), ((ld 19 27 18), 0), ((mv 20 0), 0), ((mv 21 3), 0), ((bc 22 .sub 3 21 1 3), 0), ((ia 23 28 20 22), 0), ((ld 24 27 23), 0), ((bi 25 .eql 27 19 24 27), 0)])
def s67_8 : SCode := (.reg [(mv 26 0), (mv 27 3), (.mk (some 28) (.slice 28 (t 26) (some (t 27)) none none) none), (sv 4 28)])
def s67_9 : SCode := (.reg [(sc 5 1)])
def s67_10 : SCode := (.reg [(mv 29 5), (mv 30 4), (ln 31 30 28), (bi 32 .lss 3 29 31 3)])
def s67_11 : SCode := (.seq s67_10 (.cond (t 32) (.skip) (.exit 2)))
def s67_12 : SCode := (.drw [((mv 35 4), 0), ((mv 36 5), 0), ((ia 37 28 35 36), 0), ((ld 38 27 37), 0), ((mv 39 4), 0), ((mv 40 5), 0), ((bc 41 .sub 3 40 1 3), 0), ((ia 42 28 39 41), 0), ((ld 43 27 42), 0), ((bi 44 .neq 27 38 43 27), 0)])
def s67_13 : SCode := (.reg [(mv 45 0), (mv 46 3), (mv 47 4), (mv 48 5), (ia 49 28 47 48), (ld 50 27 49), (ia 51 28 45 46), (st 27 51 50)])
def s67_14 : SCode := (.reg [(mv 52 3), (bc 53 .add 3 52 1 3), (sv 3 53)])
def s67_15 : SCode := (.cond (t 44) (.seq s67_13 s67_14) (.skip))
def s67_16 : SCode := (.reg [(mv 33 5), (bc 34 .add 3 33 1 3), (sv 5 34)])
def s67_17 : SCode := (.seq (.block 3 (.seq s67_12 s67_15)) s67_16)
def s67_18 : SCode := (.seq s67_9 (.block 2 (.loop (.seq s67_11 s67_17))))
def s67_19 : SCode := (.reg [(mv 54 0), (mv 55 3), (.mk (some 56) (.slice 28 (t 54) (some (t 55)) none none) none), (.mk none (.call (.mk (.builtin (.clear)) #[(t 56)] #[28])) none)])
def s67_20 : SCode := (.reg [(mv 57 0), (mv 58 3), (.mk (some 59) (.slice 28 (t 57) none (some (t 58)) none) none), (sv 2 59)])
def s67_21 : SCode := (.seq s67_18 (.seq s67_19 (.seq s67_20 (.ret))))
def s67_22 : SCode := (.cond (t 25) (.seq s67_8 s67_21) (.skip))
def s67_23 : SCode := (.reg [(mv 14 3), (bc 15 .add 3 14 1 3), (sv 3 15)])
def s67_24 : SCode := (.seq (.block 1 (.seq s67_7 s67_22)) s67_23)
def s67_25 : SCode := (.seq s67_4 (.block 0 (.loop (.seq s67_6 s67_24))))
def s67_26 : SCode := (.reg [(mv 60 0), (sv 2 60)])
def s67_27 : SCode := (.seq (.seq s67_1 s67_3) (.seq s67_25 (.seq s67_26 (.ret))))
def s67 : SCode := (.seq s67_0 s67_27)
def e67 := And.intro s67_0.eq_1 <| And.intro s67_1.eq_1 <| And.intro s67_2.eq_1 <| And.intro s67_3.eq_1 <| And.intro s67_4.eq_1 <| And.intro s67_5.eq_1 <| And.intro s67_6.eq_1 <| And.intro s67_7.eq_1 <| And.intro s67_8.eq_1 <| And.intro s67_9.eq_1 <| And.intro s67_10.eq_1 <| And.intro s67_11.eq_1 <| And.intro s67_12.eq_1 <| And.intro s67_13.eq_1 <| And.intro s67_14.eq_1 <| And.intro s67_15.eq_1 <| And.intro s67_16.eq_1 <| And.intro s67_17.eq_1 <| And.intro s67_18.eq_1 <| And.intro s67_19.eq_1 <| And.intro s67_20.eq_1 <| And.intro s67_21.eq_1 <| And.intro s67_22.eq_1 <| And.intro s67_23.eq_1 <| And.intro s67_24.eq_1 <| And.intro s67_25.eq_1 <| And.intro s67_26.eq_1 <| s67_27.eq_1
theorem h67 : FnS Try.prog 67 ⟨[], [(6, [(0, 0), (1, 0), (2, 0), (3, 0), (4, 0), (5, 0), (6, 0), (7, 0), (8, 0), (9, 0)]), (11, [(0, 0), (1, 0), (2, 0), (3, 0), (4, 0), (5, 0), (6, 0), (7, 0), (8, 0), (9, 0)])]⟩ 61 [(.tmp 2)] s67 := by refine .mk' Try.func67 ?_ ?_ ?_ ?_ ?_ ?_ <;> kernel_rfl
end
end Gv.Try

