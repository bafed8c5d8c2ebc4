/- A call that stands apart, of which a slice is left that may be appended to. -/
import Derived.Test.YtcjiabpfahmjnaaGvFast
set_option linter.unusedVariables false
namespace Gv
open Go

variable {P : Program}

/-- what is known of a slice's spare room behind a call that stood apart -/
structure Spare (E : Env) (X : List GObj) (w : World) (v : Value) (sz : Nat) (ys : List (List GVal)) (l : GLoc) : Prop where
  size : l.size = sz
  block : ∀ b, l.block = some b → InO E X b ∧ ∃ cur el, w.heap[b]? = some (.cells cur el (0, 0)) ∧ cur.size = l.total ∧ ∀ o, l.off ≤ o → (E.frz X w).snap b o = none
  val : VR (E.frz X w) v (.slice ys .none)
  tag : ∀ a len cap, v = .slice a len cap → cap = len ∨ ∃ b off, a = some ⟨b, off, none⟩ ∧ l.block = some b ∧ l.off = off + len * l.size ∧ off + cap * l.size ≤ l.total

theorem GCalls.apartSpare {f : FuncId} {args : List GVal} {g : GVal} {X : List GObj} {sz : Nat} {ys : List (List GVal)} (h : GCalls P f args [.clock 0] (fun g' O' => g' = g ∧ O' = X)) (ha : noStL args = true)
    (hsp : ∀ E w v, HSim E X w → VR E v g → ∃ l, Spare E X w v sz ys l) (hn : noStL2 ys = true) {O : List GObj} {K : GVal → List GObj → Prop}
    (hk : stamp O fun c => K (.slice ys (.tok O.length c)) (tickO O ++ [.tok c sz])) : GCalls P f args O K := by
  refine ⟨h.1, fun E w vs hs0 hv => ?_⟩
  obtain ⟨c, hkc, hc, hnx, hs, hkeep⟩ := hs0.stamp hk
  rw [← tickO_len O] at hkc
  let E0 : Env := ⟨E.snap, fun _ => none⟩
  have hno : ∀ b, ¬ InO E0 [.clock 0] b := fun b ⟨i, x, hx, hb⟩ => by
    cases i with
    | zero => simp at hx; subst hx; cases hb
    | succ i => simp at hx
  have h0 : HSim E0 [.clock 0] w := ⟨⟨0, fun c _ => Nat.zero_le _, fun _ _ => rfl⟩, hs.sealed, hs.one, fun i x hx => by
    cases i with
    | zero => simp at hx; subst hx; trivial
    | succ i => simp at hx, fun i j oi oj b hij hi hj => by
    cases i with
    | zero => simp at hi; subst hi; intro hb; cases hb
    | succ i => simp at hi⟩
  refine (h.2 E0 w vs h0 ⟨hv.1, fun i g hg => (hv.2 i g hg).places (E := E) (E' := E0) (fun _ _ _ e => e) (noStL_at ha hg)⟩).mono ?_
  rintro e w' ⟨v, E', O', g', rfl, h1, h2, h3, rfl, rfl⟩
  obtain ⟨l, hS⟩ := hsp E' w' v h1 h3
  obtain ⟨hf, hfk⟩ := h1.frz
  have hold : ∀ b, b < w.heap.size → w'.heap[b]? = w.heap[b]? := fun b hb => h2.heap b hb (hno b)
  have hnew : ∀ b, InO E' O' b → w.heap.size ≤ b := fun b hb => (h2.objs b hb).resolve_left (hno b)
  have hsn : ∀ b o v, (E'.frz O' w').snap b o = some v → E.snap b o = some v ∨ w.heap.size ≤ b := fun b o v hv => by
    rcases hfk.snap b o v hv with q | q | q
    · rcases h2.snap b o v q with q | q | q
      · exact .inl q
      · exact .inr q
      · exact absurd q (hno b)
    · exact .inr (Nat.le_trans h2.size q)
    · exact .inr (hnew b q)
  let E1 : Env := ⟨(E'.frz O' w').snap, fun s => if s = c then some l else E.loc s⟩
  have hle : E.le E1 := ⟨fun b o v hv => hfk.ext.snap b o v (h2.ext.snap b o v hv), fun s l' hl => by
    show (if s = c then some l else E.loc s) = some l'
    rw [if_neg (fun e => by subst e; rw [hc] at hl; cases hl)]; exact hl⟩
  have hself : E1.loc c = some l := by show (if c = c then some l else E.loc c) = some l; rw [if_pos rfl]
  have hreal : ∀ (i : Nat) x, (tickO O)[i]? = some x → Realized E1 w' x := fun i x hx =>
    (hs.real i x hx).keep hle (fun b hb => hold b ((hs.real i x hx).blk_lt hb)) (fun b o v hb hv => (hsn b o v hv).elim id (fun q => by have := (hs.real i x hx).blk_lt hb; omega))
  have hb : ∀ (i : Nat) x, (tickO O)[i]? = some x → x.blk E1 = x.blk E := fun i x hx => GObj.blk_mono hle (hs.real i x hx)
  have htok : (GObj.tok c sz).blk E1 = l.block := by simp [GObj.blk, hself]
  have split : ∀ (i : Nat) x, (tickO O ++ [.tok c sz])[i]? = some x → (tickO O)[i]? = some x ∨ (i = (tickO O).length ∧ x = .tok c sz) := fun i x hx => by
    by_cases hi : i < (tickO O).length
    · rw [List.getElem?_append_left hi] at hx; exact .inl hx
    · rw [List.getElem?_append_right (by omega)] at hx
      have : i - (tickO O).length = 0 := by
        have := (List.getElem?_eq_some_iff.1 hx).1
        simp at this; omega
      rw [this] at hx; simp at hx
      exact .inr ⟨by omega, hx.symm⟩
  have hfin : Fin' E1 (tickO O ++ [.tok c sz]) := by
    obtain ⟨n, q1, q2⟩ := hs.fin
    refine ⟨max n (c + 1), fun c' hc' => ?_, fun s hsm => ?_⟩
    · rw [clockOf_app rfl] at hc'
      have := q1 c' hc'
      have := hnx c' hc'
      omega
    · show (if s = c then some l else E.loc s) = none
      rw [if_neg (by omega)]; exact q2 s (by omega)
  refine ⟨v, E1, tickO O ++ [.tok c sz], .slice ys (.tok (tickO O).length c), rfl, ⟨hfin, hf.sealed, hf.one, fun i x hx => ?_, fun i j oi oj b hij hi hj hbi hbj => ?_⟩,
    hkeep.trans ⟨hle, h2.os, h2.out, h2.size, fun b hb _ => hold b hb, fun b o v hv => (hsn b o v hv).elim .inl (fun q => .inr (.inl q)), fun b ⟨i, x, hx, hbx⟩ => ?_, trivial⟩, ?_, hkc⟩
  · rcases split i x hx with h4 | ⟨_, rfl⟩
    · exact hreal i x h4
    · refine ⟨l, hself, hS.size, ?_⟩
      cases hlb : l.block with
      | none => trivial
      | some b => exact (hS.block b hlb).2
  · rcases split i oi hi with h4 | ⟨e4, rfl⟩
    · rw [hb i oi h4] at hbi
      have hlt := (hs.real i oi h4).blk_lt hbi
      rcases split j oj hj with h5 | ⟨_, rfl⟩
      · rw [hb j oj h5] at hbj
        exact hs.sep i j oi oj b hij h4 h5 hbi hbj
      · rw [htok] at hbj
        have := hnew b (hS.block b hbj).1
        omega
    · rw [htok] at hbi
      have := hnew b (hS.block b hbi).1
      rcases split j oj hj with h5 | ⟨e5, rfl⟩
      · rw [hb j oj h5] at hbj
        have := (hs.real j oj h5).blk_lt hbj
        omega
      · omega
  · rcases split i x hx with h4 | ⟨_, rfl⟩
    · exact .inl ⟨i, x, h4, by rw [← hb i x h4]; exact hbx⟩
    · rw [htok] at hbx
      exact .inr (hnew b (hS.block b hbx).1)
  · have hp : VR E1 v (.slice ys .none) := VR.places (E := E'.frz O' w') (E' := E1) (fun _ _ _ e => e) hS.val (by rw [GVal.noSt, hn]; rfl)
    have htg := hS.tag
    cases hp with
    | slice a len cap xs tag sz' cc hlen hcap hsz ha' hcc ht =>
      exact .slice a len cap ys _ sz' cc hlen hcap hsz ha' hcc ⟨l, hself, htg a len cap rfl⟩

theorem spareOwn {X : List GObj} {o st off len sz n : Nat} {xs ys : List (List GVal)} (hX : X[o]? = some (.row st sz xs)) (hl : off + len = xs.length) (hys : frzLL (frz X n) ((xs.drop off).take len) = some ys) :
    ∀ E w v, HSim E X w → VR E v (.own o st off len) → ∃ l, Spare E X w v sz ys l := by
  intro E w v h hv
  have hv2 : VR (E.frz X w) v (.slice ys .none) := frz_sound h (n + 1) v _ _ hv (by unfold frz; simp only [hX]; rw [if_pos ⟨by trivial, by omega⟩, hys])
  cases hv with
  | own a len cap o st i l hll hcap ha =>
    obtain ⟨l', hl', hsz', hsz, hr⟩ := h.real _ _ hX
    rw [hll] at hl'; cases hl'
    refine ⟨{ l with off := l.off + xs.length * sz }, hsz', fun b hb => ?_, hv2, fun a' len' cap' e => ?_⟩
    · have hb' : l.block = some b := hb
      rw [hb'] at hr
      obtain ⟨cur, el, hw, h1, h2, h3, h4⟩ := hr
      refine ⟨⟨o, _, hX, by simp [GObj.blk, hll, hb']⟩, cur, el, hw, h1, fun p hp => ?_⟩
      have hp' : l.off + xs.length * sz ≤ p := hp
      simp only [Env.frz, h4]
      split
      · rename_i hin
        obtain ⟨i', st', sz', xs', l', hO, hl', hb2, q1, q2⟩ := hin
        by_cases hio : i' = o
        · subst hio
          rw [hX] at hO; cases hO
          rw [hll] at hl'; cases hl'
          omega
        · exact absurd (by simp [GObj.blk, hll, hb']) (h.sep i' o _ _ b hio hO hX (by simp [GObj.blk, hl', hb2]))
      · rfl
    · cases e
      rcases ha with h0 | ⟨b, hb, rfl, hle⟩
      · left; omega
      · right
        refine ⟨b, _, rfl, hb, ?_, ?_⟩
        · show l.off + xs.length * sz = l.off + off * l.size + len * l.size
          rw [← hl, hsz', Nat.add_mul]; omega
        · exact hle

theorem spareTok {X : List GObj} {o st sz n : Nat} {xs ys : List (List GVal)} (hX : X[o]? = some (.tok st sz)) (hys : frzLL (frz X n) xs = some ys) :
    ∀ E w v, HSim E X w → VR E v (.slice xs (.tok o st)) → ∃ l, Spare E X w v sz ys l := by
  intro E w v h hv
  have hv2 : VR (E.frz X w) v (.slice ys .none) := frz_sound h (n + 1) v _ _ hv (by unfold frz; simp only [hys]; rfl)
  cases hv with
  | slice a len cap xs tag sz2 c hlen hcap hsz ha hc ht =>
    obtain ⟨l, hll, htag⟩ := ht
    obtain ⟨l', hl', hsz', hr⟩ := h.real _ _ hX
    rw [hll] at hl'; cases hl'
    refine ⟨l, hsz', fun b hb => ?_, hv2, fun a' len' cap' e => by cases e; exact htag⟩
    rw [hb] at hr
    obtain ⟨cur, el, hw, h1, h4⟩ := hr
    refine ⟨⟨o, _, hX, by simp [GObj.blk, hll, hb]⟩, cur, el, hw, h1, fun p hp => ?_⟩
    simp only [Env.frz, h4 p hp]
    split
    · rename_i hin
      obtain ⟨i', st', sz', xs', l', hO, hl', hb2, q1, q2⟩ := hin
      have hio : i' ≠ o := fun e => by subst e; rw [hX] at hO; cases hO
      exact absurd (by simp [GObj.blk, hll, hb]) (h.sep i' o _ _ b hio hO hX (by simp [GObj.blk, hl', hb2]))
    · rfl

/-- the slice of a call that stood apart: its elements, their size -/
def spareX (X : List GObj) (g : GVal) : Option (List (List GVal) × Nat) :=
  match g with
  | .own o st off len => match X[o]? with
    | some (.row st' sz xs) => if st = st' ∧ off + len = xs.length then (match frzLL (frz X 64) ((xs.drop off).take len) with
      | some ys => some (ys, sz)
      | none => none) else none
    | _ => none
  | .slice xs (.tok o st) => match X[o]? with
    | some (.tok st' sz) => if st = st' then (match frzLL (frz X 64) xs with
      | some ys => some (ys, sz)
      | none => none) else none
    | _ => none
  | _ => none
theorem spareX_ok {X : List GObj} {g : GVal} {ys : List (List GVal)} {sz : Nat} (h : spareX X g = some (ys, sz)) : ∀ E w v, HSim E X w → VR E v g → ∃ l, Spare E X w v sz ys l := by
  unfold spareX at h
  split at h
  · split at h
    · rename_i hX
      split at h
      · rename_i hc
        obtain ⟨rfl, hc⟩ := hc
        split at h
        · rename_i e; cases h; exact spareOwn hX hc e
        · cases h
      · cases h
    · cases h
  · split at h
    · rename_i hX
      split at h
      · rename_i hc
        subst hc
        split at h
        · rename_i e; cases h; exact spareTok hX e
        · cases h
      · cases h
    · cases h
  · cases h

end Gv
