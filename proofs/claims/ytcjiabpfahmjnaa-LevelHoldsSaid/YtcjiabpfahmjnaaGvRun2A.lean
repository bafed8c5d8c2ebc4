/- Values without stamps; calls that stand apart. -/
import Derived.Test.YtcjiabpfahmjnaaGvFreeze
set_option linter.unusedVariables false
namespace Gv
open Go

variable {P : Program}

/-! calls that stand apart -/
def Tag.noSt : Tag → Bool
  | .tok _ _ => false
  | _ => true
mutual
def GVal.noSt : GVal → Bool
  | .own _ _ _ _ | .ptr _ _ _ _ | .map _ _ => false
  | .slice xs tag => tag.noSt && noStL2 xs
  | .agg cs | .tuple cs | .ref cs => noStL cs
  | .func _ a b => noStL a && noStL b
  | .iface _ v => v.noSt
  | .cond _ v => v.noSt
  | _ => true
def noStL : List GVal → Bool
  | [] => true
  | g :: r => g.noSt && noStL r
def noStL2 : List (List GVal) → Bool
  | [] => true
  | g :: r => noStL g && noStL2 r
end

theorem noStL_at : ∀ {l : List GVal} {i : Nat} {g : GVal}, noStL l = true → l[i]? = some g → g.noSt = true
  | [], i, g, h, hg => by simp at hg
  | x :: r, 0, g, h, hg => by
    rw [noStL, Bool.and_eq_true] at h; simp at hg; subst hg; exact h.1
  | x :: r, i + 1, g, h, hg => by
    rw [noStL, Bool.and_eq_true] at h; simp at hg; exact noStL_at h.2 hg
theorem noStL_app : ∀ {l m : List GVal}, noStL l = true → noStL m = true → noStL (l ++ m) = true
  | [], m, h, k => k
  | x :: r, m, h, k => by rw [noStL, Bool.and_eq_true] at h; rw [List.cons_append, noStL, h.1, noStL_app h.2 k]; rfl
theorem noStL2_flat : ∀ {l : List (List GVal)}, noStL2 l = true → noStL l.flatten = true
  | [], h => rfl
  | x :: r, h => by rw [noStL2, Bool.and_eq_true] at h; rw [List.flatten_cons]; exact noStL_app h.1 (noStL2_flat h.2)

/-- without stamps, places do not matter -/
theorem VR.places {E E' : Env} (hs : ∀ b o v, E.snap b o = some v → E'.snap b o = some v) {v : Value} {g : GVal} (h : VR E v g) (hn : g.noSt = true) : VR E' v g := by
  induction h with
  | any v => exact .any v
  | bool b => exact .bool b
  | ubool b => exact .ubool b
  | int k n => exact .int k n
  | str s => exact .str s
  | lit v => exact .lit v
  | slice a len cap xs tag sz c hlen hcap hsz ha hc ht ih =>
    rw [GVal.noSt, Bool.and_eq_true] at hn
    refine .slice a len cap xs tag sz c hlen hcap hsz (fun hx => ?_) (fun j g hj => ih j g hj (noStL_at (noStL2_flat hn.2) hj)) ?_
    · obtain ⟨b, off, e, h2⟩ := ha hx
      exact ⟨b, off, e, fun j hj => hs _ _ _ (h2 j hj)⟩
    · cases tag with
      | none => trivial
      | full => exact ht
      | nil => exact ht
      | tok o st => simp [Tag.noSt] at hn
  | own a len cap o st i l hl hcap ha => simp [GVal.noSt] at hn
  | agg vs cs hs' hc ih => exact .agg vs cs hs' (fun j g hj => ih j g hj (noStL_at (by rw [GVal.noSt] at hn; exact hn) hj))
  | tuple vs cs hs' hc ih => exact .tuple vs cs hs' (fun j g hj => ih j g hj (noStL_at (by rw [GVal.noSt] at hn; exact hn) hj))
  | ref b off cs c ha hc ih => exact .ref b off cs c (fun j hj => hs _ _ _ (ha j hj)) (fun j g hj => ih j g hj (noStL_at (by rw [GVal.noSt] at hn; exact hn) hj))
  | ptr b off o st i j l hl hb ho => simp [GVal.noSt] at hn
  | map r o st l hl hb => simp [GVal.noSt] at hn
  | func fn fs cs gs ks hf hk hfs hcs ih1 ih2 =>
    rw [GVal.noSt, Bool.and_eq_true] at hn
    exact .func fn fs cs gs ks hf hk (fun j g hj => ih1 j g hj (noStL_at hn.1 hj)) (fun j g hj => ih2 j g hj (noStL_at hn.2 hj))
  | iface t v g hv ih => exact .iface t v g (ih (by rw [GVal.noSt] at hn; exact hn))
  | cond c v g hv ih => exact .cond c v g (fun e => ih e (by rw [GVal.noSt] at hn; exact hn))

/-- a call without stamps, in and out, leaves the caller's objects as they are -/
theorem GCalls.apart {f : FuncId} {args : List GVal} {r : GVal} {X : List GObj} (h : GCalls P f args [.clock 0] (fun g O' => g = r ∧ O' = X)) (ha : noStL args = true) (hr : r.noSt = true) (O : List GObj) :
    GCalls P f args O (fun g O' => g = r ∧ O' = O) := by
  refine ⟨h.1, fun E w vs hs hv => ?_⟩
  let E0 : Env := ⟨E.snap, fun _ => none⟩
  have hno : ∀ b, ¬ InO E0 [.clock 0] b := fun b ⟨i, x, hx, hb⟩ => by
    cases i with
    | zero => simp at hx; subst hx; cases hb
    | succ i => simp at hx
  have h0 : HSim E0 [.clock 0] w := ⟨⟨0, fun c _ => Nat.zero_le _, fun _ _ => rfl⟩, hs.sealed, hs.one, fun i x hx => by
    cases i with
    | zero => simp at hx; subst hx; trivial
    | succ i => simp at hx, fun i j oi oj b hij hi hj => by
    cases i with
    | zero => simp at hi; subst hi; intro hb; cases hb
    | succ i => simp at hi⟩
  refine (h.2 E0 w vs h0 ⟨hv.1, fun i g hg => (hv.2 i g hg).places (E := E) (E' := E0) (fun _ _ _ e => e) (noStL_at ha hg)⟩).mono ?_
  rintro e w' ⟨v, E', O', g, rfl, h1, h2, h3, rfl, rfl⟩
  have hold : ∀ b, b < w.heap.size → w'.heap[b]? = w.heap[b]? := fun b hb => h2.heap b hb (hno b)
  have hsn : ∀ b o v, E'.snap b o = some v → E.snap b o = some v ∨ w.heap.size ≤ b := fun b o v hv => by
    rcases h2.snap b o v hv with q | q | q
    · exact .inl q
    · exact .inr q
    · exact absurd q (hno b)
  let E1 : Env := ⟨E'.snap, E.loc⟩
  have hle : E.le E1 := ⟨fun b o v hv => h2.ext.snap b o v hv, fun _ _ hl => hl⟩
  have hreal : ∀ (i : Nat) x, O[i]? = some x → Realized E1 w' x := fun i x hx =>
    (hs.real i x hx).keep hle (fun b hb => hold b ((hs.real i x hx).blk_lt hb)) (fun b o v hb hv => (hsn b o v hv).elim id (fun q => by have := (hs.real i x hx).blk_lt hb; omega))
  have hb : ∀ (i : Nat) x, O[i]? = some x → x.blk E1 = x.blk E := fun i x hx => GObj.blk_mono hle (hs.real i x hx)
  refine ⟨v, E1, O, g, rfl, ⟨hs.fin.of_loc rfl rfl, h1.sealed, h1.one, hreal, fun i j oi oj b hij hi hj hbi hbj => ?_⟩,
    ⟨hle, h2.os, h2.out, h2.size, fun b hb _ => hold b hb, fun b o v hv => (hsn b o v hv).elim .inl (fun q => .inr (.inl q)), fun b ⟨i, x, hx, hbx⟩ => .inl ⟨i, x, hx, by rw [← hb i x hx]; exact hbx⟩, h2.frz⟩, h3.places (E := E') (E' := E1) (fun _ _ _ e => e) hr, rfl, rfl⟩
  rw [hb i oi hi] at hbi
  rw [hb j oj hj] at hbj
  exact hs.sep i j oi oj b hij hi hj hbi hbj

theorem GCalls.pure {f : FuncId} {args : List GVal} {r : GVal} {X : List GObj} (h : GCalls P f args [.clock 0] (fun g O' => g = r ∧ O' = X)) (ha : noStL args = true) (hr : r.noSt = true) : GPure P f args r := h.apart ha hr []


/-- a pure call without stamps, whatever the caller's objects, a clock too -/
theorem GPure.apart {f : FuncId} {args : List GVal} {r : GVal} (h : GPure P f args r) (ha : noStL args = true) (hr : r.noSt = true) (O : List GObj) : GCalls P f args O (fun g O' => g = r ∧ O' = O) := by
  refine ⟨h.1, fun E w vs hs hv => ?_⟩
  let E0 : Env := ⟨E.snap, fun _ => none⟩
  have hno : ∀ b, ¬ InO E0 [] b := fun b ⟨i, x, hx, hb⟩ => by simp at hx
  have h0 : HSim E0 [] w := ⟨⟨0, fun c _ => Nat.zero_le _, fun _ _ => rfl⟩, hs.sealed, hs.one, fun i x hx => by simp at hx, fun i j oi oj b hij hi hj => by simp at hi⟩
  refine (h.2 E0 w vs h0 ⟨hv.1, fun i g hg => (hv.2 i g hg).places (E := E) (E' := E0) (fun _ _ _ e => e) (noStL_at ha hg)⟩).mono ?_
  rintro e w' ⟨v, E', O', g, rfl, h1, h2, h3, rfl, rfl⟩
  have hold : ∀ b, b < w.heap.size → w'.heap[b]? = w.heap[b]? := fun b hb => h2.heap b hb (hno b)
  have hsn : ∀ b o v, E'.snap b o = some v → E.snap b o = some v ∨ w.heap.size ≤ b := fun b o v hv => by
    rcases h2.snap b o v hv with q | q | q
    · exact .inl q
    · exact .inr q
    · exact absurd q (hno b)
  let E1 : Env := ⟨E'.snap, E.loc⟩
  have hle : E.le E1 := ⟨fun b o v hv => h2.ext.snap b o v hv, fun _ _ hl => hl⟩
  have hreal : ∀ (i : Nat) x, O[i]? = some x → Realized E1 w' x := fun i x hx =>
    (hs.real i x hx).keep hle (fun b hb => hold b ((hs.real i x hx).blk_lt hb)) (fun b o v hb hv => (hsn b o v hv).elim id (fun q => by have := (hs.real i x hx).blk_lt hb; omega))
  have hb : ∀ (i : Nat) x, O[i]? = some x → x.blk E1 = x.blk E := fun i x hx => GObj.blk_mono hle (hs.real i x hx)
  refine ⟨v, E1, O, g, rfl, ⟨hs.fin.of_loc rfl rfl, h1.sealed, h1.one, hreal, fun i j oi oj b hij hi hj hbi hbj => ?_⟩,
    ⟨hle, h2.os, h2.out, h2.size, fun b hb _ => hold b hb, fun b o v hv => (hsn b o v hv).elim .inl (fun q => .inr (.inl q)), fun b ⟨i, x, hx, hbx⟩ => .inl ⟨i, x, hx, by rw [← hb i x hx]; exact hbx⟩, h2.frz⟩, h3.places (E := E') (E' := E1) (fun _ _ _ e => e) hr, rfl, rfl⟩
  rw [hb i oi hi] at hbi
  rw [hb j oj hj] at hbj
  exact hs.sep i j oi oj b hij hi hj hbi hbj

end Gv
