/- What is made and never written again: rows become plain lists. -/
import Derived.Test.YtcjiabpfahmjnaaGvInto
set_option linter.unusedVariables false
namespace Gv
open Go

def Tag.frz : Tag → Tag
  | .tok _ _ => .none
  | t => t
def frzL (f : GVal → Option GVal) : List GVal → Option (List GVal)
  | [] => some []
  | g :: r => match f g, frzL f r with
    | some g', some r' => some (g' :: r')
    | _, _ => none
def frzLL (f : GVal → Option GVal) : List (List GVal) → Option (List (List GVal))
  | [] => some []
  | g :: r => match frzL f g, frzLL f r with
    | some g', some r' => some (g' :: r')
    | _, _ => none
/-- a value without places: what its rows hold stands in it -/
def frz (O : List GObj) : Nat → GVal → Option GVal
  | 0, _ => none
  | n + 1, g => match g with
    | .slice xs tag => match frzLL (frz O n) xs with
      | some ys => some (.slice ys tag.frz)
      | none => none
    | .own o st off len => match O[o]? with
      | some (.row st' _ xs) => if st = st' ∧ off + len ≤ xs.length then (match frzLL (frz O n) ((xs.drop off).take len) with
        | some ys => some (.slice ys .none)
        | none => none) else none
      | _ => none
    | .ptr o st i j => match O[o]? with
      | some (.row st' _ xs) => if st = st' ∧ i < xs.length then (match frzL (frz O n) ((xs.getD i []).drop j) with
        | some ys => some (.ref ys)
        | none => none) else none
      | _ => none
    | .agg cs => match frzL (frz O n) cs with
      | some ys => some (.agg ys)
      | none => none
    | .tuple cs => match frzL (frz O n) cs with
      | some ys => some (.tuple ys)
      | none => none
    | .ref cs => match frzL (frz O n) cs with
      | some ys => some (.ref ys)
      | none => none
    | .func fn a b => match frzL (frz O n) a, frzL (frz O n) b with
      | some a', some b' => some (.func fn a' b')
      | _, _ => none
    | .iface t v => match frz O n v with
      | some v' => some (.iface t v')
      | none => none
    | .map _ _ => none
    | .cond _ _ => none
    | g => some g

theorem frzL_len {f : GVal → Option GVal} : ∀ {xs ys : List GVal}, frzL f xs = some ys → xs.length = ys.length
  | [], ys, h => by simp [frzL] at h; subst h; rfl
  | x :: xs, ys, h => by
    unfold frzL at h
    split at h
    · rename_i a b h1 h2; cases h; simp [frzL_len h2]
    · cases h
theorem frzL_at {f : GVal → Option GVal} : ∀ {xs ys : List GVal}, frzL f xs = some ys → ∀ (j : Nat) y, ys[j]? = some y → ∃ x, xs[j]? = some x ∧ f x = some y
  | [], ys, h, j, y, hy => by simp [frzL] at h; subst h; simp at hy
  | x :: xs, ys, h, j, y, hy => by
    unfold frzL at h
    split at h
    · rename_i a b h1 h2
      cases h
      cases j with
      | zero => simp at hy; subst hy; exact ⟨x, rfl, h1⟩
      | succ j => obtain ⟨z, q1, q2⟩ := frzL_at h2 j y (by simpa using hy); exact ⟨z, by simpa using q1, q2⟩
    · cases h
theorem frzL_app {f : GVal → Option GVal} : ∀ {xs ys xs' ys' : List GVal}, frzL f xs = some ys → frzL f xs' = some ys' → frzL f (xs ++ xs') = some (ys ++ ys')
  | [], ys, xs', ys', h, h' => by simp [frzL] at h; subst h; exact h'
  | x :: xs, ys, xs', ys', h, h' => by
    unfold frzL at h
    split at h
    · rename_i a b h1 h2; cases h
      rw [List.cons_append, frzL, h1, frzL_app h2 h']; rfl
    · cases h
theorem frzLL_flat {f : GVal → Option GVal} : ∀ {xs ys : List (List GVal)}, frzLL f xs = some ys → frzL f xs.flatten = some ys.flatten
  | [], ys, h => by simp [frzLL] at h; subst h; rfl
  | x :: xs, ys, h => by
    unfold frzLL at h
    split at h
    · rename_i a b h1 h2; cases h
      rw [List.flatten_cons, List.flatten_cons]; exact frzL_app h1 (frzLL_flat h2)
    · cases h
theorem frzLL_len {f : GVal → Option GVal} : ∀ {xs ys : List (List GVal)}, frzLL f xs = some ys → xs.length = ys.length
  | [], ys, h => by simp [frzLL] at h; subst h; rfl
  | x :: xs, ys, h => by
    unfold frzLL at h
    split at h
    · rename_i a b h1 h2; cases h; simp [frzLL_len h2]
    · cases h
theorem frzLL_sz {f : GVal → Option GVal} {sz : Nat} : ∀ {xs ys : List (List GVal)}, frzLL f xs = some ys → (∀ x ∈ xs, x.length = sz) → ∀ y ∈ ys, y.length = sz
  | [], ys, h, _, y, hy => by simp [frzLL] at h; subst h; simp at hy
  | x :: xs, ys, h, hs, y, hy => by
    unfold frzLL at h
    split at h
    · rename_i a b h1 h2; cases h
      rcases List.mem_cons.1 hy with rfl | hy
      · rw [← frzL_len h1]; exact hs x (by simp)
      · exact frzLL_sz h2 (fun z hz => hs z (by simp [hz])) y hy
    · cases h

section
variable {P : Program} {E : Env} {O : List GObj} {w : World}

/-- is a place a row's? -/
def inRow (E : Env) (O : List GObj) (b o : Nat) : Prop :=
  ∃ (i st sz : Nat) (xs : List (List GVal)) (l : GLoc), O[i]? = some (.row st sz xs) ∧ E.loc st = some l ∧ l.block = some b ∧ l.off ≤ o ∧ o < l.off + xs.length * sz
open Classical in
/-- all rows' cells are kept as they are -/
noncomputable def Env.frz (E : Env) (O : List GObj) (w : World) : Env :=
  { E with snap := fun b o => match E.snap b o with
    | some v => some v
    | none => if inRow E O b o then w.cell? ⟨b, o, none⟩ else none }

theorem Env.frz_le (E : Env) (O : List GObj) (w : World) : E.le (E.frz O w) := ⟨fun b o v h => by simp only [Env.frz, h], fun _ _ h => h⟩
theorem Env.frz_row {b o : Nat} {v : Value} (hr : inRow E O b o) (hc : w.cell? ⟨b, o, none⟩ = some v) (hs : ∀ u, E.snap b o = some u → u = v) : (E.frz O w).snap b o = some v := by
  simp only [Env.frz]
  cases h : E.snap b o with
  | some u => rw [hs u h]
  | none => simp only [if_pos hr]; exact hc

theorem HSim.frz (h : HSim E O w) : HSim (E.frz O w) [] w ∧ Keep E O w (E.frz O w) [] w := by
  have hrow : ∀ b o v, (E.frz O w).snap b o = some v → E.snap b o = some v ∨ (inRow E O b o ∧ w.cell? ⟨b, o, none⟩ = some v) := by
    intro b o v hv
    simp only [Env.frz] at hv
    cases hs : E.snap b o with
    | some u => rw [hs] at hv; exact .inl hv
    | none =>
      rw [hs] at hv
      simp only at hv
      split at hv
      · rename_i hr; exact .inr ⟨hr, hv⟩
      · cases hv
  refine ⟨⟨?_, fun b o v hv => ?_, fun b o v hv => ?_, fun i x hx => by simp at hx, fun i j oi oj b _ hi => by simp at hi⟩,
    ⟨Env.frz_le E O w, rfl, rfl, Nat.le_refl _, fun _ _ _ => rfl, fun b o v hv => ?_, fun b ⟨i, x, hx, _⟩ => by simp at hx, trivial⟩⟩
  · obtain ⟨n, _, h2⟩ := h.fin; exact ⟨n, (fun c hc => by cases hc), h2⟩
  · rcases hrow b o v hv with h1 | ⟨_, h2⟩
    · exact h.sealed b o v h1
    · exact h2
  · rcases hrow b o v hv with h1 | ⟨⟨i, st, sz, xs, l, hO, hl, hb, ho1, ho2⟩, h2⟩
    · exact h.one b o v h1
    · obtain ⟨l', hl', _, hsz, hr⟩ := h.real _ _ hO
      rw [hl] at hl'; cases hl'
      rw [hb] at hr
      obtain ⟨cur, el, hw, _, _, hra, _⟩ := hr
      have hlen := flatten_len xs hsz
      obtain ⟨v', hv', h1, _⟩ := hra (o - l.off) (xs.flatten[o - l.off]'(by omega)) (List.getElem?_eq_getElem (by omega))
      rw [show l.off + (o - l.off) = o by omega] at hv'
      have : w.cell? ⟨b, o, none⟩ = some v' := by simp [World.cell?, hw, hv']
      rw [this] at h2; cases h2; exact h1
  · rcases hrow b o v hv with h1 | ⟨⟨i, st, sz, xs, l, hO, hl, hb, _, _⟩, _⟩
    · exact .inl h1
    · exact .inr (.inr ⟨i, _, hO, by simp [GObj.blk, hl, hb]⟩)

/-- a row's cell, kept -/
theorem row_frz (h : HSim E O w) {i st sz : Nat} {xs : List (List GVal)} {l : GLoc} {b : Nat} (hO : O[i]? = some (.row st sz xs)) (hl : E.loc st = some l) (hb : l.block = some b) {j : Nat} {g : GVal} (hj : xs.flatten[j]? = some g) :
    ∃ v, (E.frz O w).snap b (l.off + j) = some v ∧ VR E v g := by
  obtain ⟨l', hl', _, hsz, hr⟩ := h.real _ _ hO
  rw [hl] at hl'; cases hl'
  rw [hb] at hr
  obtain ⟨cur, el, hw, _, _, hra, hn⟩ := hr
  have hlen := flatten_len xs hsz
  obtain ⟨v, hv, _, hvr⟩ := hra j g hj
  have hlt := (List.getElem?_eq_some_iff.1 hj).1
  refine ⟨v, Env.frz_row ⟨i, st, sz, xs, l, hO, hl, hb, by omega, by omega⟩ (by simp [World.cell?, hw, hv]) (fun u hu => by rw [hn] at hu; cases hu), hvr⟩

theorem frz_sound (h : HSim E O w) : ∀ (n : Nat) (v : Value) (g g' : GVal), VR E v g → frz O n g = some g' → VR (E.frz O w) v g'
  | 0, v, g, g', hv, hg => by cases hg
  | n + 1, v, g, g', hv, hg => by
    have hle := Env.frz_le E O w
    have ih := frz_sound h n
    have cells : ∀ (xs ys : List GVal) (c : Nat → Value), frzL (frz O n) xs = some ys → (∀ j g, xs[j]? = some g → VR E (c j) g) → ∀ j g, ys[j]? = some g → VR (E.frz O w) (c j) g := by
      intro xs ys c hf hc j g hj
      obtain ⟨x, hx, hxy⟩ := frzL_at hf j g hj
      exact ih _ _ _ (hc j x hx) hxy
    unfold frz at hg
    cases hv with
    | any v => cases hg; exact .any _
    | bool b => cases hg; exact .bool _
    | ubool b => cases hg; exact .ubool _
    | int k n => cases hg; exact .int _ _
    | str s => cases hg; exact .str _
    | lit v => cases hg; exact .lit _
    | slice a len cap xs tag sz c hlen hcap hsz ha hc ht =>
      simp only at hg
      split at hg
      · rename_i ys hys
        cases hg
        refine .slice a len cap ys _ sz c (by rw [hlen, frzLL_len hys]) hcap (frzLL_sz hys hsz) (fun hx => ?_) (cells _ _ c (frzLL_flat hys) hc) ?_
        · obtain ⟨b, off, e, hs⟩ := ha (fun e => hx (by subst e; simp [frzLL] at hys; exact hys))
          exact ⟨b, off, e, fun j hj => hle.snap _ _ _ (hs j hj)⟩
        · cases tag with
          | none => trivial
          | full => exact ht
          | nil => exact ht
          | tok o st => trivial
      · cases hg
    | own a len cap o st i l hl hcap ha =>
      simp only at hg
      split at hg
      · rename_i st' sz xs hO
        split at hg
        · rename_i hc
          obtain ⟨rfl, hle2⟩ := hc
          split at hg
          · rename_i ys hys
            cases hg
            obtain ⟨l', hl', hsz', hsz, hr⟩ := h.real _ _ hO
            rw [hl] at hl'; cases hl'
            have hlen : ((xs.drop i).take len).length = len := by rw [List.length_take, List.length_drop]; omega
            have hsz2 : ∀ x ∈ (xs.drop i).take len, x.length = sz := fun x hx => hsz x (List.mem_of_mem_drop (List.mem_of_mem_take hx))
            have hylen := frzLL_len hys
            have hyl : len = ys.length := by rw [← hylen, hlen]
            by_cases hz : len = 0
            · subst hz
              have : ys = [] := List.length_eq_zero_iff.1 hyl.symm
              subst this
              exact .slice a 0 cap [] .none sz (fun _ => .tuple #[]) rfl hcap (by simp) (fun e => absurd rfl e) (fun j g hj => by simp at hj) trivial
            · rcases ha with h0 | ⟨b, hb, rfl, _⟩
              · omega
              · have hflat : ((xs.drop i).take len).flatten = (xs.flatten.drop (i * sz)).take (len * sz) := by
                  rw [flatten_take _ len (fun x hx => hsz x (List.mem_of_mem_drop hx)) (by rw [List.length_drop]; omega), flatten_drop _ i hsz (by omega)]
                have hfl := flatten_len xs hsz
                have hin : i * sz + len * sz ≤ xs.length * sz := by rw [← Nat.add_mul]; exact Nat.mul_le_mul_right _ hle2
                have hat : ∀ j, j < len * sz → ∃ v, (E.frz O w).snap b (l.off + (i * sz + j)) = some v ∧ VR E v (xs.flatten.getD (i * sz + j) .any) := by
                  intro j hj
                  have hlt : i * sz + j < xs.flatten.length := by omega
                  exact row_frz h hO hl hb (getD_of hlt)
                refine .slice _ len cap ys .none sz (fun j => ((E.frz O w).snap b (l.off + (i * sz + j))).getD (.tuple #[])) hyl hcap (frzLL_sz hys hsz2) (fun _ => ⟨b, _, rfl, fun j hj => ?_⟩) ?_ trivial
                · obtain ⟨v, hv, _⟩ := hat j hj
                  rw [hsz', Nat.add_assoc, hv]; rfl
                · refine cells _ _ _ (frzLL_flat hys) (fun j g hj => ?_)
                  rw [hflat, List.getElem?_take] at hj
                  split at hj
                  · rename_i hjl
                    rw [List.getElem?_drop] at hj
                    obtain ⟨v, hv, hvr⟩ := hat j hjl
                    rw [hv]
                    simpa [List.getD, hj] using hvr
                  · cases hj
          · cases hg
        · cases hg
      · cases hg
    | agg vs cs hs hc =>
      simp only at hg
      split at hg
      · rename_i ys hys; cases hg
        exact .agg vs ys (by rw [hs, frzL_len hys]) (cells _ _ _ hys hc)
      · cases hg
    | tuple vs cs hs hc =>
      simp only at hg
      split at hg
      · rename_i ys hys; cases hg
        exact .tuple vs ys (by rw [hs, frzL_len hys]) (cells _ _ _ hys hc)
      · cases hg
    | ref b off cs c ha hc =>
      simp only at hg
      split at hg
      · rename_i ys hys; cases hg
        exact .ref b off ys c (fun j hj => hle.snap _ _ _ (ha j (by rw [frzL_len hys]; exact hj))) (cells _ _ _ hys hc)
      · cases hg
    | ptr b off o st i j l hl hb ho =>
      simp only at hg
      split at hg
      · rename_i st' sz xs hO
        split at hg
        · rename_i hc
          obtain ⟨rfl, hi⟩ := hc
          split at hg
          · rename_i ys hys
            cases hg
            obtain ⟨l', hl', hsz', hsz, hr⟩ := h.real _ _ hO
            rw [hl] at hl'; cases hl'
            have hget : xs[i]? = some (xs.getD i []) := getD_of hi
            have hx : (xs.getD i []).length = sz := hsz _ (mem_getD hi)
            have hat : ∀ k, k < sz → xs.flatten[i * sz + k]? = (xs.getD i [])[k]? := fun k hk => flatten_at xs hsz i k _ hget hk
            have hyl := frzL_len hys
            rw [List.length_drop, hx] at hyl
            refine .ref b off ys (fun k => ((E.frz O w).snap b (off + k)).getD (.tuple #[])) (fun k hk => ?_) ?_
            · have hlt : j + k < sz := by omega
              obtain ⟨v, hv, _⟩ := row_frz h hO hl hb (j := i * sz + (j + k)) (g := (xs.getD i [])[j + k]'(by omega)) (by rw [hat _ hlt]; exact List.getElem?_eq_getElem (by omega))
              have e : l.off + (i * sz + (j + k)) = off + k := by rw [ho, hsz']; omega
              rw [e] at hv
              rw [hv]; rfl
            · refine cells _ _ _ hys (fun k g hk => ?_)
              rw [List.getElem?_drop] at hk
              have hlt : j + k < sz := by rw [← hx]; exact (List.getElem?_eq_some_iff.1 hk).1
              obtain ⟨v, hv, hvr⟩ := row_frz h hO hl hb (j := i * sz + (j + k)) (g := g) (by rw [hat _ hlt]; exact hk)
              have e : l.off + (i * sz + (j + k)) = off + k := by rw [ho, hsz']; omega
              rw [e] at hv
              rw [hv]; exact hvr
          · cases hg
        · cases hg
      · cases hg
    | map r o st l hl hb => cases hg
    | func fn fs cs gs ks hf hk hfs hcs =>
      simp only at hg
      split at hg
      · rename_i a b h1 h2; cases hg
        exact .func fn fs cs a b (by rw [hf, frzL_len h1]) (by rw [hk, frzL_len h2]) (cells _ _ _ h1 hfs) (cells _ _ _ h2 hcs)
      · cases hg
    | iface t v g hv =>
      simp only at hg
      split at hg
      · rename_i v' h1; cases hg
        exact .iface t v v' (ih _ _ _ hv h1)
      · cases hg
    | cond c v g hv => cases hg

theorem Env.frz_nil (E : Env) (w : World) : E.frz [] w = E := by
  have : ∀ b o, ¬ inRow E [] b o := fun b o ⟨i, st, sz, xs, l, hO, _⟩ => by simp at hO
  simp only [Env.frz, this, if_false]
  cases E with
  | mk s l =>
    congr 1
    funext b o
    show (match s b o with | some v => some v | none => none) = s b o
    cases s b o <;> rfl
/-- less said of spare room -/
theorem strip_sound {n : Nat} {v : Value} {g g' : GVal} (h : HSim E O w) (hv : VR E v g) (hg : Gv.frz [] n g = some g') : VR E v g' := by
  have h0 : HSim E [] w := h.nil
  have := frz_sound h0 n v g g' hv hg
  rwa [Env.frz_nil] at this
theorem GCalls.strip {f : FuncId} {args args' : List GVal} {n : Nat} {K : GVal → List GObj → Prop} (h : GCalls P f args' O K) (ha : frzL (Gv.frz [] n) args = some args') : GCalls P f args O K :=
  ⟨h.1, fun E w vs hs hv => h.2 E w vs hs ⟨by rw [hv.1, frzL_len ha], fun i g hg => by
    obtain ⟨x, hx, hxg⟩ := frzL_at ha i g hg
    exact strip_sound hs (hv.2 i x hx) hxg⟩⟩

/-- a call's value, kept as it is, its objects left behind -/
theorem GInto.frz {g g' : GVal} {n : Nat} {N : GVal → List GObj → Prop} (hg : Gv.frz O n g = some g') (h : N g' []) : GInto g O N := fun E v w hs hv => by
  obtain ⟨h1, h2⟩ := hs.frz
  exact ⟨g', [], _, h, h1, h2, frz_sound hs n v g g' hv hg⟩
theorem GCalls.frz {f : FuncId} {args : List GVal} {X : List GObj} {r r' : GVal} {n : Nat} (h : GCalls P f args O (fun g O' => g = r ∧ O' = X)) (hr : Gv.frz X n r = some r') : GCalls P f args O (fun g O' => g = r' ∧ O' = []) :=
  (h.mono fun g O' ⟨e1, e2⟩ => by subst e1; subst e2; exact GInto.frz hr ⟨rfl, rfl⟩).into

end
end Gv
