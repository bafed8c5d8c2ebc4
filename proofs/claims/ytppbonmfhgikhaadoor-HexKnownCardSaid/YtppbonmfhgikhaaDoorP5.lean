/- What is made and never written again: rows become plain lists. -/
import Derived.Test.YtppbonmfhgikhaaDoorP4
import Derived.LoopN
set_option linter.unusedVariables false
namespace Gv
open Go

def Tag.frz : Tag → Tag
  | .tok _ _ => .none
  | t => t
def frzL (f : GVal → Option GVal) : List GVal → Option (List GVal)
  | [] => some []
  | g :: r => match f g, frzL f r with
    | some g', some r' => some (g' :: r')
    | _, _ => none
def frzLL (f : GVal → Option GVal) : List (List GVal) → Option (List (List GVal))
  | [] => some []
  | g :: r => match frzL f g, frzLL f r with
    | some g', some r' => some (g' :: r')
    | _, _ => none
/-- a value without places: what its rows hold stands in it -/
def frz (O : List GObj) : Nat → GVal → Option GVal
  | 0, _ => none
  | n + 1, g => match g with
    | .slice xs tag => match frzLL (frz O n) xs with
      | some ys => some (.slice ys tag.frz)
      | none => none
    | .own o st off len => match O[o]? with
      | some (.row st' _ xs) => if st = st' ∧ off + len ≤ xs.length then (match frzLL (frz O n) ((xs.drop off).take len) with
        | some ys => some (.slice ys .none)
        | none => none) else none
      | _ => none
    | .ptr o st i j => match O[o]? with
      | some (.row st' _ xs) => if st = st' ∧ i < xs.length then (match frzL (frz O n) ((xs.getD i []).drop j) with
        | some ys => some (.ref ys)
        | none => none) else none
      | _ => none
    | .agg cs => match frzL (frz O n) cs with
      | some ys => some (.agg ys)
      | none => none
    | .tuple cs => match frzL (frz O n) cs with
      | some ys => some (.tuple ys)
      | none => none
    | .ref cs => match frzL (frz O n) cs with
      | some ys => some (.ref ys)
      | none => none
    | .func fn a b => match frzL (frz O n) a, frzL (frz O n) b with
      | some a', some b' => some (.func fn a' b')
      | _, _ => none
    | .iface t v => match frz O n v with
      | some v' => some (.iface t v')
      | none => none
    | .map _ _ => none
    | .cond _ _ => none
    | g => some g

theorem frzL_len {f : GVal → Option GVal} : ∀ {xs ys : List GVal}, frzL f xs = some ys → xs.length = ys.length
  | [], ys, h => by simp [frzL] at h; subst h; rfl
  | x :: xs, ys, h => by
    unfold frzL at h
    split at h
    · rename_i a b h1 h2; cases h; simp [frzL_len h2]
    · cases h
theorem frzL_at {f : GVal → Option GVal} : ∀ {xs ys : List GVal}, frzL f xs = some ys → ∀ (j : Nat) y, ys[j]? = some y → ∃ x, xs[j]? = some x ∧ f x = some y
  | [], ys, h, j, y, hy => by simp [frzL] at h; subst h; simp at hy
  | x :: xs, ys, h, j, y, hy => by
    unfold frzL at h
    split at h
    · rename_i a b h1 h2
      cases h
      cases j with
      | zero => simp at hy; subst hy; exact ⟨x, rfl, h1⟩
      | succ j => obtain ⟨z, q1, q2⟩ := frzL_at h2 j y (by simpa using hy); exact ⟨z, by simpa using q1, q2⟩
    · cases h
theorem frzL_app {f : GVal → Option GVal} : ∀ {xs ys xs' ys' : List GVal}, frzL f xs = some ys → frzL f xs' = some ys' → frzL f (xs ++ xs') = some (ys ++ ys')
  | [], ys, xs', ys', h, h' => by simp [frzL] at h; subst h; exact h'
  | x :: xs, ys, xs', ys', h, h' => by
    unfold frzL at h
    split at h
    · rename_i a b h1 h2; cases h
      rw [List.cons_append, frzL, h1, frzL_app h2 h']; rfl
    · cases h
theorem frzLL_flat {f : GVal → Option GVal} : ∀ {xs ys : List (List GVal)}, frzLL f xs = some ys → frzL f xs.flatten = some ys.flatten
  | [], ys, h => by simp [frzLL] at h; subst h; rfl
  | x :: xs, ys, h => by
    unfold frzLL at h
    split at h
    · rename_i a b h1 h2; cases h
      rw [List.flatten_cons, List.flatten_cons]; exact frzL_app h1 (frzLL_flat h2)
    · cases h
theorem frzLL_len {f : GVal → Option GVal} : ∀ {xs ys : List (List GVal)}, frzLL f xs = some ys → xs.length = ys.length
  | [], ys, h => by simp [frzLL] at h; subst h; rfl
  | x :: xs, ys, h => by
    unfold frzLL at h
    split at h
    · rename_i a b h1 h2; cases h; simp [frzLL_len h2]
    · cases h
theorem frzLL_sz {f : GVal → Option GVal} {sz : Nat} : ∀ {xs ys : List (List GVal)}, frzLL f xs = some ys → (∀ x ∈ xs, x.length = sz) → ∀ y ∈ ys, y.length = sz
  | [], ys, h, _, y, hy => by simp [frzLL] at h; subst h; simp at hy
  | x :: xs, ys, h, hs, y, hy => by
    unfold frzLL at h
    split at h
    · rename_i a b h1 h2; cases h
      rcases List.mem_cons.1 hy with rfl | hy
      · rw [← frzL_len h1]; exact hs x (by simp)
      · exact frzLL_sz h2 (fun z hz => hs z (by simp [hz])) y hy
    · cases h

section
variable {P : Program} {E : Env} {O : List GObj} {w : World}

/-- is a place a row's? -/
def inRow (E : Env) (O : List GObj) (b o : Nat) : Prop :=
  ∃ (i st sz : Nat) (xs : List (List GVal)) (l : GLoc), O[i]? = some (.row st sz xs) ∧ E.loc st = some l ∧ l.block = some b ∧ l.off ≤ o ∧ o < l.off + xs.length * sz
open Classical in
/-- all rows' cells are kept as they are -/
noncomputable def Env.frz (E : Env) (O : List GObj) (w : World) : Env :=
  { E with snap := fun b o => match E.snap b o with
    | some v => some v
    | none => if inRow E O b o then w.cell? ⟨b, o, none⟩ else none }

theorem Env.frz_le (E : Env) (O : List GObj) (w : World) : E.le (E.frz O w) := ⟨fun b o v h => by simp only [Env.frz, h], fun _ _ h => h⟩
theorem Env.frz_row {b o : Nat} {v : Value} (hr : inRow E O b o) (hc : w.cell? ⟨b, o, none⟩ = some v) (hs : ∀ u, E.snap b o = some u → u = v) : (E.frz O w).snap b o = some v := by
  simp only [Env.frz]
  cases h : E.snap b o with
  | some u => rw [hs u h]
  | none => simp only [if_pos hr]; exact hc

theorem HSim.frz (h : HSim E O w) : HSim (E.frz O w) [] w ∧ Keep E O w (E.frz O w) [] w := by
  have hrow : ∀ b o v, (E.frz O w).snap b o = some v → E.snap b o = some v ∨ (inRow E O b o ∧ w.cell? ⟨b, o, none⟩ = some v) := by
    intro b o v hv
    simp only [Env.frz] at hv
    cases hs : E.snap b o with
    | some u => rw [hs] at hv; exact .inl hv
    | none =>
      rw [hs] at hv
      simp only at hv
      split at hv
      · rename_i hr; exact .inr ⟨hr, hv⟩
      · cases hv
  refine ⟨⟨?_, fun b o v hv => ?_, fun b o v hv => ?_, fun i x hx => by simp at hx, fun i j oi oj b _ hi => by simp at hi, h.globLe (Env.frz_le E O w)⟩,
    ⟨Env.frz_le E O w, rfl, rfl, Nat.le_refl _, fun _ _ _ => rfl, fun b o v hv => ?_, fun b ⟨i, x, hx, _⟩ => by simp at hx, trivial⟩⟩
  · obtain ⟨n, _, h2⟩ := h.fin; exact ⟨n, (fun c hc => by cases hc), h2⟩
  · rcases hrow b o v hv with h1 | ⟨_, h2⟩
    · exact h.sealed b o v h1
    · exact h2
  · rcases hrow b o v hv with h1 | ⟨⟨i, st, sz, xs, l, hO, hl, hb, ho1, ho2⟩, h2⟩
    · exact h.one b o v h1
    · obtain ⟨l', hl', _, hsz, hr⟩ := h.real _ _ hO
      rw [hl] at hl'; cases hl'
      rw [hb] at hr
      obtain ⟨cur, el, hw, _, _, hra, _⟩ := hr
      have hlen := flatten_len xs hsz
      obtain ⟨v', hv', h1, _⟩ := hra (o - l.off) (xs.flatten[o - l.off]'(by omega)) (List.getElem?_eq_getElem (by omega))
      rw [show l.off + (o - l.off) = o by omega] at hv'
      have : w.cell? ⟨b, o, none⟩ = some v' := by simp [World.cell?, hw, hv']
      rw [this] at h2; cases h2; exact h1
  · rcases hrow b o v hv with h1 | ⟨⟨i, st, sz, xs, l, hO, hl, hb, _, _⟩, _⟩
    · exact .inl h1
    · exact .inr (.inr ⟨i, _, hO, by simp [GObj.blk, hl, hb]⟩)

/-- a row's cell, kept -/
theorem row_frz (h : HSim E O w) {i st sz : Nat} {xs : List (List GVal)} {l : GLoc} {b : Nat} (hO : O[i]? = some (.row st sz xs)) (hl : E.loc st = some l) (hb : l.block = some b) {j : Nat} {g : GVal} (hj : xs.flatten[j]? = some g) :
    ∃ v, (E.frz O w).snap b (l.off + j) = some v ∧ VR E v g := by
  obtain ⟨l', hl', _, hsz, hr⟩ := h.real _ _ hO
  rw [hl] at hl'; cases hl'
  rw [hb] at hr
  obtain ⟨cur, el, hw, _, _, hra, hn⟩ := hr
  have hlen := flatten_len xs hsz
  obtain ⟨v, hv, _, hvr⟩ := hra j g hj
  have hlt := (List.getElem?_eq_some_iff.1 hj).1
  refine ⟨v, Env.frz_row ⟨i, st, sz, xs, l, hO, hl, hb, by omega, by omega⟩ (by simp [World.cell?, hw, hv]) (fun u hu => by rw [hn] at hu; cases hu), hvr⟩

theorem frz_sound (h : HSim E O w) : ∀ (n : Nat) (v : Value) (g g' : GVal), VR E v g → frz O n g = some g' → VR (E.frz O w) v g'
  | 0, v, g, g', hv, hg => by cases hg
  | n + 1, v, g, g', hv, hg => by
    have hle := Env.frz_le E O w
    have ih := frz_sound h n
    have cells : ∀ (xs ys : List GVal) (c : Nat → Value), frzL (frz O n) xs = some ys → (∀ j g, xs[j]? = some g → VR E (c j) g) → ∀ j g, ys[j]? = some g → VR (E.frz O w) (c j) g := by
      intro xs ys c hf hc j g hj
      obtain ⟨x, hx, hxy⟩ := frzL_at hf j g hj
      exact ih _ _ _ (hc j x hx) hxy
    unfold frz at hg
    cases hv with
    | any v => cases hg; exact .any _
    | bool b => cases hg; exact .bool _
    | ubool b => cases hg; exact .ubool _
    | int k n => cases hg; exact .int _ _
    | str s => cases hg; exact .str _
    | lit v => cases hg; exact .lit _
    | slice a len cap xs tag sz c hlen hcap hsz ha hc ht =>
      simp only at hg
      split at hg
      · rename_i ys hys
        cases hg
        refine .slice a len cap ys _ sz c (by rw [hlen, frzLL_len hys]) hcap (frzLL_sz hys hsz) (fun hx => ?_) (cells _ _ c (frzLL_flat hys) hc) ?_
        · obtain ⟨b, off, e, hs⟩ := ha (fun e => hx (by subst e; simp [frzLL] at hys; exact hys))
          exact ⟨b, off, e, fun j hj => hle.snap _ _ _ (hs j hj)⟩
        · cases tag with
          | none => trivial
          | full => exact ht
          | nil => exact ht
          | tok o st => trivial
      · cases hg
    | own a len cap o st i l hl hcap ha =>
      simp only at hg
      split at hg
      · rename_i st' sz xs hO
        split at hg
        · rename_i hc
          obtain ⟨rfl, hle2⟩ := hc
          split at hg
          · rename_i ys hys
            cases hg
            obtain ⟨l', hl', hsz', hsz, hr⟩ := h.real _ _ hO
            rw [hl] at hl'; cases hl'
            have hlen : ((xs.drop i).take len).length = len := by rw [List.length_take, List.length_drop]; omega
            have hsz2 : ∀ x ∈ (xs.drop i).take len, x.length = sz := fun x hx => hsz x (List.mem_of_mem_drop (List.mem_of_mem_take hx))
            have hylen := frzLL_len hys
            have hyl : len = ys.length := by rw [← hylen, hlen]
            by_cases hz : len = 0
            · subst hz
              have : ys = [] := List.length_eq_zero_iff.1 hyl.symm
              subst this
              exact .slice a 0 cap [] .none sz (fun _ => .tuple #[]) rfl hcap (by simp) (fun e => absurd rfl e) (fun j g hj => by simp at hj) trivial
            · rcases ha with h0 | ⟨b, hb, rfl, _⟩
              · omega
              · have hflat : ((xs.drop i).take len).flatten = (xs.flatten.drop (i * sz)).take (len * sz) := by
                  rw [flatten_take _ len (fun x hx => hsz x (List.mem_of_mem_drop hx)) (by rw [List.length_drop]; omega), flatten_drop _ i hsz (by omega)]
                have hfl := flatten_len xs hsz
                have hin : i * sz + len * sz ≤ xs.length * sz := by rw [← Nat.add_mul]; exact Nat.mul_le_mul_right _ hle2
                have hat : ∀ j, j < len * sz → ∃ v, (E.frz O w).snap b (l.off + (i * sz + j)) = some v ∧ VR E v (xs.flatten.getD (i * sz + j) .any) := by
                  intro j hj
                  have hlt : i * sz + j < xs.flatten.length := by omega
                  exact row_frz h hO hl hb (getD_of hlt)
                refine .slice _ len cap ys .none sz (fun j => ((E.frz O w).snap b (l.off + (i * sz + j))).getD (.tuple #[])) hyl hcap (frzLL_sz hys hsz2) (fun _ => ⟨b, _, rfl, fun j hj => ?_⟩) ?_ trivial
                · obtain ⟨v, hv, _⟩ := hat j hj
                  rw [hsz', Nat.add_assoc, hv]; rfl
                · refine cells _ _ _ (frzLL_flat hys) (fun j g hj => ?_)
                  rw [hflat, List.getElem?_take] at hj
                  split at hj
                  · rename_i hjl
                    rw [List.getElem?_drop] at hj
                    obtain ⟨v, hv, hvr⟩ := hat j hjl
                    rw [hv]
                    simpa [List.getD, hj] using hvr
                  · cases hj
          · cases hg
        · cases hg
      · cases hg
    | agg vs cs hs hc =>
      simp only at hg
      split at hg
      · rename_i ys hys; cases hg
        exact .agg vs ys (by rw [hs, frzL_len hys]) (cells _ _ _ hys hc)
      · cases hg
    | tuple vs cs hs hc =>
      simp only at hg
      split at hg
      · rename_i ys hys; cases hg
        exact .tuple vs ys (by rw [hs, frzL_len hys]) (cells _ _ _ hys hc)
      · cases hg
    | ref b off cs c ha hc =>
      simp only at hg
      split at hg
      · rename_i ys hys; cases hg
        exact .ref b off ys c (fun j hj => hle.snap _ _ _ (ha j (by rw [frzL_len hys]; exact hj))) (cells _ _ _ hys hc)
      · cases hg
    | ptr b off o st i j l hl hb ho =>
      simp only at hg
      split at hg
      · rename_i st' sz xs hO
        split at hg
        · rename_i hc
          obtain ⟨rfl, hi⟩ := hc
          split at hg
          · rename_i ys hys
            cases hg
            obtain ⟨l', hl', hsz', hsz, hr⟩ := h.real _ _ hO
            rw [hl] at hl'; cases hl'
            have hget : xs[i]? = some (xs.getD i []) := getD_of hi
            have hx : (xs.getD i []).length = sz := hsz _ (mem_getD hi)
            have hat : ∀ k, k < sz → xs.flatten[i * sz + k]? = (xs.getD i [])[k]? := fun k hk => flatten_at xs hsz i k _ hget hk
            have hyl := frzL_len hys
            rw [List.length_drop, hx] at hyl
            refine .ref b off ys (fun k => ((E.frz O w).snap b (off + k)).getD (.tuple #[])) (fun k hk => ?_) ?_
            · have hlt : j + k < sz := by omega
              obtain ⟨v, hv, _⟩ := row_frz h hO hl hb (j := i * sz + (j + k)) (g := (xs.getD i [])[j + k]'(by omega)) (by rw [hat _ hlt]; exact List.getElem?_eq_getElem (by omega))
              have e : l.off + (i * sz + (j + k)) = off + k := by rw [ho, hsz']; omega
              rw [e] at hv
              rw [hv]; rfl
            · refine cells _ _ _ hys (fun k g hk => ?_)
              rw [List.getElem?_drop] at hk
              have hlt : j + k < sz := by rw [← hx]; exact (List.getElem?_eq_some_iff.1 hk).1
              obtain ⟨v, hv, hvr⟩ := row_frz h hO hl hb (j := i * sz + (j + k)) (g := g) (by rw [hat _ hlt]; exact hk)
              have e : l.off + (i * sz + (j + k)) = off + k := by rw [ho, hsz']; omega
              rw [e] at hv
              rw [hv]; exact hvr
          · cases hg
        · cases hg
      · cases hg
    | map r o st l hl hb => cases hg
    | func fn fs cs gs ks hf hk hfs hcs =>
      simp only at hg
      split at hg
      · rename_i a b h1 h2; cases hg
        exact .func fn fs cs a b (by rw [hf, frzL_len h1]) (by rw [hk, frzL_len h2]) (cells _ _ _ h1 hfs) (cells _ _ _ h2 hcs)
      · cases hg
    | iface t v g hv =>
      simp only at hg
      split at hg
      · rename_i v' h1; cases hg
        exact .iface t v v' (ih _ _ _ hv h1)
      · cases hg
    | cond c v g hv => cases hg

theorem Env.frz_nil (E : Env) (w : World) : E.frz [] w = E := by
  have : ∀ b o, ¬ inRow E [] b o := fun b o ⟨i, st, sz, xs, l, hO, _⟩ => by simp at hO
  simp only [Env.frz, this, if_false]
  cases E with
  | mk s l =>
    congr 1
    funext b o
    show (match s b o with | some v => some v | none => none) = s b o
    cases s b o <;> rfl
/-- less said of spare room -/
theorem strip_sound {n : Nat} {v : Value} {g g' : GVal} (h : HSim E O w) (hv : VR E v g) (hg : Gv.frz [] n g = some g') : VR E v g' := by
  have h0 : HSim E [] w := h.nil
  have := frz_sound h0 n v g g' hv hg
  rwa [Env.frz_nil] at this
theorem GCalls.strip {f : FuncId} {args args' : List GVal} {n : Nat} {K : GVal → List GObj → Prop} (h : GCalls P f args' O K) (ha : frzL (Gv.frz [] n) args = some args') : GCalls P f args O K :=
  ⟨h.1, fun E w vs hs hv => h.2 E w vs hs ⟨by rw [hv.1, frzL_len ha], fun i g hg => by
    obtain ⟨x, hx, hxg⟩ := frzL_at ha i g hg
    exact strip_sound hs (hv.2 i x hx) hxg⟩⟩

/-- a call's value, kept as it is, its objects left behind -/
theorem GInto.frz {g g' : GVal} {n : Nat} {N : GVal → List GObj → Prop} (hg : Gv.frz O n g = some g') (h : N g' []) : GInto g O N := fun E v w hs hv => by
  obtain ⟨h1, h2⟩ := hs.frz
  exact ⟨g', [], _, h, h1, h2, frz_sound hs n v g g' hv hg⟩
theorem GCalls.frz {f : FuncId} {args : List GVal} {X : List GObj} {r r' : GVal} {n : Nat} (h : GCalls P f args O (fun g O' => g = r ∧ O' = X)) (hr : Gv.frz X n r = some r') : GCalls P f args O (fun g O' => g = r' ∧ O' = []) :=
  (h.mono fun g O' ⟨e1, e2⟩ => by subst e1; subst e2; exact GInto.frz hr ⟨rfl, rfl⟩).into

end
end Gv
/- Values without stamps; calls that stand apart. -/
set_option linter.unusedVariables false
namespace Gv
open Go

variable {P : Program}

/-! calls that stand apart -/
def Tag.noSt : Tag → Bool
  | .tok _ _ => false
  | _ => true
mutual
def GVal.noSt : GVal → Bool
  | .own _ _ _ _ | .ptr _ _ _ _ | .map _ _ => false
  | .slice xs tag => tag.noSt && noStL2 xs
  | .agg cs | .tuple cs | .ref cs => noStL cs
  | .func _ a b => noStL a && noStL b
  | .iface _ v => v.noSt
  | .cond _ v => v.noSt
  | _ => true
def noStL : List GVal → Bool
  | [] => true
  | g :: r => g.noSt && noStL r
def noStL2 : List (List GVal) → Bool
  | [] => true
  | g :: r => noStL g && noStL2 r
end

theorem noStL_at : ∀ {l : List GVal} {i : Nat} {g : GVal}, noStL l = true → l[i]? = some g → g.noSt = true
  | [], i, g, h, hg => by simp at hg
  | x :: r, 0, g, h, hg => by
    rw [noStL, Bool.and_eq_true] at h; simp at hg; subst hg; exact h.1
  | x :: r, i + 1, g, h, hg => by
    rw [noStL, Bool.and_eq_true] at h; simp at hg; exact noStL_at h.2 hg
theorem noStL_app : ∀ {l m : List GVal}, noStL l = true → noStL m = true → noStL (l ++ m) = true
  | [], m, h, k => k
  | x :: r, m, h, k => by rw [noStL, Bool.and_eq_true] at h; rw [List.cons_append, noStL, h.1, noStL_app h.2 k]; rfl
theorem noStL2_flat : ∀ {l : List (List GVal)}, noStL2 l = true → noStL l.flatten = true
  | [], h => rfl
  | x :: r, h => by rw [noStL2, Bool.and_eq_true] at h; rw [List.flatten_cons]; exact noStL_app h.1 (noStL2_flat h.2)

/-- without stamps, places do not matter -/
theorem VR.places {E E' : Env} (hs : ∀ b o v, E.snap b o = some v → E'.snap b o = some v) {v : Value} {g : GVal} (h : VR E v g) (hn : g.noSt = true) : VR E' v g := by
  induction h with
  | any v => exact .any v
  | bool b => exact .bool b
  | ubool b => exact .ubool b
  | int k n => exact .int k n
  | str s => exact .str s
  | lit v => exact .lit v
  | slice a len cap xs tag sz c hlen hcap hsz ha hc ht ih =>
    rw [GVal.noSt, Bool.and_eq_true] at hn
    refine .slice a len cap xs tag sz c hlen hcap hsz (fun hx => ?_) (fun j g hj => ih j g hj (noStL_at (noStL2_flat hn.2) hj)) ?_
    · obtain ⟨b, off, e, h2⟩ := ha hx
      exact ⟨b, off, e, fun j hj => hs _ _ _ (h2 j hj)⟩
    · cases tag with
      | none => trivial
      | full => exact ht
      | nil => exact ht
      | tok o st => simp [Tag.noSt] at hn
  | own a len cap o st i l hl hcap ha => simp [GVal.noSt] at hn
  | agg vs cs hs' hc ih => exact .agg vs cs hs' (fun j g hj => ih j g hj (noStL_at (by rw [GVal.noSt] at hn; exact hn) hj))
  | tuple vs cs hs' hc ih => exact .tuple vs cs hs' (fun j g hj => ih j g hj (noStL_at (by rw [GVal.noSt] at hn; exact hn) hj))
  | ref b off cs c ha hc ih => exact .ref b off cs c (fun j hj => hs _ _ _ (ha j hj)) (fun j g hj => ih j g hj (noStL_at (by rw [GVal.noSt] at hn; exact hn) hj))
  | ptr b off o st i j l hl hb ho => simp [GVal.noSt] at hn
  | map r o st l hl hb => simp [GVal.noSt] at hn
  | func fn fs cs gs ks hf hk hfs hcs ih1 ih2 =>
    rw [GVal.noSt, Bool.and_eq_true] at hn
    exact .func fn fs cs gs ks hf hk (fun j g hj => ih1 j g hj (noStL_at hn.1 hj)) (fun j g hj => ih2 j g hj (noStL_at hn.2 hj))
  | iface t v g hv ih => exact .iface t v g (ih (by rw [GVal.noSt] at hn; exact hn))
  | cond c v g hv ih => exact .cond c v g (fun e => ih e (by rw [GVal.noSt] at hn; exact hn))

/-- a call without stamps, in and out, leaves the caller's objects as they are -/
theorem GCalls.apart {f : FuncId} {args : List GVal} {r : GVal} {X : List GObj} (h : GCalls P f args [.clock 0] (fun g O' => g = r ∧ O' = X)) (ha : noStL args = true) (hr : r.noSt = true) (O : List GObj) :
    GCalls P f args O (fun g O' => g = r ∧ O' = O) := by
  refine ⟨h.1, fun E w vs hs hv => ?_⟩
  let E0 : Env := ⟨E.snap, fun _ => none⟩
  have hno : ∀ b, ¬ InO E0 [.clock 0] b := fun b ⟨i, x, hx, hb⟩ => by
    cases i with
    | zero => simp at hx; subst hx; cases hb
    | succ i => simp at hx
  have h0 : HSim E0 [.clock 0] w := ⟨⟨0, fun c _ => Nat.zero_le _, fun _ _ => rfl⟩, hs.sealed, hs.one, fun i x hx => by
    cases i with
    | zero => simp at hx; subst hx; trivial
    | succ i => simp at hx, fun i j oi oj b hij hi hj => by
    cases i with
    | zero => simp at hi; subst hi; intro hb; cases hb
    | succ i => simp at hi, hs.glob⟩
  refine (h.2 E0 w vs h0 ⟨hv.1, fun i g hg => (hv.2 i g hg).places (E := E) (E' := E0) (fun _ _ _ e => e) (noStL_at ha hg)⟩).mono ?_
  rintro e w' ⟨v, E', O', g, rfl, h1, h2, h3, rfl, rfl⟩
  have hold : ∀ b, b < w.heap.size → w'.heap[b]? = w.heap[b]? := fun b hb => h2.heap b hb (hno b)
  have hsn : ∀ b o v, E'.snap b o = some v → E.snap b o = some v ∨ w.heap.size ≤ b := fun b o v hv => by
    rcases h2.snap b o v hv with q | q | q
    · exact .inl q
    · exact .inr q
    · exact absurd q (hno b)
  let E1 : Env := ⟨E'.snap, E.loc⟩
  have hle : E.le E1 := ⟨fun b o v hv => h2.ext.snap b o v hv, fun _ _ hl => hl⟩
  have hreal : ∀ (i : Nat) x, O[i]? = some x → Realized E1 w' x := fun i x hx =>
    (hs.real i x hx).keep hle (fun b hb => hold b ((hs.real i x hx).blk_lt hb)) (fun b o v hb hv => (hsn b o v hv).elim id (fun q => by have := (hs.real i x hx).blk_lt hb; omega))
  have hb : ∀ (i : Nat) x, O[i]? = some x → x.blk E1 = x.blk E := fun i x hx => GObj.blk_mono hle (hs.real i x hx)
  refine ⟨v, E1, O, g, rfl, ⟨hs.fin.of_loc rfl rfl, h1.sealed, h1.one, hreal, fun i j oi oj b hij hi hj hbi hbj => ?_, h1.glob⟩,
    ⟨hle, h2.os, h2.out, h2.size, fun b hb _ => hold b hb, fun b o v hv => (hsn b o v hv).elim .inl (fun q => .inr (.inl q)), fun b ⟨i, x, hx, hbx⟩ => .inl ⟨i, x, hx, by rw [← hb i x hx]; exact hbx⟩, h2.frz⟩, h3.places (E := E') (E' := E1) (fun _ _ _ e => e) hr, rfl, rfl⟩
  rw [hb i oi hi] at hbi
  rw [hb j oj hj] at hbj
  exact hs.sep i j oi oj b hij hi hj hbi hbj

theorem GCalls.pure {f : FuncId} {args : List GVal} {r : GVal} {X : List GObj} (h : GCalls P f args [.clock 0] (fun g O' => g = r ∧ O' = X)) (ha : noStL args = true) (hr : r.noSt = true) : GPure P f args r := h.apart ha hr []


/-- a pure call without stamps, whatever the caller's objects, a clock too -/
theorem GPure.apart {f : FuncId} {args : List GVal} {r : GVal} (h : GPure P f args r) (ha : noStL args = true) (hr : r.noSt = true) (O : List GObj) : GCalls P f args O (fun g O' => g = r ∧ O' = O) := by
  refine ⟨h.1, fun E w vs hs hv => ?_⟩
  let E0 : Env := ⟨E.snap, fun _ => none⟩
  have hno : ∀ b, ¬ InO E0 [] b := fun b ⟨i, x, hx, hb⟩ => by simp at hx
  have h0 : HSim E0 [] w := ⟨⟨0, fun c _ => Nat.zero_le _, fun _ _ => rfl⟩, hs.sealed, hs.one, fun i x hx => by simp at hx, fun i j oi oj b hij hi hj => by simp at hi, hs.glob⟩
  refine (h.2 E0 w vs h0 ⟨hv.1, fun i g hg => (hv.2 i g hg).places (E := E) (E' := E0) (fun _ _ _ e => e) (noStL_at ha hg)⟩).mono ?_
  rintro e w' ⟨v, E', O', g, rfl, h1, h2, h3, rfl, rfl⟩
  have hold : ∀ b, b < w.heap.size → w'.heap[b]? = w.heap[b]? := fun b hb => h2.heap b hb (hno b)
  have hsn : ∀ b o v, E'.snap b o = some v → E.snap b o = some v ∨ w.heap.size ≤ b := fun b o v hv => by
    rcases h2.snap b o v hv with q | q | q
    · exact .inl q
    · exact .inr q
    · exact absurd q (hno b)
  let E1 : Env := ⟨E'.snap, E.loc⟩
  have hle : E.le E1 := ⟨fun b o v hv => h2.ext.snap b o v hv, fun _ _ hl => hl⟩
  have hreal : ∀ (i : Nat) x, O[i]? = some x → Realized E1 w' x := fun i x hx =>
    (hs.real i x hx).keep hle (fun b hb => hold b ((hs.real i x hx).blk_lt hb)) (fun b o v hb hv => (hsn b o v hv).elim id (fun q => by have := (hs.real i x hx).blk_lt hb; omega))
  have hb : ∀ (i : Nat) x, O[i]? = some x → x.blk E1 = x.blk E := fun i x hx => GObj.blk_mono hle (hs.real i x hx)
  refine ⟨v, E1, O, g, rfl, ⟨hs.fin.of_loc rfl rfl, h1.sealed, h1.one, hreal, fun i j oi oj b hij hi hj hbi hbj => ?_, h1.glob⟩,
    ⟨hle, h2.os, h2.out, h2.size, fun b hb _ => hold b hb, fun b o v hv => (hsn b o v hv).elim .inl (fun q => .inr (.inl q)), fun b ⟨i, x, hx, hbx⟩ => .inl ⟨i, x, hx, by rw [← hb i x hx]; exact hbx⟩, h2.frz⟩, h3.places (E := E') (E' := E1) (fun _ _ _ e => e) hr, rfl, rfl⟩
  rw [hb i oi hi] at hbi
  rw [hb j oj hj] at hbj
  exact hs.sep i j oi oj b hij hi hj hbi hbj

end Gv
/- Running code over ghost values by calculation alone: what a closed call comes to. -/
set_option linter.unusedVariables false
namespace Gv
open Go

/-! what is reckoned is written out at once -/
noncomputable def forceL {α β : Type} (l : List α) : (List α → β) → β := List.rec (motive := fun _ => (List α → β) → β) (fun k => k []) (fun x _ ih k => ih fun r => k (x :: r)) l
theorem forceL_eq {α β : Type} (l : List α) (k : List α → β) : forceL l k = k l := by
  induction l generalizing k with
  | nil => rfl
  | cons x r ih => exact ih fun r => k (x :: r)
noncomputable def forceN {β : Type} (n : Nat) (k : Nat → β) : β := Nat.rec (motive := fun _ => β) (k 0) (fun m _ => k (m + 1)) n
theorem forceN_eq {β : Type} (n : Nat) (k : Nat → β) : forceN n k = k n := by cases n <;> rfl
noncomputable def forceI {β : Type} (n : Int) (k : Int → β) : β := Int.rec (motive := fun _ => β) (fun m => forceN m fun m => k (Int.ofNat m)) (fun m => forceN m fun m => k (Int.negSucc m)) n
theorem forceI_eq {β : Type} (n : Int) (k : Int → β) : forceI n k = k n := by
  cases n with
  | ofNat m => exact forceN_eq m fun m => k (Int.ofNat m)
  | negSucc m => exact forceN_eq m fun m => k (Int.negSucc m)
noncomputable def forceG {β : Type} (g : GVal) (k : GVal → β) : β :=
  match g with
  | .int q n => forceI n fun n => k (.int q n)
  | .bool true => k (.bool true)
  | .bool false => k (.bool false)
  | .slice xs t => forceL xs fun xs => k (.slice xs t)
  | .own o st i len => forceN i fun i => forceN len fun len => k (.own o st i len)
  | .ptr o st i j => forceN i fun i => forceN j fun j => k (.ptr o st i j)
  | .agg cs => forceL cs fun cs => k (.agg cs)
  | .tuple cs => forceL cs fun cs => k (.tuple cs)
  | .ref cs => forceL cs fun cs => k (.ref cs)
  | .str s => forceL s fun s => k (.str s)
  | .any => k .any
  | .lit v => k (.lit v)
  | .map o st => k (.map o st)
  | .func f a b => forceL a fun a => forceL b fun b => k (.func f a b)
  | .iface t v => k (.iface t v)
  | g => k g
theorem forceG_eq {β : Type} (g : GVal) (k : GVal → β) : forceG g k = k g := by
  unfold forceG
  split <;> simp only [forceI_eq, forceL_eq, forceN_eq]

structure FnX where
  body : Code
  n : Nat
  rs : List ResultVar
  ro : List Nat
  ord : List (Nat × List (Nat × Nat))

/-- what the calculation looks up -/
structure Tabs where
  tab : Nat → Option (Nat × Bool)
  fld : Nat → Nat → Option (Nat × Nat × Bool)
  els : Nat → Option (Nat × Bool)
  arr : Nat → Option (Nat × Nat × Bool)
  zer : Nat → Option (List GVal)
  plc : Nat → Option (List (Nat × Nat) ⊕ Nat)
  elt : Nat → Option (Nat × Nat × List GVal)
  keyT : Nat → Option (KT × TypeId)
  zeroG : Nat → Option GVal
  aggT : Nat → Option (List Sk)
  isBool : Nat → Bool
  isStr : Nat → Bool
  isIface : Nat → Bool
  isFunc : Nat → Bool
  isPtr : Nat → Bool
  isSlice : Nat → Bool
  isMap : Nat → Bool
  intK : Nat → Option IntKind
  plain : Nat → Bool
  yes : Nat → Bool
  fn : Nat → Option FnX

structure Tabs.Ok (T : Tabs) (P : Program) : Prop where
  tab : ∀ t x, T.tab t = some x → Gv.tab P t = some x
  fld : ∀ t f x, T.fld t f = some x → Gv.fld P t f = some x
  els : ∀ t x, T.els t = some x → Gv.els P t = some x
  arr : ∀ t x, T.arr t = some x → Gv.arr P t = some x
  zer : ∀ t x, T.zer t = some x → Gv.zer P t = some x
  plc : ∀ t x, T.plc t = some x → Gv.plc P t = some x
  elt : ∀ t x, T.elt t = some x → Gv.elt P t = some x
  keyT : ∀ t x, T.keyT t = some x → Gv.keyT P t = some x
  zeroG : ∀ t x, T.zeroG t = some x → Gv.zeroG P t = some x
  aggT : ∀ t x, T.aggT t = some x → Gv.aggT P t = some x
  isBool : ∀ t, T.isBool t = true → P.underlying t = some .bool
  isStr : ∀ t, T.isStr t = true → P.underlying t = some .string
  isIface : ∀ t, T.isIface t = true → (match P.underlying t with | some (.interface _) => true | _ => false) = true
  isFunc : ∀ t, T.isFunc t = true → (match P.underlying t with | some (.func _ _ _) => true | _ => false) = true
  isPtr : ∀ t, T.isPtr t = true → (match P.underlying t with | some (.pointer _) => true | _ => false) = true
  isSlice : ∀ t, T.isSlice t = true → (match P.underlying t with | some (.slice _) => true | _ => false) = true
  isMap : ∀ t, T.isMap t = true → (match P.underlying t with | some (.map _ _) => true | _ => false) = true
  intK : ∀ t k, T.intK t = some k → P.underlying t = some (.int k)
  plain : ∀ t, T.plain t = true → (match P.underlying t with | some (.interface _) => false | some _ => true | none => false) = true
  yes : ∀ f, T.yes f = true → GPure P f [] (.bool true)
  fn : ∀ f x, T.fn f = some x → (∃ fn, P.funcs[f]? = some fn ∧ fn.body = some x.body ∧ fn.ntmps = x.n ∧ fn.results.toList = x.rs) ∧ enterable P f = true ∧ codeOk ⟨x.ro, x.ord⟩ x.body = true

variable {P : Program} {T : Tabs}

def loadX (T : Tabs) (t : TypeId) (g : GVal) (O : List GObj) : Option GVal :=
  match T.tab t with
  | some (n, ag) => if ag = true ∨ n = 1 then (match g with
    | .ref cs => if n ≤ cs.length then some (grp ag (cs.take n)) else none
    | .ptr o st i j => match O[o]? with
      | some (.row st' _ xs) => if st = st' ∧ i < xs.length ∧ j + n ≤ (xs.getD i []).length then some (grp ag (((xs.getD i []).drop j).take n)) else none
      | _ => none
    | _ => none) else none
  | none => none
theorem loadX_ok (hT : T.Ok P) {t g O v} {K : GVal → Prop} (h : loadX T t g O = some v) (hk : K v) : loadV P t g O K := by
  unfold loadX at h; unfold loadV
  split at h
  · rename_i n ag ht
    rw [hT.tab _ _ ht]
    grind
  · cases h

noncomputable def storeX (T : Tabs) (t : TypeId) (g v : GVal) (O : List GObj) : Option (List GObj) :=
  match T.tab t with
  | some (n, _) => if (v.cells.all GVal.solid) = true ∧ v.cells.length = n then (match g with
    | .ptr o st i j => match O[o]? with
      | some (.row st' sz xs) => if st = st' ∧ i < xs.length ∧ j + n ≤ (xs.getD i []).length then forceL (splice (xs.getD i []) j v.cells) (fun r => forceL (xs.set i r) fun ys => forceL (O.set o (.row st sz ys)) fun O' => some O') else none
      | _ => none
    | _ => none) else none
  | none => none
theorem storeX_ok (hT : T.Ok P) {t g v O O'} {K : List GObj → Prop} (h : storeX T t g v O = some O') (hk : K O') : storeV P t g v O K := by
  unfold storeX at h; simp only [forceL_eq] at h; unfold storeV GVal.okCells
  split at h
  · rename_i n ag ht
    rw [hT.tab _ _ ht]
    simp only [List.all_eq_true] at h
    grind
  · cases h

def fieldAddrX (T : Tabs) (s : TypeId) (g : GVal) (f : Nat) : Option GVal :=
  match T.fld s f with
  | some (off, _, _) => match g with
    | .ref cs => if off ≤ cs.length then some (.ref (cs.drop off)) else none
    | .ptr o st i j => some (.ptr o st i (j + off))
    | _ => none
  | none => none
theorem fieldAddrX_ok (hT : T.Ok P) {s g f v} {K : GVal → Prop} (h : fieldAddrX T s g f = some v) (hk : K v) : fieldAddrV P s g f K := by
  unfold fieldAddrX at h; unfold fieldAddrV
  split at h
  · rename_i ht; rw [hT.fld _ _ _ ht]; grind
  · cases h

def fieldX (T : Tabs) (s : TypeId) (g : GVal) (f : Nat) : Option GVal :=
  match T.fld s f with
  | some (off, n, ag) => match g with
    | .agg cs => if (ag = true ∨ n = 1) ∧ off + n ≤ cs.length then some (grp ag ((cs.drop off).take n)) else none
    | _ => none
  | none => none
theorem fieldX_ok (hT : T.Ok P) {s g f v} {K : GVal → Prop} (h : fieldX T s g f = some v) (hk : K v) : fieldV P s g f K := by
  unfold fieldX at h; unfold fieldV
  split at h
  · rename_i ht; rw [hT.fld _ _ _ ht]; grind
  · cases h

def indexAddrX (T : Tabs) (t : TypeId) (g i : GVal) (O : List GObj) : Option GVal :=
  match i with
  | .int _ n => match g with
    | .slice xs _ => match T.els t with
      | some (sz, _) => if 0 ≤ n ∧ n < xs.length ∧ (xs.getD n.toNat []).length = sz then some (.ref (xs.getD n.toNat [])) else none
      | none => none
    | .own o st off len => match T.els t with
      | some (sz, _) => match O[o]? with
        | some (.row st' sz' xs) => if st = st' ∧ sz = sz' ∧ 0 ≤ n ∧ n < len ∧ off + n.toNat < xs.length then some (.ptr o st (off + n.toNat) 0) else none
        | _ => none
      | none => none
    | .ref cs => match T.arr t with
      | some (len, sz, _) => if 0 ≤ n ∧ n < len ∧ n.toNat * sz ≤ cs.length then some (.ref (cs.drop (n.toNat * sz))) else none
      | none => none
    | .ptr o st i j => match T.arr t with
      | some (len, sz, _) => if 0 ≤ n ∧ n < len then some (.ptr o st i (j + n.toNat * sz)) else none
      | none => none
    | _ => none
  | _ => none
theorem indexAddrX_ok (hT : T.Ok P) {t g i O v} {K : GVal → Prop} (h : indexAddrX T t g i O = some v) (hk : K v) : indexAddrV P t g i O K := by
  unfold indexAddrX at h; unfold indexAddrV
  have h1 := hT.els t
  have h2 := hT.arr t
  grind

def indexX (T : Tabs) (t : TypeId) (g i : GVal) : Option GVal :=
  match i with
  | .int _ n => match g with
    | .agg cs => match T.arr t with
      | some (len, sz, ag) => if (ag = true ∨ sz = 1) ∧ 0 ≤ n ∧ n < len ∧ n.toNat * sz + sz ≤ cs.length then some (grp ag ((cs.drop (n.toNat * sz)).take sz)) else none
      | none => none
    | .str s => if T.isStr t = true ∧ 0 ≤ n ∧ n < s.length then some (.int .u8 (s.getD n.toNat 0).toNat) else none
    | _ => none
  | _ => none
theorem indexX_ok (hT : T.Ok P) {t g i v} {K : GVal → Prop} (h : indexX T t g i = some v) (hk : K v) : indexV P t g i K := by
  unfold indexX at h; unfold indexV
  have h1 := hT.isStr t
  have h2 := hT.arr t
  grind

def extractX (g : GVal) (i : Nat) : Option GVal :=
  match g with
  | .tuple vs => vs[i]?
  | _ => none
theorem extractX_ok {g i v} {K : GVal → Prop} (h : extractX g i = some v) (hk : K v) : extractV g i K := by
  unfold extractX at h; unfold extractV; grind

noncomputable def allocX (T : Tabs) (t : TypeId) (O : List GObj) : Option (GVal × List GObj) :=
  match T.zer t, clockOf O with
  | some cs, some n => if cs.all GVal.solid = true then forceL (tickO O ++ [.row n cs.length [cs]]) (fun O' => some (.ptr O.length n 0 0, O')) else none
  | _, _ => none
theorem allocX_ok (hT : T.Ok P) {t O g O'} {K : GVal → List GObj → Prop} (h : allocX T t O = some (g, O')) (hk : K g O') : allocV P t O K := by
  unfold allocX at h; simp only [forceL_eq] at h; unfold allocV stamp
  split at h
  · rename_i cs n h1 h2
    rw [hT.zer _ _ h1, h2]
    simp only [List.all_eq_true] at h
    grind
  · cases h

noncomputable def boxX (ro : Bool) (g : GVal) (O : List GObj) : Option (GVal × List GObj) :=
  if g.cells.all GVal.solid = true then (match ro with
    | true => some (.ref g.cells, O)
    | false => match clockOf O with
      | some n => forceL (tickO O ++ [.row n g.cells.length [g.cells]]) fun O' => some (.ptr O.length n 0 0, O')
      | none => none) else none
theorem boxX_ok {ro g O v O'} {K : GVal → List GObj → Prop} (h : boxX ro g O = some (v, O')) (hk : K v O') : boxV ro g O K := by
  unfold boxX at h; simp only [forceL_eq] at h; unfold boxV stamp GVal.okCells
  simp only [List.all_eq_true] at h
  split at h
  · refine ⟨by assumption, ?_⟩
    cases ro with
    | true => simp at h; obtain ⟨rfl, rfl⟩ := h; exact hk
    | false =>
      simp only at h ⊢
      split at h
      · rename_i n hc; rw [hc]; simp at h; obtain ⟨rfl, rfl⟩ := h; exact hk
      · cases h
  · cases h

def buildX (T : Tabs) (t : TypeId) (gs : List (Nat × GVal)) : Option GVal :=
  match T.zer t, T.plc t with
  | some cs, some pl => if cs.all GVal.solid = true ∧ gs.all (fun p => p.2.cells.all GVal.solid) = true then (match fillG (place pl) cs gs with
    | some out => some (.agg out)
    | none => none) else none
  | _, _ => none
theorem buildX_ok (hT : T.Ok P) {t gs v} {K : GVal → Prop} (h : buildX T t gs = some v) (hk : K v) : buildV P t gs K := by
  unfold buildX at h; unfold buildV GVal.okCells
  split at h
  · rename_i cs n h1 h2
    rw [hT.zer _ _ h1, hT.plc _ _ h2]
    simp only [List.all_eq_true] at h
    grind
  · cases h

def buildSliceX (T : Tabs) (t : TypeId) (len : Nat) (gs : List (Nat × GVal)) : Option GVal :=
  match T.elt t with
  | some (sz, _, cs) => if len * sz ≤ 16777216 ∧ cs.all GVal.solid = true ∧ gs.all (fun p => p.2.cells.all GVal.solid) = true then (match fillE sz (List.replicate len cs) gs with
    | some out => some (.slice out .full)
    | none => none) else none
  | none => none
theorem buildSliceX_ok (hT : T.Ok P) {t len gs v} {K : GVal → Prop} (h : buildSliceX T t len gs = some v) (hk : K v) : buildSliceV P t len gs K := by
  unfold buildSliceX at h; unfold buildSliceV GVal.okCells
  split at h
  · rename_i sz b cs h1
    rw [hT.elt _ _ h1]
    simp only [List.all_eq_true] at h
    grind
  · cases h

def sliceX (T : Tabs) (t : TypeId) (g : GVal) (lo hi mx : Option GVal) (O : List GObj) : Option GVal :=
  match g with
  | .slice xs tag => match T.els t, bound 0 lo, bound xs.length hi with
    | some (sz, _), some l, some h => match mx with
      | none => if 0 ≤ l ∧ l ≤ h ∧ h ≤ xs.length ∧ xs.all (fun x => x.length == sz) = true then (match cutTag O sz tag hi with
        | some tag' => some (.slice ((xs.take h.toNat).drop l.toNat) tag')
        | none => none) else none
      | some (.int _ m) => if l = 0 ∧ h = 0 ∧ m = 0 ∧ hi.isSome = true then some (.slice [] .full) else none
      | _ => none
    | _, _, _ => none
  | .own o st off len => match T.els t, bound 0 lo, bound len hi, mx with
    | some (sz, _), some l, some h, none => match O[o]? with
      | some (.row st' sz' xs) => if st = st' ∧ sz = sz' ∧ 0 ≤ l ∧ l ≤ h ∧ h ≤ len then some (.own o st (off + l.toNat) (h.toNat - l.toNat)) else none
      | _ => none
    | _, _, _, _ => none
  | .str s => match bound 0 lo, bound s.length hi, mx with
    | some l, some h, none => if T.isStr t = true ∧ 0 ≤ l ∧ l ≤ h ∧ h ≤ s.length then some (.str ((s.take h.toNat).drop l.toNat)) else none
    | _, _, _ => none
  | .ref cs => match T.arr t, bound 0 lo, mx with
    | some (len, 1, _), some l, none => match bound len hi with
      | some h => if 0 ≤ l ∧ l ≤ h ∧ h ≤ len ∧ len ≤ cs.length then some (.slice ((((cs.take len).map fun c => [c]).take h.toNat).drop l.toNat) (hiTag hi)) else none
      | none => none
    | _, _, _ => none
  | _ => none
theorem sliceX_ok (hT : T.Ok P) {t g lo hi mx O v} {K : GVal → Prop} (h : sliceX T t g lo hi mx O = some v) (hk : K v) : sliceV P t g lo hi mx O K := by
  unfold sliceX at h; unfold sliceV
  have h1 := hT.els t
  have h2 := hT.arr t
  have h3 := hT.isStr t
  simp only [List.all_eq_true, beq_iff_eq] at h
  split at h
  · split at h
    · rename_i e1 e2 e3
      simp only [h1 _ e1, e2, e3]
      grind
    · cases h
  · split at h
    · rename_i e1 e2 e3
      simp only [h1 _ e1, e2, e3]
      grind
    · cases h
  · split at h
    · rename_i e1 e2
      simp only [e1, e2]
      grind
    · cases h
  · split at h
    · rename_i e1 e2
      simp only [h2 _ e1, e2]
      grind
    · cases h
  · cases h

def nilX (g : GVal) : Option GVal :=
  match g with
  | .ptr _ _ _ _ => some g
  | .ref _ => some g
  | .func (.func _) _ _ => some g
  | .iface _ _ => some g
  | _ => none
theorem nilX_ok {g v} {K : GVal → Prop} (h : nilX g = some v) (hk : K v) : nilV g K := by
  unfold nilX at h; unfold nilV; grind

def binX (T : Tabs) (op : BinOp) (t : TypeId) (x y : GVal) : Option GVal :=
  match x, y with
  | .int k a, .int k' b => match op with
    | .add => if k = k' then some (.int k (norm k (a + b))) else none
    | .sub => if k = k' then some (.int k (norm k (a - b))) else none
    | .mul => if k = k' then some (.int k (norm k (a * b))) else none
    | .quo => if k = k' ∧ b ≠ 0 then some (.int k (norm k (a.tdiv b))) else none
    | .rem => if k = k' ∧ b ≠ 0 then some (.int k (a.tmod b)) else none
    | .eql => if k = k' then some (.bool (a == b)) else none
    | .neq => if k = k' then some (.bool (a != b)) else none
    | .lss => if k = k' then some (.bool (decide (a < b))) else none
    | .leq => if k = k' then some (.bool (decide (a ≤ b))) else none
    | .gtr => if k = k' then some (.bool (decide (b < a))) else none
    | .geq => if k = k' then some (.bool (decide (b ≤ a))) else none
    | .and => if k = k' then some (.int k (bits .and k a b)) else none
    | .or => if k = k' then some (.int k (bits .or k a b)) else none
    | .xor => if k = k' then some (.int k (bits .xor k a b)) else none
    | .shl => if 0 ≤ b ∧ b ≤ k.bits then some (.int k (norm k (a * 2 ^ b.toNat))) else none
    | .shr => if 0 ≤ b ∧ b ≤ k.bits then some (.int k (a / 2 ^ b.toNat)) else none
    | _ => none
  | .bool a, .bool b => match op with
    | .eql => if T.isBool t = true then some (.bool (a == b)) else none
    | .neq => if T.isBool t = true then some (.bool (a != b)) else none
    | _ => none
  | .str a, .str b => match op with
    | .eql => some (.bool (a == b))
    | .neq => some (.bool (a != b))
    | .lss => some (.bool (Op.bytesLess a b))
    | .add => if a.length + b.length ≤ 4611686018427387904 then some (.str (a ++ b)) else none
    | _ => none
  | .slice xs tag, .slice [] .nil => match op with
    | .eql => if T.isSlice t = true then (match tag with
      | .nil => some (.bool true)
      | _ => if xs.isEmpty = true then none else some (.bool false)) else none
    | .neq => if T.isSlice t = true then (match tag with
      | .nil => some (.bool false)
      | _ => if xs.isEmpty = true then none else some (.bool true)) else none
    | _ => none
  | .own _ _ _ len, .slice [] .nil => match op with
    | .eql => if T.isSlice t = true ∧ len ≠ 0 then some (.bool false) else none
    | .neq => if T.isSlice t = true ∧ len ≠ 0 then some (.bool true) else none
    | _ => none
  | .agg xs, .agg ys => match T.aggT t with
    | some ss => match cellsEq ss xs ys with
      | some r => match op with
        | .eql => some (.bool r)
        | .neq => some (.bool !r)
        | _ => none
      | none => none
    | none => none
  | .iface _ _, .lit .nilIface => match op with
    | .eql => if T.isIface t = true then some (.bool false) else none
    | .neq => if T.isIface t = true then some (.bool true) else none
    | _ => none
  | .lit .nilFunc, .lit .nilFunc => match op with
    | .eql => if T.isFunc t = true then some (.bool true) else none
    | .neq => if T.isFunc t = true then some (.bool false) else none
    | _ => none
  | .func _ _ _, .lit .nilFunc => match op with
    | .eql => if T.isFunc t = true then some (.bool false) else none
    | .neq => if T.isFunc t = true then some (.bool true) else none
    | _ => none
  | .ptr _ _ _ _, .lit (.pointer none) => match op with
    | .eql => if T.isPtr t = true then some (.bool false) else none
    | .neq => if T.isPtr t = true then some (.bool true) else none
    | _ => none
  | .lit (.pointer none), .lit (.pointer none) => match op with
    | .eql => if T.isPtr t = true then some (.bool true) else none
    | .neq => if T.isPtr t = true then some (.bool false) else none
    | _ => none
  | _, _ => none
theorem binX_ok (hT : T.Ok P) {op t x y v} {K : GVal → Prop} (h : binX T op t x y = some v) (hk : K v) : binV P op t x y K := by
  unfold binX at h; unfold binV
  have h1 := hT.isBool t
  have h2 := hT.isIface t
  have h3 := hT.isFunc t
  have h4 := hT.isPtr t
  have h5 := hT.isSlice t
  split at h
  · cases op <;> grind
  · cases op <;> grind
  · cases op <;> grind
  · cases op <;> first | (cases h; done) | (simp only at h; split at h <;> first | (cases h; done) | (rename_i e; refine ⟨h5 e, ?_⟩; grind))
  · cases op <;> first | (cases h; done) | (simp only at h; split at h <;> first | (cases h; done) | (rename_i e; refine ⟨h5 e.1, ?_⟩; grind))
  · split at h
    · rename_i ss e1
      have e2 := hT.aggT _ _ e1
      split at h
      · rename_i r e3
        cases op <;> first | (cases h; done) | (simp only at h; cases h; simp only [aggV, e2, e3]; exact hk)
      · cases h
    · cases h
  · cases op <;> first | (cases h; done) | (simp only at h; split at h <;> first | (cases h; done) | (rename_i e; cases h; exact ⟨h2 e, hk⟩))
  · cases op <;> first | (cases h; done) | (simp only at h; split at h <;> first | (cases h; done) | (rename_i e; cases h; exact ⟨h3 e, hk⟩))
  · cases op <;> first | (cases h; done) | (simp only at h; split at h <;> first | (cases h; done) | (rename_i e; cases h; exact ⟨h3 e, hk⟩))
  · cases op <;> first | (cases h; done) | (simp only at h; split at h <;> first | (cases h; done) | (rename_i e; cases h; exact ⟨h4 e, hk⟩))
  · cases op <;> first | (cases h; done) | (simp only at h; split at h <;> first | (cases h; done) | (rename_i e; cases h; exact ⟨h4 e, hk⟩))
  · cases h

theorem binNX_ok (hT : T.Ok P) {op t oy x y v} {K : GVal → Prop} (hy : oy = .const .nilIface → y = .lit .nilIface) (h : binX T op t x y = some v) (hk : K v) : binN P op t oy x y K := by
  unfold binN
  cases hb : bothNil oy x with
  | true =>
    obtain ⟨rfl, rfl⟩ := bothNil_spec hb
    rw [hy rfl] at h
    unfold binX at h
    cases h
  | false => exact binX_ok hT h hk
def unX (op : UnOp) (x : GVal) : Option GVal :=
  match op, x with
  | .not, .bool b => some (.bool (!b))
  | .neg, .int k n => some (.int k (norm k (0 - n)))
  | _, _ => none
theorem unX_ok {op x v} {K : GVal → Prop} (h : unX op x = some v) (hk : K v) : unV op x K := by
  unfold unX at h; unfold unV; grind

def convX (T : Tabs) (src dst : TypeId) (x : GVal) : Option GVal :=
  match x with
  | .int _ n => match T.intK src, T.intK dst with
    | some _, some k => some (.int k (norm k n))
    | _, _ => none
  | .str s => if T.isStr src = true ∧ T.isStr dst = true then some (.str s) else none
  | _ => none
theorem convX_ok (hT : T.Ok P) {s d x v} {K : GVal → Prop} (h : convX T s d x = some v) (hk : K v) : convV P s d x K := by
  unfold convX at h; unfold convV
  have h1 := hT.isStr s
  have h2 := hT.isStr d
  have h3 := hT.intK s
  have h4 := hT.intK d
  split at h
  · split at h
    · rename_i e1 e2; rw [h3 _ e1, h4 _ e2]; grind
    · cases h
  · grind
  · cases h

def lenX (T : Tabs) (t : TypeId) (x : GVal) (O : List GObj) : Option GVal :=
  match x with
  | .slice xs _ => if T.isSlice t = true then some (.int .i64 xs.length) else none
  | .own _ _ _ len => if T.isSlice t = true then some (.int .i64 len) else none
  | .str s => if T.isStr t = true then some (.int .i64 s.length) else none
  | .map o st => if T.isMap t = true then (match O[o]? with
    | some (.map st' kv) => if st = st' then some (.int .i64 kv.length) else none
    | _ => none) else none
  | _ => none
theorem lenX_ok (hT : T.Ok P) {t x O v} {K : GVal → Prop} (h : lenX T t x O = some v) (hk : K v) : lenV P t x O K := by
  unfold lenX at h; unfold lenV
  have h1 := hT.isSlice t
  have h2 := hT.isStr t
  have h3 := hT.isMap t
  grind

def capX (T : Tabs) (t : TypeId) (x : GVal) : Option GVal :=
  if T.isSlice t = true then (match x with
    | .slice _ .nil => some (.int .i64 0)
    | .slice xs .full => some (.int .i64 xs.length)
    | _ => none) else none
theorem capX_ok (hT : T.Ok P) {t x v} {K : GVal → Prop} (h : capX T t x = some v) (hk : K v) : capV P t x K := by
  unfold capX at h; unfold capV
  have h1 := hT.isSlice t
  split at h
  · rename_i e
    refine ⟨h1 e, ?_⟩
    split at h
    · cases h; exact hk
    · cases h; exact hk
    · cases h
  · cases h
def minX (mx : Bool) (x y : GVal) : Option GVal :=
  match x, y with
  | .int k a, .int k' b => if k = k' then some (.int k (match mx with | true => max a b | false => min a b)) else none
  | _, _ => none
theorem minX_ok {mx x y v} {K : GVal → Prop} (h : minX mx x y = some v) (hk : K v) : minV mx [x, y] K := by
  unfold minX at h; unfold minV; grind

def srcX (x : GVal) (O : List GObj) : Option (List (List GVal)) :=
  match x with
  | .slice ys _ => some ys
  | .own o st off len => match O[o]? with
    | some (.row st' _ xs) => if st = st' ∧ off + len ≤ xs.length then some ((xs.drop off).take len) else none
    | _ => none
  | .str b => some (b.map fun c => [GVal.int .u8 c.toNat])
  | _ => none
theorem srcX_ok {x O ys} {K : List (List GVal) → Prop} (h : srcX x O = some ys) (hk : K ys) : srcV x O K := by
  unfold srcX at h; unfold srcV; grind

def asrcX (T : Tabs) (xT : TypeId) (by_ : Nat) (cs : List GVal) (x : GVal) (O : List GObj) : Option (List (List GVal)) :=
  if T.isSlice xT = true ∨ T.isStr xT = true then srcX x O else
  match T.intK xT, x with
  | some _, .int .i64 n => if cs.all GVal.solid = true ∧ 0 ≤ n ∧ n ≤ 4611686018427387904 ∧ n * by_ ≤ 281474976710656 then some (List.replicate n.toNat cs) else none
  | _, _ => none
theorem asrcX_ok (hT : T.Ok P) {xT by_ cs x O ys} {K : List (List GVal) → Prop} (h : asrcX T xT by_ cs x O = some ys) (hk : K ys) : asrcV P xT by_ cs x O K := by
  unfold asrcX at h; unfold asrcV
  split at h
  · rename_i h4
    have : notInt P xT = true := by
      unfold notInt
      rcases h4 with h5 | h5
      · have := hT.isSlice _ h5
        split at this <;> simp_all
      · rw [hT.isStr _ h5]
    rw [this]
    exact srcX_ok h hk
  · split at h
    · rename_i k n e1
      have hu := hT.intK _ _ e1
      have : notInt P xT = false := by unfold notInt; rw [hu]
      rw [this]
      split at h
      · rename_i hc
        cases h
        simp only [List.all_eq_true] at hc
        exact ⟨by rw [hu], hc.1, hc.2.1, hc.2.2.1, hc.2.2.2, hk⟩
      · cases h
    · cases h

noncomputable def appendX (T : Tabs) (ow : Bool) (sT xT : TypeId) (s x : GVal) (O : List GObj) : Option (GVal × List GObj) :=
  match T.elt sT with
  | none => none
  | some (sz, by_, zs) => match clockOf O, asrcX T xT by_ zs x O with
  | some n, some ys => if ys.all (fun y => y.length == sz) = true then (match s with
    | .slice xs tag => if xs.all (fun y => y.length == sz) = true ∧ (xs.length + ys.length) * by_ ≤ 140737488355328 ∧ xs.length + ys.length ≤ 4611686018427387904 then (match tag.cap with
      | .full => (match ow with
        | false => forceL (tickO O ++ [.tok n sz]) fun O' => some (.slice (xs ++ ys) (.tok O.length n), O')
        | true => if ys.isEmpty = false ∨ xs.isEmpty = true then forceL (xs ++ ys) (fun zs => forceL (tickO O ++ [.row n sz zs]) fun O' => some (.own O.length n 0 (xs.length + ys.length), O')) else none)
      | .tok o st => match O[o]? with
        | some (.tok st' sz') => if st = st' ∧ sz = sz' then forceL ((tickO O).set o (.tok n sz)) (fun O' => some (.slice (xs ++ ys) (.tok o n), O')) else none
        | _ => none
      | _ => none) else none
    | .own o st off len => match O[o]? with
      | some (.row st' sz' xs) => if st = st' ∧ sz = sz' ∧ off + len ≤ xs.length ∧ (len + ys.length) * by_ ≤ 140737488355328 ∧ len + ys.length ≤ 4611686018427387904 then
          forceL ((xs.drop off).take len ++ ys) (fun zs => forceL ((tickO O).set o (.row n sz zs)) fun O' => some (.own o n 0 (len + ys.length), O')) else none
      | _ => none
    | _ => none) else none
  | _, _ => none
theorem appendX_ok (hT : T.Ok P) {ow sT xT s x O v O'} {K : GVal → List GObj → Prop} (h : appendX T ow sT xT s x O = some (v, O')) (hk : K v O') : appendV P ow sT xT s x O K := by
  unfold appendX at h; simp only [forceL_eq] at h; unfold appendV
  split at h
  · cases h
  · rename_i sz b cs h1
    rw [hT.elt _ _ h1]
    split at h
    · rename_i n ys h2 h3
      split at h
      · rename_i h4
        refine asrcX_ok hT h3 ?_
        have h5 := h4
        simp only [List.all_eq_true, beq_iff_eq] at h5 h
        refine ⟨h5, ?_⟩
        unfold stamp
        rw [h2]
        cases ow <;> grind
      · cases h
    · cases h

def ifaceX (T : Tabs) (t : TypeId) (x : GVal) : Option GVal := if T.plain t = true then some (.iface t x) else none
theorem ifaceX_ok (hT : T.Ok P) {t x v} {K : GVal → Prop} (h : ifaceX T t x = some v) (hk : K v) : ifaceV P t x K := by
  unfold ifaceX at h; unfold ifaceV
  split at h
  · rename_i e; cases h; exact ⟨hT.plain _ e, hk⟩
  · cases h

def keyOkX (k : KT) (g : GVal) : Bool := match keyCells k g with
  | some cs => cs.length == k.ss.length
  | none => false
theorem keyOkX_ok {k : KT} {g : GVal} (h : keyOkX k g = true) : keyOk k g := by
  unfold keyOkX at h; unfold keyOk
  split at h
  · rename_i cs e; simp only [e]; simpa using h
  · cases h
def lookupX (T : Tabs) (t : TypeId) (m x : GVal) (ok : Bool) (O : List GObj) : Option GVal :=
  match T.keyT t with
  | some (k, e) => match T.zeroG e with
    | some z => if keyOkX k x = true then (match m with
      | .map o st => match O[o]? with
        | some (.map st' kv) => if st = st' then (match kfind k x kv with
          | some (some i) => match kv[i]? with
            | some p => some (pairG ok true p.2)
            | none => none
          | some none => some (pairG ok false z)
          | none => none) else none
        | _ => none
      | .lit (.map none) => some (pairG ok false z)
      | _ => none) else none
    | none => none
  | none => none
theorem lookupX_ok (hT : T.Ok P) {t m x ok O v} {K : GVal → Prop} (h : lookupX T t m x ok O = some v) (hk : K v) : lookupV P t m x ok O K := by
  unfold lookupX at h; unfold lookupV
  split at h
  · rename_i k e e1
    rw [hT.keyT _ _ e1]
    split at h
    · rename_i z e2
      simp only [hT.zeroG _ _ e2]
      split at h
      · rename_i e3
        refine ⟨keyOkX_ok e3, ?_⟩
        split at h
        · split at h
          · rename_i hO
            simp only [hO]
            split at h
            · rename_i e4
              refine ⟨e4, ?_⟩
              split at h
              · rename_i e5
                split at h
                · rename_i e6; cases h; simp only [e5, e6]; exact hk
                · cases h
              · rename_i e5; cases h; simp only [e5]; exact hk
              · cases h
            · cases h
          · cases h
        · cases h; exact hk
        · cases h
      · cases h
    · cases h
  · cases h
noncomputable def mapPutX (T : Tabs) (t : TypeId) (m x v : GVal) (O : List GObj) : Option (List GObj) :=
  match T.keyT t with
  | some (k, _) => if keyOkX k x = true then (match m with
    | .map o st => match O[o]? with
      | some (.map st' kv) => if st = st' then (match kfind k x kv with
        | some (some i) => forceL (kv.set i (x, v)) fun kw => forceL (O.set o (.map st kw)) fun O' => some O'
        | some none => forceL (kv ++ [(x, v)]) fun kw => forceL (O.set o (.map st kw)) fun O' => some O'
        | none => none) else none
      | _ => none
    | _ => none) else none
  | none => none
theorem mapPutX_ok (hT : T.Ok P) {t m x v O O'} {K : List GObj → Prop} (h : mapPutX T t m x v O = some O') (hk : K O') : mapUpdateV P t m x v O K := by
  unfold mapPutX at h; simp only [forceL_eq] at h; unfold mapUpdateV
  split at h
  · rename_i k e e1
    rw [hT.keyT _ _ e1]
    split at h
    · rename_i e3
      refine ⟨keyOkX_ok e3, ?_⟩
      split at h
      · split at h
        · rename_i hO
          simp only [hO]
          split at h
          · rename_i e4
            refine ⟨e4, ?_⟩
            split at h
            · rename_i e5; cases h; simp only [e5]; exact hk
            · rename_i e5; cases h; simp only [e5]; exact hk
            · cases h
          · cases h
        · cases h
      · cases h
    · cases h
  · cases h
noncomputable def mapCutX (T : Tabs) (t : TypeId) (m x : GVal) (O : List GObj) : Option (List GObj) :=
  match T.keyT t with
  | some (k, _) => if keyOkX k x = true then (match m with
    | .map o st => match O[o]? with
      | some (.map st' kv) => if st = st' then (match kfind k x kv with
        | some (some i) => forceL (kv.eraseIdx i) fun kw => forceL (O.set o (.map st kw)) fun O' => some O'
        | some none => some O
        | none => none) else none
      | _ => none
    | _ => none) else none
  | none => none
theorem mapCutX_ok (hT : T.Ok P) {t m x O O'} {K : List GObj → Prop} (h : mapCutX T t m x O = some O') (hk : K O') : deleteV P t m x O K := by
  unfold mapCutX at h; simp only [forceL_eq] at h; unfold deleteV
  split at h
  · rename_i k e e1
    rw [hT.keyT _ _ e1]
    split at h
    · rename_i e3
      refine ⟨keyOkX_ok e3, ?_⟩
      split at h
      · split at h
        · rename_i hO
          simp only [hO]
          split at h
          · rename_i e4
            refine ⟨e4, ?_⟩
            split at h
            · rename_i e5; cases h; simp only [e5]; exact hk
            · rename_i e5; cases h; simp only [e5]; exact hk
            · cases h
          · cases h
        · cases h
      · cases h
    · cases h
  · cases h
noncomputable def makeMapX (O : List GObj) : Option (GVal × List GObj) :=
  match clockOf O with
  | some n => forceL (tickO O ++ [.map n []]) fun O' => some (.map O.length n, O')
  | none => none
theorem makeMapX_ok {O v O'} {K : GVal → List GObj → Prop} (h : makeMapX O = some (v, O')) (hk : K v O') : makeMapV O K := by
  unfold makeMapX at h; simp only [forceL_eq] at h; unfold makeMapV stamp
  split at h
  · rename_i n e; cases h; rw [e]; exact hk
  · cases h

abbrev CallX := Nat → List GVal → List GObj → Option (GVal × List GObj)
def CallX.Ok (P : Program) (call : CallX) : Prop := ∀ f args O g O', call f args O = some (g, O') → GCalls P f args O (fun g' O'' => g' = g ∧ O'' = O')

def withO (O : List GObj) : Option GVal → Option (GVal × List GObj)
  | some g => some (g, O)
  | none => none
theorem withO_some {O : List GObj} {x : Option GVal} {g O'} (h : withO O x = some (g, O')) : x = some g ∧ O' = O := by
  unfold withO at h; grind

noncomputable def callX (T : Tabs) (call : CallX) (ow : Bool) (st : GSt) (c : Call) : Option (GVal × List GObj) :=
  match c.callee with
  | .builtin b => match b, c.argTypes.toList, c.args.toList with
    | .len, [t], [x] => withO st.o (lenX T t (st.ev x) st.o)
    | .append, [t, u], [x, y] => appendX T ow t u (st.ev x) (st.ev y) st.o
    | .min, _, [x, y] => withO st.o (minX false (st.ev x) (st.ev y))
    | .max, _, [x, y] => withO st.o (minX true (st.ev x) (st.ev y))
    | .delete, [t, u], [x, y] => match mapCutX T t (st.ev x) (st.ev y) st.o with
      | some O' => some (.tuple [], O')
      | none => none
    | .cap, [t], [x] => withO st.o (capX T t (st.ev x))
    | _, _, _ => none
  | .value f => match st.ev f with
    | .func (.func n) first caps => match T.yes n, first ++ c.args.toList.map st.ev ++ caps with
      | true, [] => some (.bool true, st.o)
      | _, as => call n as st.o
    | _ => none
  | _ => none
theorem callX_ok (hT : T.Ok P) {call : CallX} (hc : call.Ok P) {ow st c g O'} (h : callX T call ow st c = some (g, O')) : callV P ow st c (fun g' O'' => g' = g ∧ O'' = O') := by
  unfold callX at h; unfold callV
  split at h
  · split at h
    · rename_i e1 e2 e3
      obtain ⟨h1, rfl⟩ := withO_some h
      simp only [e1, e2, e3]
      exact lenX_ok hT h1 (by simp)
    · rename_i e1 e2 e3
      simp only [e1, e2, e3]
      exact appendX_ok hT h ⟨rfl, rfl⟩
    · rename_i e1 e3
      obtain ⟨h1, rfl⟩ := withO_some h
      simp only [e1, e3]
      exact minX_ok h1 (by simp)
    · rename_i e1 e3
      obtain ⟨h1, rfl⟩ := withO_some h
      simp only [e1, e3]
      exact minX_ok h1 (by simp)
    · rename_i e1 e2 e3
      simp only [e1, e2, e3]
      split at h
      · rename_i O1 e4; cases h; exact mapCutX_ok hT e4 ⟨rfl, rfl⟩
      · cases h
    · rename_i e1 e2 e3
      obtain ⟨h1, rfl⟩ := withO_some h
      simp only [e1, e2, e3]
      exact capX_ok hT h1 (by simp)
    · cases h
  · rename_i e1
    simp only [e1]
    split at h
    · rename_i n first caps e2
      rw [e2]
      simp only
      split at h
      · rename_i hy ha; cases h; rw [ha]; exact (hT.yes _ hy).apart rfl rfl st.o
      · exact hc _ _ _ _ _ h
    · cases h
  · cases h

noncomputable def opx (T : Tabs) (call : CallX) (R : List Nat) (st : GSt) (o : Oper) : Option (GVal × List GObj) :=
  match o.op with
  | .move x => some (st.ev x, st.o)
  | .assign x => some (st.ev x, st.o)
  | .pick c a b => match st.ev c with
    | .bool true => some (st.ev a, st.o)
    | .bool false => some (st.ev b, st.o)
    | _ => none
  | .binOp op t x y _ => withO st.o (binX T op t (st.ev x) (st.ev y))
  | .unOp op _ x => withO st.o (unX op (st.ev x))
  | .convert s d x => withO st.o (convX T s d (st.ev x))
  | .load t x => withO st.o (loadX T t (st.ev x) st.o)
  | .store t x y => match storeX T t (st.ev x) (st.ev y) st.o with
    | some O' => some (.any, O')
    | none => none
  | .fieldAddr s x f => withO st.o (fieldAddrX T s (st.ev x) f)
  | .field s x f => withO st.o (fieldX T s (st.ev x) f)
  | .indexAddr t x i => withO st.o (indexAddrX T t (st.ev x) (st.ev i) st.o)
  | .index t x i => withO st.o (indexX T t (st.ev x) (st.ev i))
  | .extract x i => withO st.o (extractX (st.ev x) i)
  | .alloc t => allocX T t st.o
  | .lookup t x y ok => withO st.o (lookupX T t (st.ev x) (st.ev y) ok st.o)
  | .mapUpdate t x y z => match mapPutX T t (st.ev x) (st.ev y) (st.ev z) st.o with
    | some O' => some (.any, O')
    | none => none
  | .insert t x y z => match mapPutX T t (st.ev x) (st.ev y) (st.ev z) st.o with
    | some O' => some (.any, O')
    | none => none
  | .makeMap t r => match r with
    | none => makeMapX st.o
    | some _ => none
  | .box _ x => boxX (match o.dst with | some d => R.contains d | none => false) (st.ev x) st.o
  | .build t ps => withO st.o (buildX T t (ps.toList.map fun p => (p.1, st.ev p.2)))
  | .buildSlice t n ps => withO st.o (buildSliceX T t n (ps.toList.map fun p => (p.1, st.ev p.2)))
  | .slice t x lo hi mx => withO st.o (sliceX T t (st.ev x) (optV st lo) (optV st hi) (optV st mx) st.o)
  | .nilCheck x => withO st.o (nilX (st.ev x))
  | .makeInterface t x => withO st.o (ifaceX T t (st.ev x))
  | .makeFunc fn fs cs => some (.func fn (fs.toList.map st.ev) (cs.toList.map st.ev), st.o)
  | .call c => callX T call (match o.dst with | some d => R.contains d | none => false) st c
  | _ => none

theorem opx_ok (hT : T.Ok P) {call : CallX} (hc : call.Ok P) {R st o g O'} (h : opx T call R st o = some (g, O')) : opv P R st o (fun g' O'' => g' = g ∧ O'' = O') := by
  unfold opx at h; unfold opv
  split at h <;> rename_i eo <;> simp only [eo]
  · cases h; exact ⟨rfl, rfl⟩
  · cases h; exact ⟨rfl, rfl⟩
  · split at h
    · rename_i e; cases h; rw [e]; exact ⟨rfl, rfl⟩
    · rename_i e; cases h; rw [e]; exact ⟨rfl, rfl⟩
    · cases h
  · obtain ⟨h1, rfl⟩ := withO_some h; exact binNX_ok hT (fun e => by rw [e]; rfl) h1 ⟨rfl, rfl⟩
  · obtain ⟨h1, rfl⟩ := withO_some h; exact unX_ok h1 ⟨rfl, rfl⟩
  · obtain ⟨h1, rfl⟩ := withO_some h; exact convX_ok hT h1 ⟨rfl, rfl⟩
  · obtain ⟨h1, rfl⟩ := withO_some h; exact loadX_ok hT h1 ⟨rfl, rfl⟩
  · split at h
    · rename_i e; cases h; exact storeX_ok hT e ⟨rfl, rfl⟩
    · cases h
  · obtain ⟨h1, rfl⟩ := withO_some h; exact fieldAddrX_ok hT h1 ⟨rfl, rfl⟩
  · obtain ⟨h1, rfl⟩ := withO_some h; exact fieldX_ok hT h1 ⟨rfl, rfl⟩
  · obtain ⟨h1, rfl⟩ := withO_some h; exact indexAddrX_ok hT h1 ⟨rfl, rfl⟩
  · obtain ⟨h1, rfl⟩ := withO_some h; exact indexX_ok hT h1 ⟨rfl, rfl⟩
  · obtain ⟨h1, rfl⟩ := withO_some h; exact extractX_ok h1 ⟨rfl, rfl⟩
  · exact allocX_ok hT h ⟨rfl, rfl⟩
  · obtain ⟨h1, rfl⟩ := withO_some h; exact lookupX_ok hT h1 ⟨rfl, rfl⟩
  · split at h
    · rename_i e; cases h; exact mapPutX_ok hT e ⟨rfl, rfl⟩
    · cases h
  · split at h
    · rename_i e; cases h; exact mapPutX_ok hT e ⟨rfl, rfl⟩
    · cases h
  · split at h
    · exact makeMapX_ok h ⟨rfl, rfl⟩
    · cases h
  · exact boxX_ok h ⟨rfl, rfl⟩
  · obtain ⟨h1, rfl⟩ := withO_some h; exact buildX_ok hT h1 ⟨rfl, rfl⟩
  · obtain ⟨h1, rfl⟩ := withO_some h; exact buildSliceX_ok hT h1 ⟨rfl, rfl⟩
  · obtain ⟨h1, rfl⟩ := withO_some h; exact sliceX_ok hT h1 ⟨rfl, rfl⟩
  · obtain ⟨h1, rfl⟩ := withO_some h; exact nilX_ok h1 ⟨rfl, rfl⟩
  · obtain ⟨h1, rfl⟩ := withO_some h; exact ifaceX_ok hT h1 ⟨rfl, rfl⟩
  · cases h; exact ⟨rfl, rfl⟩
  · exact callX_ok hT hc h
  · cases h

end Gv
