/- What is made and never written again: rows become plain lists. -/
import Derived.Test.YtomacbbghhabpaaP4
import Derived.LoopN
import Derived.RowKit3
import Derived.Below
import Derived.ChangeSame
import Derived.KernelRfl
set_option linter.defProp false
set_option linter.unusedVariables false
namespace Gv
open Go
def Tag.frz : Tag → Tag
 | .tok _ _ => .none
 | t => t
def frzL (f : GVal → Option GVal) : List GVal → Option (List GVal)
 | [] => some []
 | g :: r => match f g, frzL f r with
  | some g', some r' => some (g' :: r')
  | _, _ => none
def frzLL (f : GVal → Option GVal) : List (List GVal) → Option (List (List GVal))
 | [] => some []
 | g :: r => match frzL f g, frzLL f r with
  | some g', some r' => some (g' :: r')
  | _, _ => none
def frz (O : List GObj) : Nat → GVal → Option GVal
 | 0, _ => none
 | n + 1, g => match g with
  | .slice xs tag => match frzLL (frz O n) xs with
   | some ys => some (.slice ys tag.frz)
   | none => none
  | .own o st off len => match O[o]? with
   | some (.row st' _ xs) => if st = st' ∧ off + len ≤ xs.length then (match frzLL (frz O n) ((xs.drop off).take len) with
    | some ys => some (.slice ys .none)
    | none => none) else none
   | _ => none
  | .ptr o st i j => match O[o]? with
   | some (.row st' _ xs) => if st = st' ∧ i < xs.length then (match frzL (frz O n) ((xs.getD i []).drop j) with
    | some ys => some (.ref ys)
    | none => none) else none
   | _ => none
  | .agg cs => match frzL (frz O n) cs with
   | some ys => some (.agg ys)
   | none => none
  | .tuple cs => match frzL (frz O n) cs with
   | some ys => some (.tuple ys)
   | none => none
  | .ref cs => match frzL (frz O n) cs with
   | some ys => some (.ref ys)
   | none => none
  | .func fn a b => match frzL (frz O n) a, frzL (frz O n) b with
   | some a', some b' => some (.func fn a' b')
   | _, _ => none
  | .iface t v => match frz O n v with
   | some v' => some (.iface t v')
   | none => none
  | .map _ _ => none
  | .cond _ _ => none
  | g => some g
theorem frzL_len {f : GVal → Option GVal} : ∀ {xs ys : List GVal}, frzL f xs = some ys → xs.length = ys.length
 | [], ys, h => by simp [frzL] at h; subst h; rfl
 | x :: xs, ys, h => by
  unfold frzL at h;split at h
  · rename_i a b h1 h2; cases h; simp [frzL_len h2]
  · cases h
theorem frzL_at {f : GVal → Option GVal} : ∀ {xs ys : List GVal}, frzL f xs = some ys → ∀ (j : Nat) y, ys[j]? = some y → ∃ x, xs[j]? = some x ∧ f x = some y
 | [], ys, h, j, y, hy => by simp [frzL] at h; subst h; simp at hy
 | x :: xs, ys, h, j, y, hy => by
  unfold frzL at h;split at h
  · rename_i a b h1 h2;cases h;cases j with
    | zero => simp at hy; subst hy; exact ⟨x, rfl, h1⟩
    | succ j => obtain ⟨z, q1, q2⟩ := frzL_at h2 j y (by simpa using hy); exact ⟨z, by simpa using q1, q2⟩
  · cases h
theorem frzL_app {f : GVal → Option GVal} : ∀ {xs ys xs' ys' : List GVal}, frzL f xs = some ys → frzL f xs' = some ys' → frzL f (xs ++ xs') = some (ys ++ ys')
 | [], ys, xs', ys', h, h' => by simp [frzL] at h; subst h; exact h'
 | x :: xs, ys, xs', ys', h, h' => by
  unfold frzL at h;split at h
  · rename_i a b h1 h2; cases h;rw [List.cons_append, frzL, h1, frzL_app h2 h']; rfl
  · cases h
theorem frzLL_flat {f : GVal → Option GVal} : ∀ {xs ys : List (List GVal)}, frzLL f xs = some ys → frzL f xs.flatten = some ys.flatten
 | [], ys, h => by simp [frzLL] at h; subst h; rfl
 | x :: xs, ys, h => by
  unfold frzLL at h;split at h
  · rename_i a b h1 h2; cases h;rw [List.flatten_cons, List.flatten_cons]; exact frzL_app h1 (frzLL_flat h2)
  · cases h
theorem frzLL_len {f : GVal → Option GVal} : ∀ {xs ys : List (List GVal)}, frzLL f xs = some ys → xs.length = ys.length
 | [], ys, h => by simp [frzLL] at h; subst h; rfl
 | x :: xs, ys, h => by
  unfold frzLL at h;split at h
  · rename_i a b h1 h2; cases h; simp [frzLL_len h2]
  · cases h
theorem frzLL_sz {f : GVal → Option GVal} {sz : Nat} : ∀ {xs ys : List (List GVal)}, frzLL f xs = some ys → (∀ x ∈ xs, x.length = sz) → ∀ y ∈ ys, y.length = sz
 | [], ys, h, _, y, hy => by simp [frzLL] at h; subst h; simp at hy
 | x :: xs, ys, h, hs, y, hy => by
  unfold frzLL at h;split at h
  · rename_i a b h1 h2; cases h;rcases List.mem_cons.1 hy with rfl | hy
    · rw [← frzL_len h1]; exact hs x (by simp)
    · exact frzLL_sz h2 (fun z hz => hs z (by simp [hz])) y hy
  · cases h
section
variable {P : Program} {E : Env} {O : List GObj} {w : World}
def inRow (E : Env) (O : List GObj) (b o : Nat) : Prop :=
 ∃ (i st sz : Nat) (xs : List (List GVal)) (l : GLoc), O[i]? = some (.row st sz xs) ∧ E.loc st = some l ∧ l.block = some b ∧ l.off ≤ o ∧ o < l.off + xs.length * sz
open Classical in
noncomputable def Env.frz (E : Env) (O : List GObj) (w : World) : Env :=
 { E with snap := fun b o => match E.snap b o with
  | some v => some v
  | none => if inRow E O b o then w.cell? ⟨b, o, none⟩ else none }
theorem Env.frz_le (E : Env) (O : List GObj) (w : World) : E.le (E.frz O w) := ⟨fun b o v h => by simp only [Env.frz, h], fun _ _ h => h⟩
theorem Env.frz_row {b o : Nat} {v : Value} (hr : inRow E O b o) (hc : w.cell? ⟨b, o, none⟩ = some v) (hs : ∀ u, E.snap b o = some u → u = v) : (E.frz O w).snap b o = some v := by
 simp only [Env.frz]
 cases h : E.snap b o with
 | some u => rw [hs u h]
 | none => simp only [if_pos hr]; exact hc
theorem HSim.frz (h : HSim E O w) : HSim (E.frz O w) [] w ∧ Keep E O w (E.frz O w) [] w := by
 have hrow : ∀ b o v, (E.frz O w).snap b o = some v → E.snap b o = some v ∨ (inRow E O b o ∧ w.cell? ⟨b, o, none⟩ = some v) := by
  intro b o v hv;simp only [Env.frz] at hv;cases hs : E.snap b o with
  | some u => rw [hs] at hv; exact .inl hv
  | none =>
   rw [hs] at hv;simp only at hv
   split at hv
   · rename_i hr; exact .inr ⟨hr, hv⟩
   · cases hv
 refine ⟨⟨?_, fun b o v hv => ?_, fun b o v hv => ?_, fun i x hx => by simp at hx, fun i j oi oj b _ hi => by simp at hi, h.globLe (Env.frz_le E O w)⟩,
  ⟨Env.frz_le E O w, rfl, rfl, Nat.le_refl _, fun _ _ _ => rfl, fun b o v hv => ?_, fun b ⟨i, x, hx, _⟩ => by simp at hx, trivial⟩⟩
 · obtain ⟨n, _, h2⟩ := h.fin; exact ⟨n, (fun c hc => by cases hc), h2⟩
 · rcases hrow b o v hv with h1 | ⟨_, h2⟩
   · exact h.sealed b o v h1
   · exact h2
 · rcases hrow b o v hv with h1 | ⟨⟨i, st, sz, xs, l, hO, hl, hb, ho1, ho2⟩, h2⟩
   · exact h.one b o v h1
   · obtain ⟨l', hl', _, hsz, hr⟩ := h.real _ _ hO;rw [hl] at hl'; cases hl';rw [hb] at hr;obtain ⟨cur, el, hw, _, _, hra, _⟩ := hr;have hlen := flatten_len xs hsz;obtain ⟨v', hv', h1, _⟩ := hra (o - l.off) (xs.flatten[o - l.off]'(by omega)) (List.getElem?_eq_getElem (by omega));rw [show l.off + (o - l.off) = o by omega] at hv';have : w.cell? ⟨b, o, none⟩ = some v' := by simp [World.cell?, hw, hv']
     rw [this] at h2; cases h2; exact h1
 · rcases hrow b o v hv with h1 | ⟨⟨i, st, sz, xs, l, hO, hl, hb, _, _⟩, _⟩
   · exact .inl h1
   · exact .inr (.inr ⟨i, _, hO, by simp [GObj.blk, hl, hb]⟩)
theorem row_frz (h : HSim E O w) {i st sz : Nat} {xs : List (List GVal)} {l : GLoc} {b : Nat} (hO : O[i]? = some (.row st sz xs)) (hl : E.loc st = some l) (hb : l.block = some b) {j : Nat} {g : GVal} (hj : xs.flatten[j]? = some g) :
 ∃ v, (E.frz O w).snap b (l.off + j) = some v ∧ VR E v g := by
 obtain ⟨l', hl', _, hsz, hr⟩ := h.real _ _ hO
 rw [hl] at hl'; cases hl'
 rw [hb] at hr
 obtain ⟨cur, el, hw, _, _, hra, hn⟩ := hr
 have hlen := flatten_len xs hsz
 obtain ⟨v, hv, _, hvr⟩ := hra j g hj
 have hlt := (List.getElem?_eq_some_iff.1 hj).1
 refine ⟨v, Env.frz_row ⟨i, st, sz, xs, l, hO, hl, hb, by omega, by omega⟩ (by simp [World.cell?, hw, hv]) (fun u hu => by rw [hn] at hu; cases hu), hvr⟩
theorem frz_sound (h : HSim E O w) : ∀ (n : Nat) (v : Value) (g g' : GVal), VR E v g → frz O n g = some g' → VR (E.frz O w) v g'
 | 0, v, g, g', hv, hg => by cases hg
 | n + 1, v, g, g', hv, hg => by
  have hle := Env.frz_le E O w;have ih := frz_sound h n;have cells : ∀ (xs ys : List GVal) (c : Nat → Value), frzL (frz O n) xs = some ys → (∀ j g, xs[j]? = some g → VR E (c j) g) → ∀ j g, ys[j]? = some g → VR (E.frz O w) (c j) g := by
   intro xs ys c hf hc j g hj;obtain ⟨x, hx, hxy⟩ := frzL_at hf j g hj;exact ih _ _ _ (hc j x hx) hxy
  unfold frz at hg;cases hv with
  | any v => cases hg; exact .any _
  | bool b => cases hg; exact .bool _
  | ubool b => cases hg; exact .ubool _
  | int k n => cases hg; exact .int _ _
  | str s => cases hg; exact .str _
  | lit v => cases hg; exact .lit _
  | slice a len cap xs tag sz c hlen hcap hsz ha hc ht =>
   simp only at hg
   split at hg
   · rename_i ys hys;cases hg;refine .slice a len cap ys _ sz c (by rw [hlen, frzLL_len hys]) hcap (frzLL_sz hys hsz) (fun hx => ?_) (cells _ _ c (frzLL_flat hys) hc) ?_
     · obtain ⟨b, off, e, hs⟩ := ha (fun e => hx (by subst e; simp [frzLL] at hys; exact hys));exact ⟨b, off, e, fun j hj => hle.snap _ _ _ (hs j hj)⟩
     · cases tag with
       | none => trivial
       | full => exact ht
       | nil => exact ht
       | tok o st => trivial
   · cases hg
  | own a len cap o st i l hl hcap ha =>
   simp only at hg
   split at hg
   · rename_i st' sz xs hO;split at hg
     · rename_i hc;obtain ⟨rfl, hle2⟩ := hc;split at hg
       · rename_i ys hys;cases hg;obtain ⟨l', hl', hsz', hsz, hr⟩ := h.real _ _ hO;rw [hl] at hl'; cases hl';have hlen : ((xs.drop i).take len).length = len := by rw [List.length_take, List.length_drop]; omega
         have hsz2 : ∀ x ∈ (xs.drop i).take len, x.length = sz := fun x hx => hsz x (List.mem_of_mem_drop (List.mem_of_mem_take hx))
         have hylen := frzLL_len hys;have hyl : len = ys.length := by rw [← hylen, hlen]
         by_cases hz : len = 0
         · subst hz;have : ys = [] := List.length_eq_zero_iff.1 hyl.symm;subst this;exact .slice a 0 cap [] .none sz (fun _ => .tuple #[]) rfl hcap (by simp) (fun e => absurd rfl e) (fun j g hj => by simp at hj) trivial
         · rcases ha with h0 | ⟨b, hb, rfl, _⟩
           · omega
           · have hflat : ((xs.drop i).take len).flatten = (xs.flatten.drop (i * sz)).take (len * sz) := by
              rw [flatten_take _ len (fun x hx => hsz x (List.mem_of_mem_drop hx)) (by rw [List.length_drop]; omega), flatten_drop _ i hsz (by omega)]
             have hfl := flatten_len xs hsz;have hin : i * sz + len * sz ≤ xs.length * sz := by rw [← Nat.add_mul]; exact Nat.mul_le_mul_right _ hle2
             have hat : ∀ j, j < len * sz → ∃ v, (E.frz O w).snap b (l.off + (i * sz + j)) = some v ∧ VR E v (xs.flatten.getD (i * sz + j) .any) := by
              intro j hj;have hlt : i * sz + j < xs.flatten.length := by omega
              exact row_frz h hO hl hb (getD_of hlt)
             refine .slice _ len cap ys .none sz (fun j => ((E.frz O w).snap b (l.off + (i * sz + j))).getD (.tuple #[])) hyl hcap (frzLL_sz hys hsz2) (fun _ => ⟨b, _, rfl, fun j hj => ?_⟩) ?_ trivial
             · obtain ⟨v, hv, _⟩ := hat j hj;rw [hsz', Nat.add_assoc, hv]; rfl
             · refine cells _ _ _ (frzLL_flat hys) (fun j g hj => ?_);rw [hflat, List.getElem?_take] at hj;split at hj
               · rename_i hjl;rw [List.getElem?_drop] at hj;obtain ⟨v, hv, hvr⟩ := hat j hjl;rw [hv]
                 simpa [List.getD, hj] using hvr
               · cases hj
       · cases hg
     · cases hg
   · cases hg
  | agg vs cs hs hc =>
   simp only at hg
   split at hg
   · rename_i ys hys; cases hg;exact .agg vs ys (by rw [hs, frzL_len hys]) (cells _ _ _ hys hc)
   · cases hg
  | tuple vs cs hs hc =>
   simp only at hg
   split at hg
   · rename_i ys hys; cases hg;exact .tuple vs ys (by rw [hs, frzL_len hys]) (cells _ _ _ hys hc)
   · cases hg
  | ref b off cs c ha hc =>
   simp only at hg
   split at hg
   · rename_i ys hys; cases hg;exact .ref b off ys c (fun j hj => hle.snap _ _ _ (ha j (by rw [frzL_len hys]; exact hj))) (cells _ _ _ hys hc)
   · cases hg
  | ptr b off o st i j l hl hb ho =>
   simp only at hg
   split at hg
   · rename_i st' sz xs hO;split at hg
     · rename_i hc;obtain ⟨rfl, hi⟩ := hc;split at hg
       · rename_i ys hys;cases hg;obtain ⟨l', hl', hsz', hsz, hr⟩ := h.real _ _ hO;rw [hl] at hl'; cases hl';have hget : xs[i]? = some (xs.getD i []) := getD_of hi;have hx : (xs.getD i []).length = sz := hsz _ (mem_getD hi);have hat : ∀ k, k < sz → xs.flatten[i * sz + k]? = (xs.getD i [])[k]? := fun k hk => flatten_at xs hsz i k _ hget hk
         have hyl := frzL_len hys;rw [List.length_drop, hx] at hyl;refine .ref b off ys (fun k => ((E.frz O w).snap b (off + k)).getD (.tuple #[])) (fun k hk => ?_) ?_
         · have hlt : j + k < sz := by omega
           obtain ⟨v, hv, _⟩ := row_frz h hO hl hb (j := i * sz + (j + k)) (g := (xs.getD i [])[j + k]'(by omega)) (by rw [hat _ hlt]; exact List.getElem?_eq_getElem (by omega));have e : l.off + (i * sz + (j + k)) = off + k := by rw [ho, hsz']; omega
           rw [e] at hv;rw [hv]; rfl
         · refine cells _ _ _ hys (fun k g hk => ?_);rw [List.getElem?_drop] at hk;have hlt : j + k < sz := by rw [← hx]; exact (List.getElem?_eq_some_iff.1 hk).1
           obtain ⟨v, hv, hvr⟩ := row_frz h hO hl hb (j := i * sz + (j + k)) (g := g) (by rw [hat _ hlt]; exact hk);have e : l.off + (i * sz + (j + k)) = off + k := by rw [ho, hsz']; omega
           rw [e] at hv;rw [hv]; exact hvr
       · cases hg
     · cases hg
   · cases hg
  | map r o st l hl hb => cases hg
  | func fn fs cs gs ks hf hk hfs hcs =>
   simp only at hg
   split at hg
   · rename_i a b h1 h2; cases hg;exact .func fn fs cs a b (by rw [hf, frzL_len h1]) (by rw [hk, frzL_len h2]) (cells _ _ _ h1 hfs) (cells _ _ _ h2 hcs)
   · cases hg
  | iface t v g hv =>
   simp only at hg
   split at hg
   · rename_i v' h1; cases hg;exact .iface t v v' (ih _ _ _ hv h1)
   · cases hg
  | cond c v g hv => cases hg
theorem GInto.frz {g g' : GVal} {n : Nat} {N : GVal → List GObj → Prop} (hg : Gv.frz O n g = some g') (h : N g' []) : GInto g O N := fun E v w hs hv => by
 obtain ⟨h1, h2⟩ := hs.frz
 exact ⟨g', [], _, h, h1, h2, frz_sound hs n v g g' hv hg⟩
theorem GCalls.frz {f : FuncId} {args : List GVal} {X : List GObj} {r r' : GVal} {n : Nat} (h : GCalls P f args O (fun g O' => g = r ∧ O' = X)) (hr : Gv.frz X n r = some r') : GCalls P f args O (fun g O' => g = r' ∧ O' = []) :=
 (h.mono fun g O' ⟨e1, e2⟩ => by subst e1; subst e2; exact GInto.frz hr ⟨rfl, rfl⟩).into
end
end Gv
namespace Gv
open Go
variable {P : Program}
structure Spare (E : Env) (X : List GObj) (w : World) (v : Value) (sz : Nat) (ys : List (List GVal)) (l : GLoc) : Prop where
 size : l.size = sz
 block : ∀ b, l.block = some b → InO E X b ∧ ∃ cur el, w.heap[b]? = some (.cells cur el (0, 0)) ∧ cur.size = l.total ∧ ∀ o, l.off ≤ o → (E.frz X w).snap b o = none
 val : VR (E.frz X w) v (.slice ys .none)
 tag : ∀ a len cap, v = .slice a len cap → cap = len ∨ ∃ b off, a = some ⟨b, off, none⟩ ∧ l.block = some b ∧ l.off = off + len * l.size ∧ off + cap * l.size ≤ l.total
end Gv
namespace Gv
open Go Go.RowKit Go.WideShapes Go.ChangeShapes
def Env.nil : Env := ⟨fun _ _ => none, fun _ => none⟩
theorem HSim.start (w : World) (hg : globs = [] := by rfl) : HSim Env.nil [] w :=
 ⟨⟨0, (fun c hc => by cases hc), fun _ _ => rfl⟩, (fun b o v h => by cases h), (fun b o v h => by cases h), (fun i x hx => by simp at hx), fun i j oi oj b _ hi => by simp at hi, fun p hp => by rw [hg] at hp; cases hp⟩
structure Old (w w' : World) : Prop where
 os : w'.os = w.os
 output : w'.output = w.output
 size : w.heap.size ≤ w'.heap.size
 block : ∀ k, k < w.heap.size → w'.heap[k]? = w.heap[k]?
theorem Keep.old {E E' : Env} {O' : List GObj} {w w' : World} (h : Keep E [] w E' O' w') : Old w w' :=
 ⟨h.os, h.out, h.size, fun i hi => h.heap i hi (fun ⟨j, x, hx, _⟩ => by simp at hx)⟩
theorem Old.frame {W W' : World} (h : Old W W') (may : MemPlace → Prop) : W.keptBut W' may := by
 refine ⟨h.os, h.output, fun i hi => ?_⟩
 rw [h.block i hi]
 split <;> simp_all
theorem Old.frozen {w w' : World} (h : Old w w') {p : Addr} (hp : p.block < w.heap.size) : w'.frozen? p = w.frozen? p := World.frozen?_of_block (w := w) (h.block p.block hp)
section
variable {H : Type} {enc : TypeId × Value → H} {P : Program}
theorem post_of_old {f : Func} {s : ChangeSpec} {apart fresh handsOn again : Bool} {W W' : World} {args : Array Value} {v : Value} {ds gs : List (DataW H)} {before pa pv : List MemPlace}
 (hW : DataW.Whole enc P f.params.toList s.vars apart W args.toList ds gs before)
 (hres : ∀ (b : Nat) (sp : Nat → Bool) (hd : Bool), DataW.TrodAll enc P W' b sp hd f.resultTypes.toList (v.resultList f.resultTypes.size) (s.fn H (ds ++ gs)).results [])
 (hargs : ∀ sp : Nat → Bool, (∀ p ∈ before, sp p.block = true) → DataW.TrodAll enc P W' 0 sp true f.params.toList args.toList (s.fn H (ds ++ gs)).args pa)
 (hvars : ∀ sp : Nat → Bool, (∀ p ∈ before, sp p.block = true) → DataW.TrodVars enc P W' sp s.vars (s.fn H (ds ++ gs)).vars pv)
 (hps : before = pa ++ pv) (hb : Old W W')
 (hok : ∀ (j : Nat) (t : TypeId) (r : Value), f.resultTypes[j]? = some t → (v.resultList f.resultTypes.size)[j]? = some r → Value.okWide P W' .any 0 t r) :
 s.post enc P f apart fresh handsOn again W args v W' := by
 have hlt : ∀ p ∈ before, p.block < W.heap.size := fun p hp => hW.lt p hp
 have hold : ∀ p ∈ before, (fun b => decide (b < W.heap.size)) p.block = true := fun p hp => by simpa using hlt p hp
 refine ⟨ds, gs, before, [], pa, pv, hW, hres _ _ _, hargs _ hold, hvars _ hold, World.keptBut_mono (fun p hp => ⟨hp, ?_⟩) (hb.frame (· ∈ before)), fun _ => ?_⟩
 · rw [hps, List.mem_append] at hp;exact Or.inr hp
 · obtain ⟨_, _, _, _, _, hz, hn⟩ := hW;refine ⟨hok, _, _, ([] ++ pa) ++ pv, ⟨[] ++ pa, pv, trodAll_append (hargs _ (fun _ _ => rfl)) (hres _ _ _), hvars _ (fun _ _ => rfl), rfl, ?_, ?_⟩, ?_⟩
   · intro b off hp;have hin : MemPlace.cell b off ∈ before := by rw [hps]; simpa using hp
     rw [hb.frozen (hlt _ hin)];exact hz b off hin
   · intro ha;have := hn ha;rw [hps] at this
     simpa using this
   · intro p hp _;rw [hps]
     simpa using hp
end
end Gv
namespace Gv
open Go
def allSolid : List GVal → Prop
 | [] => True
 | x :: r => x.solid = true ∧ allSolid r
theorem allSolid_eq : ∀ l : List GVal, (∀ c ∈ l, c.solid = true) = allSolid l
 | [] => by simp [allSolid]
 | x :: r => by rw [allSolid, ← allSolid_eq r]; simp
theorem okCells_eq (g : GVal) : g.okCells = allSolid g.cells := allSolid_eq _
theorem all_nil {α : Type} (p : α → Prop) : (∀ x ∈ ([] : List α), p x) = True := by simp
theorem all_cons {α : Type} (p : α → Prop) (a : α) (l : List α) : (∀ x ∈ a :: l, p x) = (p a ∧ ∀ x ∈ l, p x) := by simp
theorem all_append {α : Type} (p : α → Prop) (a b : List α) : (∀ x ∈ a ++ b, p x) = ((∀ x ∈ a, p x) ∧ ∀ x ∈ b, p x) := by
 simp [or_imp, forall_and]
theorem all_ints (l : List Int) : (∀ x ∈ ints l, x.length = 1) = True := by simp [ints]
theorem stamp_nil (K : Nat → Prop) : stamp [] K = ∀ st, K st := rfl
theorem stamp_tok (a b : Nat) (r : List GObj) (K : Nat → Prop) : stamp (.tok a b :: r) K = ∀ st, K st := rfl
theorem stamp_row (a b : Nat) (xs : List (List GVal)) (r : List GObj) (K : Nat → Prop) : stamp (.row a b xs :: r) K = ∀ st, K st := rfl
theorem stamp_map (a : Nat) (xs : List (GVal × GVal)) (r : List GObj) (K : Nat → Prop) : stamp (.map a xs :: r) K = ∀ st, K st := rfl
theorem tick_nil : tickO [] = [] := rfl
theorem tick_tok (a b : Nat) (r : List GObj) : tickO (.tok a b :: r) = .tok a b :: r := rfl
theorem tick_row (a b : Nat) (xs : List (List GVal)) (r : List GObj) : tickO (.row a b xs :: r) = .row a b xs :: r := rfl
theorem tick_map (a : Nat) (xs : List (GVal × GVal)) (r : List GObj) : tickO (.map a xs :: r) = .map a xs :: r := rfl
def tabG (l : List (List Int)) : List (List GVal) := l.map fun p => [.slice (ints p) .none]
theorem tabG_length (l : List (List Int)) : (tabG l).length = l.length := by simp [tabG]
theorem tabG_at (l : List (List Int)) (i : Nat) (h : i < l.length) : (tabG l).getD i [] = [.slice (ints (l.getD i [])) .none] := by simp [tabG, List.getD, h]
theorem all_tabG (l : List (List Int)) : (∀ x ∈ tabG l, x.length = 1) = True := by simp [tabG]
def leA (x y : GVal) : Prop :=
 match x, y with
 | .agg xs, .agg ys => WL xs ys
 | .tuple xs, .tuple ys => WL xs ys
 | x, y => leG x y
theorem leA.sound {E : Env} {v : Value} {x y : GVal} (h : leA x y) (hv : VR E v x) : VR E v y := by
 unfold leA at h
 split at h
 · rename_i xs ys;cases hv with
   | agg vs cs hs hc =>
    refine .agg vs ys (by rw [hs, h.len]) (fun j g hg => ?_);obtain ⟨x, hx, hl⟩ := h.at_ j g hg;exact hl.sound (hc j x hx)
 · rename_i xs ys;cases hv with
   | tuple vs cs hs hc =>
    refine .tuple vs ys (by rw [hs, h.len]) (fun j g hg => ?_);obtain ⟨x, hx, hl⟩ := h.at_ j g hg;exact hl.sound (hc j x hx)
 · exact h.sound hv
theorem leA_int (k k' : IntKind) (a b : Int) : leA (.int k a) (.int k' b) = (k = k' ∧ a = b) := by unfold leA; simp [leG_int]
theorem leA_bool (a b : Bool) : leA (.bool a) (.bool b) = (a = b) := by unfold leA; simp [leG_bool]
theorem leA_slice (xs ys : List (List GVal)) (t : Tag) : leA (.slice xs t) (.slice ys .none) = (xs = ys) := by unfold leA; simp [leG_none]
theorem leA_agg (xs ys : List GVal) : leA (.agg xs) (.agg ys) = WL xs ys := rfl
theorem leA_tuple (xs ys : List GVal) : leA (.tuple xs) (.tuple ys) = WL xs ys := rfl
theorem WL_nil : WL [] [] = True := rfl
theorem WL_cons (x y : GVal) (xs ys : List GVal) : WL (x :: xs) (y :: ys) = (leG x y ∧ WL xs ys) := rfl
theorem GInto.leA {g r : GVal} {O : List GObj} {N : GVal → List GObj → Prop} (h : Gv.leA g r) (hn : N r []) : GInto g O N := fun E v w hs hv => by
 obtain ⟨h1, h2⟩ := HSim.drop (O := []) (X := O) (by simpa using hs)
 exact ⟨r, [], E, hn, h1, by simpa using h2, h.sound hv⟩
structure SOp where
 d : Option Nat
 op : Op
 g : Option (Nat × Bool)
inductive SCode where
 | skip
 | reg (ops : List SOp)
 | drw (ops : List (SOp × Nat))
 | seq (a b : SCode)
 | cond (c : Operand) (a b : SCode)
 | block (id : Nat) (a : SCode)
 | loop (a : SCode)
 | exit (n : Nat)
 | ret
def slimOp (all : List Oper) (o : Oper) : Option SOp :=
 match o.guard with
 | none => some ⟨o.dst, o.op, none⟩
 | some (j, want) => match slotOf all j with
  | some d => some ⟨o.dst, o.op, some (d, want)⟩
  | none => none
def slimOps (all : List Oper) : List Oper → Option (List SOp)
 | [] => some []
 | o :: r => match slimOp all o, slimOps all r with
  | some x, some y => some (x :: y)
  | _, _ => none
def slimOrd (all : List Oper) : List (Nat × Nat) → Option (List (SOp × Nat))
 | [] => some []
 | (i, k) :: r => match all[i]? with
  | none => none
  | some o => match slimOp all o, slimOrd all r with
   | some x, some y => some ((x, k) :: y)
   | _, _ => none
def slim (C : Cfg) : Code → Option SCode
 | .skip => some .skip
 | .region id ops draw => match draw with
  | false => match slimOps ops.toList ops.toList with
   | some l => some (.reg l)
   | none => none
  | true => match slimOrd ops.toList (C.of id) with
   | some l => some (.drw l)
   | none => none
 | .seq a b => match slim C a, slim C b with
  | some x, some y => some (.seq x y)
  | _, _ => none
 | .cond c a b => match slim C a, slim C b with
  | some x, some y => some (.cond c x y)
  | _, _ => none
 | .block id a => match slim C a with
  | some x => some (.block id x)
  | none => none
 | .loop a => match slim C a with
  | some x => some (.loop x)
  | none => none
 | .exit n => some (.exit n)
 | .ret => some .ret
 | _ => none
def opS (P : Program) (R : List Nat) (st : GSt) (d : Option Nat) (op : Op) (K : GVal → List GObj → Prop) : Prop := opv P R st ⟨d, op, 0, default, #[], none⟩ K
theorem opS_eq (P : Program) (R : List Nat) (st : GSt) (o : Oper) (K : GVal → List GObj → Prop) : opv P R st o K = opS P R st o.dst o.op K := by
 obtain ⟨dst, op, ty, pos, after, guard⟩ := o
 unfold opS opv
 rfl
def opsS (P : Program) (R : List Nat) : List SOp → (GSt → Prop) → GSt → Prop
 | [], K, st => K st
 | ⟨d, op, g⟩ :: r, K, st => match g with
  | none => opS P R st d op (fun g O' => opsS P R r K (st.put d g O'))
  | some (s, want) => match sget st.s s with
   | .bool b => match want with
    | true => gif b (opS P R (st.setS s (.bool true)) d op (fun g O' => opsS P R r K ((st.setS s (.bool true)).put d g O'))) (opsS P R r K ((st.setS s (.bool false)).put d (.lit (.tuple #[])) st.o))
    | false => gif b (opsS P R r K ((st.setS s (.bool true)).put d (.lit (.tuple #[])) st.o)) (opS P R (st.setS s (.bool false)) d op (fun g O' => opsS P R r K ((st.setS s (.bool false)).put d g O')))
   | .lit (.tuple _) => opsS P R r K (st.put d (.lit (.tuple #[])) st.o)
   | _ => False
def ordS (P : Program) (R : List Nat) : List (SOp × Nat) → (GSt → Prop) → GSt → Prop
 | [], K, st => K st
 | (⟨d, op, g⟩, k) :: r, K, st => match g with
  | none => opS P R st d op (fun g O' => drawC k st.s st.o O' (ordS P R r K (st.put d g O')))
  | some (s, want) => match sget st.s s with
   | .bool b => match want with
    | true => gif b (opS P R (st.setS s (.bool true)) d op (fun g O' => drawC k st.s st.o O' (ordS P R r K ((st.setS s (.bool true)).put d g O')))) (ordS P R r K ((st.setS s (.bool false)).put d (.lit (.tuple #[])) st.o))
    | false => gif b (ordS P R r K ((st.setS s (.bool true)).put d (.lit (.tuple #[])) st.o)) (opS P R (st.setS s (.bool false)) d op (fun g O' => drawC k st.s st.o O' (ordS P R r K ((st.setS s (.bool false)).put d g O'))))
   | .lit (.tuple _) => ordS P R r K (st.put d (.lit (.tuple #[])) st.o)
   | _ => False
def vcS (P : Program) (R : List Nat) : SCode → (Ex → GSt → Prop) → GSt → Prop
 | .skip, Q, st => Q .normal st
 | .reg ops, Q, st => opsS P R ops (Q .normal) st
 | .drw ops, Q, st => ordS P R ops (Q .normal) st
 | .seq a b, Q, st => vcS P R a (thenQ (vcS P R b Q) Q) st
 | .cond c a b, Q, st => match st.ev c with
  | .bool t => gif t (vcS P R a Q st) (vcS P R b Q st)
  | .ubool => vcS P R a Q st ∧ vcS P R b Q st
  | _ => False
 | .block id a, Q, st => vcS P R a (blockQ id Q) st
 | .loop a, Q, st => ∃ (ι : Type) (I : ι → GSt) (μ : ι → Nat), Into st (fun s => ∃ i, s = I i) ∧ ∀ i, vcS P R a (thenQ (fun st' => Into st' (fun s => ∃ j, s = I j ∧ μ j < μ i)) Q) (I i)
 | .exit n, Q, st => Q (.exit n) st
 | .ret, Q, st => Q .ret st
def vcSLoop (P : Program) (R : List Nat) (a : SCode) (Q : Ex → GSt → Prop) (st : GSt) : Prop :=
 ∃ (ι : Type) (I : ι → GSt) (μ : ι → Nat), Into st (fun s => ∃ i, s = I i) ∧ ∀ i, vcS P R a (thenQ (fun st' => Into st' (fun s => ∃ j, s = I j ∧ μ j < μ i)) Q) (I i)
theorem vcSLoop_by {P : Program} {R : List Nat} {a : SCode} {Q : Ex → GSt → Prop} {st : GSt} {ι : Type} (I : ι → GSt) (μ : ι → Nat) (h0 : Into st (fun s => ∃ i, s = I i))
 (h : ∀ i, vcS P R a (thenQ (fun st' => Into st' (fun s => ∃ j, s = I j ∧ μ j < μ i)) Q) (I i)) : vcSLoop P R a Q st := ⟨ι, I, μ, h0, h⟩
section
variable (P : Program) (R : List Nat) (Q : Ex → GSt → Prop) (st : GSt)
theorem vcS_skip : vcS P R .skip Q st = Q .normal st := by rw [vcS]
theorem vcS_reg (ops : List SOp) : vcS P R (.reg ops) Q st = opsS P R ops (Q .normal) st := by rw [vcS]
theorem vcS_drw (ops : List (SOp × Nat)) : vcS P R (.drw ops) Q st = ordS P R ops (Q .normal) st := by rw [vcS]
theorem vcS_seq (a b : SCode) : vcS P R (.seq a b) Q st = vcS P R a (thenQ (vcS P R b Q) Q) st := by rw [vcS]
theorem vcS_cond (c : Operand) (a b : SCode) : vcS P R (.cond c a b) Q st = match st.ev c with
 | .bool t => gif t (vcS P R a Q st) (vcS P R b Q st)
 | .ubool => vcS P R a Q st ∧ vcS P R b Q st
 | _ => False := by rw [vcS]
theorem vcS_block (id : Nat) (a : SCode) : vcS P R (.block id a) Q st = vcS P R a (blockQ id Q) st := by rw [vcS]
theorem vcS_loop (a : SCode) : vcS P R (.loop a) Q st = vcSLoop P R a Q st := by rw [vcS, vcSLoop]
theorem vcS_exit (n : Nat) : vcS P R (.exit n) Q st = Q (.exit n) st := by rw [vcS]
theorem vcS_ret : vcS P R .ret Q st = Q .ret st := by rw [vcS]
theorem opsS_nil (K : GSt → Prop) : opsS P R [] K st = K st := by rw [opsS]
theorem opsS_one (d : Option Nat) (op : Op) (r : List SOp) (K : GSt → Prop) : opsS P R (⟨d, op, none⟩ :: r) K st = opS P R st d op (fun g O' => opsS P R r K (st.put d g O')) := by rw [opsS]
theorem opsS_if (d : Option Nat) (op : Op) (s : Nat) (want : Bool) (r : List SOp) (K : GSt → Prop) : opsS P R (⟨d, op, some (s, want)⟩ :: r) K st = match sget st.s s with
      | .bool b => match want with
        | true => gif b (opS P R (st.setS s (.bool true)) d op (fun g O' => opsS P R r K ((st.setS s (.bool true)).put d g O'))) (opsS P R r K ((st.setS s (.bool false)).put d (.lit (.tuple #[])) st.o))
        | false => gif b (opsS P R r K ((st.setS s (.bool true)).put d (.lit (.tuple #[])) st.o)) (opS P R (st.setS s (.bool false)) d op (fun g O' => opsS P R r K ((st.setS s (.bool false)).put d g O')))
      | .lit (.tuple _) => opsS P R r K (st.put d (.lit (.tuple #[])) st.o)
      | _ => False := by rw [opsS]
theorem ordS_nil (K : GSt → Prop) : ordS P R [] K st = K st := by rw [ordS]
theorem ordS_one (d : Option Nat) (op : Op) (k : Nat) (r : List (SOp × Nat)) (K : GSt → Prop) : ordS P R ((⟨d, op, none⟩, k) :: r) K st = opS P R st d op (fun g O' => drawC k st.s st.o O' (ordS P R r K (st.put d g O'))) := by rw [ordS]
theorem ordS_if (d : Option Nat) (op : Op) (k s : Nat) (want : Bool) (r : List (SOp × Nat)) (K : GSt → Prop) : ordS P R ((⟨d, op, some (s, want)⟩, k) :: r) K st = match sget st.s s with
      | .bool b => match want with
        | true => gif b (opS P R (st.setS s (.bool true)) d op (fun g O' => drawC k st.s st.o O' (ordS P R r K ((st.setS s (.bool true)).put d g O')))) (ordS P R r K ((st.setS s (.bool false)).put d (.lit (.tuple #[])) st.o))
        | false => gif b (ordS P R r K ((st.setS s (.bool true)).put d (.lit (.tuple #[])) st.o)) (opS P R (st.setS s (.bool false)) d op (fun g O' => drawC k st.s st.o O' (ordS P R r K ((st.setS s (.bool false)).put d g O'))))
      | .lit (.tuple _) => ordS P R r K (st.put d (.lit (.tuple #[])) st.o)
      | _ => False := by rw [ordS]
end
theorem sget_0 (a : GVal) (r : List GVal) : sget (a :: r) 0 = a := rfl
theorem sget_1 (a b : GVal) (r : List GVal) : sget (a :: b :: r) 1 = b := rfl
theorem sget_2 (a b c : GVal) (r : List GVal) : sget (a :: b :: c :: r) 2 = c := rfl
theorem sget_3 (a b c d : GVal) (r : List GVal) : sget (a :: b :: c :: d :: r) 3 = d := rfl
theorem sget_4 (a b c d : GVal) (r : List GVal) (n : Nat) : sget (a :: b :: c :: d :: r) (n + 4) = sget r n := by simp [sget]
theorem set_0 (a x : GVal) (r : List GVal) : (a :: r).set 0 x = x :: r := rfl
theorem set_1 (a b x : GVal) (r : List GVal) : (a :: b :: r).set 1 x = a :: x :: r := rfl
theorem set_2 (a b c x : GVal) (r : List GVal) : (a :: b :: c :: r).set 2 x = a :: b :: x :: r := rfl
theorem set_3 (a b c d x : GVal) (r : List GVal) : (a :: b :: c :: d :: r).set 3 x = a :: b :: c :: x :: r := rfl
theorem set_4 (a b c d x : GVal) (r : List GVal) (n : Nat) : (a :: b :: c :: d :: r).set (n + 4) x = a :: b :: c :: d :: r.set n x := by simp
theorem setO_0 (a x : GObj) (r : List GObj) : (a :: r).set 0 x = x :: r := rfl
theorem setO_1 (a b x : GObj) (r : List GObj) : (a :: b :: r).set 1 x = a :: x :: r := rfl
theorem setO_2 (a b c x : GObj) (r : List GObj) : (a :: b :: c :: r).set 2 x = a :: b :: x :: r := rfl
theorem setL_0 (a x : List GVal) (r : List (List GVal)) : (a :: r).set 0 x = x :: r := rfl
theorem setL_1 (a b x : List GVal) (r : List (List GVal)) : (a :: b :: r).set 1 x = a :: x :: r := rfl
theorem setL_2 (a b c x : List GVal) (r : List (List GVal)) : (a :: b :: c :: r).set 2 x = a :: b :: x :: r := rfl
theorem gif_true (p q : Prop) : gif true p q = p := rfl
theorem gif_false (p q : Prop) : gif false p q = q := rfl
theorem gif_dec (c : Prop) [Decidable c] (p q : Prop) : gif (decide c) p q = ((c → p) ∧ (¬c → q)) := by
 by_cases h : c <;> simp [gif, h]
theorem gif_not (b : Bool) (p q : Prop) : gif (!b) p q = gif b q p := by cases b <;> rfl
theorem gif_eq (a b : Int) (p q : Prop) : gif (a == b) p q = ((a = b → p) ∧ (a ≠ b → q)) := by
 by_cases h : a = b
 · subst h; simp [gif]
 · rw [beq_eq_false_iff_ne.2 h]; simp [gif, h]
theorem gif_ne (a b : Int) (p q : Prop) : gif (a != b) p q = ((a ≠ b → p) ∧ (a = b → q)) := by
 by_cases h : a = b
 · subst h; simp [gif]
 · rw [bne, beq_eq_false_iff_ne.2 h]; simp [gif, h]
section
variable {P : Program}
theorem slimOp_spec {all : List Oper} {o : Oper} {x : SOp} (h : slimOp all o = some x) : x.d = o.dst ∧ x.op = o.op ∧ ((o.guard = none ∧ x.g = none) ∨ ∃ j want d, o.guard = some (j, want) ∧ slotOf all j = some d ∧ x.g = some (d, want)) := by
 unfold slimOp at h
 split at h
 · rename_i hg; cases h; exact ⟨rfl, rfl, .inl ⟨hg, rfl⟩⟩
 · rename_i j want hg;split at h
   · rename_i d hd; cases h; exact ⟨rfl, rfl, .inr ⟨j, want, d, hg, hd, rfl⟩⟩
   · cases h
theorem opsS_ok {R : List Nat} {all : List Oper} {K : GSt → Prop} : ∀ (ops : List Oper) (l : List SOp) (st : GSt), slimOps all ops = some l → opsS P R l K st → opsv P R all ops K st
 | [], l, st, h, hk => by simp [slimOps] at h; subst h; rw [opsS] at hk; rw [opsv]; exact hk
 | o :: r, l, st, h, hk => by
  unfold slimOps at h;split at h
  · rename_i x y e1 e2;cases h;obtain ⟨d, op, g⟩ := x;obtain ⟨h1, h2, h3⟩ := slimOp_spec e1;simp only at h1 h2 h3
    subst h1; subst h2;have ih : ∀ st', opsS P R y K st' → opsv P R all r K st' := fun st' => opsS_ok r y st' e2
    unfold opsv;rcases h3 with ⟨hg, rfl⟩ | ⟨j, want, d, hg, hd, rfl⟩
    · rw [opsS_one] at hk;simp only [hg];rw [opS_eq];exact opv_mono (fun g O' hh => ih _ hh) hk
    · rw [opsS_if] at hk;simp only [hg, hd];split at hk
      · rename_i b hb;rw [hb];cases want with
        | true =>
         have hk := gif_iff.1 hk;refine gcase.2 ⟨fun e => ?_, fun e => ih _ (hk.2 e)⟩;rw [opS_eq];exact opv_mono (fun g O' hh => ih _ hh) (hk.1 e)
        | false =>
         have hk := gif_iff.1 hk;refine gcase.2 ⟨fun e => ?_, fun e => ih _ (hk.1 e)⟩;rw [opS_eq];exact opv_mono (fun g O' hh => ih _ hh) (hk.2 e)
      · rename_i v hb;rw [hb];exact ih _ hk
      · exact hk.elim
  · cases h
theorem ordS_ok {R : List Nat} {all : List Oper} {K : GSt → Prop} : ∀ (ord : List (Nat × Nat)) (l : List (SOp × Nat)) (st : GSt), slimOrd all ord = some l → ordS P R l K st → ordv P R all ord K st
 | [], l, st, h, hk => by simp [slimOrd] at h; subst h; rw [ordS] at hk; rw [ordv]; exact hk
 | (i, k) :: r, l, st, h, hk => by
  unfold slimOrd at h;unfold ordv;split at h
  · cases h
  · rename_i o ho;simp only [ho];split at h
    · rename_i x y e1 e2;cases h;obtain ⟨d, op, g⟩ := x;obtain ⟨h1, h2, h3⟩ := slimOp_spec e1;simp only at h1 h2 h3
      subst h1; subst h2;have ih : ∀ st', ordS P R y K st' → ordv P R all r K st' := fun st' => ordS_ok r y st' e2
      rcases h3 with ⟨hg, rfl⟩ | ⟨j, want, d, hg, hd, rfl⟩
      · rw [ordS_one] at hk;simp only [hg];rw [opS_eq];exact opv_mono (fun g O' hh => ⟨hh.1, ih _ hh.2⟩) hk
      · rw [ordS_if] at hk;simp only [hg, hd];split at hk
        · rename_i b hb;rw [hb];cases want with
          | true =>
           have hk := gif_iff.1 hk;refine gcase.2 ⟨fun e => ?_, fun e => ih _ (hk.2 e)⟩;rw [opS_eq];exact opv_mono (fun g O' hh => ⟨hh.1, ih _ hh.2⟩) (hk.1 e)
          | false =>
           have hk := gif_iff.1 hk;refine gcase.2 ⟨fun e => ?_, fun e => ih _ (hk.1 e)⟩;rw [opS_eq];exact opv_mono (fun g O' hh => ⟨hh.1, ih _ hh.2⟩) (hk.2 e)
        · rename_i v hb;rw [hb];exact ih _ hk
        · exact hk.elim
    · cases h
theorem opsS_mono {R : List Nat} {K K' : GSt → Prop} (h : ∀ s, K s → K' s) : ∀ (l : List SOp) (st : GSt), opsS P R l K st → opsS P R l K' st
 | [], st, hk => by rw [opsS] at hk ⊢; exact h _ hk
 | ⟨d, op, none⟩ :: r, st, hk => by
  rw [opsS_one] at hk ⊢;exact opv_mono (fun g O' hh => opsS_mono h r _ hh) hk
 | ⟨d, op, some (s, want)⟩ :: r, st, hk => by
  rw [opsS_if] at hk ⊢;split at hk
  · cases want with
    | true => exact gif_iff.2 ⟨fun e => opv_mono (fun g O' hh => opsS_mono h r _ hh) ((gif_iff.1 hk).1 e), fun e => opsS_mono h r _ ((gif_iff.1 hk).2 e)⟩
    | false => exact gif_iff.2 ⟨fun e => opsS_mono h r _ ((gif_iff.1 hk).1 e), fun e => opv_mono (fun g O' hh => opsS_mono h r _ hh) ((gif_iff.1 hk).2 e)⟩
  · exact opsS_mono h r _ hk
  · exact hk.elim
theorem ordS_mono {R : List Nat} {K K' : GSt → Prop} (h : ∀ s, K s → K' s) : ∀ (l : List (SOp × Nat)) (st : GSt), ordS P R l K st → ordS P R l K' st
 | [], st, hk => by rw [ordS] at hk ⊢; exact h _ hk
 | (⟨d, op, none⟩, k) :: r, st, hk => by
  rw [ordS_one] at hk ⊢;exact opv_mono (fun g O' hh => ⟨hh.1, ordS_mono h r _ hh.2⟩) hk
 | (⟨d, op, some (s, want)⟩, k) :: r, st, hk => by
  rw [ordS_if] at hk ⊢;split at hk
  · cases want with
    | true => exact gif_iff.2 ⟨fun e => opv_mono (fun g O' hh => ⟨hh.1, ordS_mono h r _ hh.2⟩) ((gif_iff.1 hk).1 e), fun e => ordS_mono h r _ ((gif_iff.1 hk).2 e)⟩
    | false => exact gif_iff.2 ⟨fun e => ordS_mono h r _ ((gif_iff.1 hk).1 e), fun e => opv_mono (fun g O' hh => ⟨hh.1, ordS_mono h r _ hh.2⟩) ((gif_iff.1 hk).2 e)⟩
  · exact ordS_mono h r _ hk
  · exact hk.elim
theorem thenQ_mono {N N' : GSt → Prop} {Q Q' : Ex → GSt → Prop} (h1 : ∀ s, N s → N' s) (h2 : ∀ e s, Q e s → Q' e s) : ∀ e s, thenQ N Q e s → thenQ N' Q' e s := by
 intro e s h
 cases e <;> simp only [thenQ] at h ⊢ <;> first | exact h1 _ h | exact h2 _ _ h
theorem blockQ_mono {id : Nat} {Q Q' : Ex → GSt → Prop} (h2 : ∀ e s, Q e s → Q' e s) : ∀ e s, blockQ id Q e s → blockQ id Q' e s := by
 intro e s h
 cases e <;> simp only [blockQ] at h ⊢
 · exact h2 _ _ h
 · split at h
   · rename_i e; rw [if_pos e]; exact h2 _ _ h
   · rename_i e; rw [if_neg e]; exact h2 _ _ h
 · exact h2 _ _ h
theorem vcS_ok {C : Cfg} : ∀ (c : Code) (s : SCode) (Q Q' : Ex → GSt → Prop) (st : GSt), slim C c = some s → (∀ e s, Q e s → Q' e s) → vcS P C.ro s Q st → vc P C c Q' st
 | .skip, s, Q, Q', st, h, hq, hk => by simp only [slim, Option.some.injEq] at h; subst h; rw [vcS] at hk; rw [vc]; exact hq _ _ hk
 | .region id ops draw, s, Q, Q', st, h, hq, hk => by
  unfold slim at h;cases draw with
  | false =>
   rw [vc_ops];simp only at h
   split at h
   · rename_i l e; cases h; rw [vcS] at hk;exact opsS_ok _ _ _ e (opsS_mono (fun s hs => hq _ _ hs) _ _ hk)
   · cases h
  | true =>
   rw [vc_draw];simp only at h
   split at h
   · rename_i l e; cases h; rw [vcS] at hk;exact ordS_ok _ _ _ e (ordS_mono (fun s hs => hq _ _ hs) _ _ hk)
   · cases h
 | .seq x y, s, Q, Q', st, h, hq, hk => by
  unfold slim at h;split at h
  · rename_i a b e1 e2;cases h;rw [vcS] at hk;rw [vc];exact vcS_ok x a _ _ st e1 (thenQ_mono (fun s hs => vcS_ok y b Q Q' s e2 hq hs) hq) hk
  · cases h
 | .cond c x y, s, Q, Q', st, h, hq, hk => by
  unfold slim at h;split at h
  · rename_i a b e1 e2;cases h;rw [vcS] at hk;rw [vc];split at hk
    · rename_i t ht;rw [ht];exact gcase1.2 ⟨fun e => vcS_ok x a Q Q' st e1 hq ((gif_iff.1 hk).1 e), fun e => vcS_ok y b Q Q' st e2 hq ((gif_iff.1 hk).2 e)⟩
    · rename_i ht;rw [ht];exact ⟨vcS_ok x a Q Q' st e1 hq hk.1, vcS_ok y b Q Q' st e2 hq hk.2⟩
    · exact hk.elim
  · cases h
 | .block id x, s, Q, Q', st, h, hq, hk => by
  unfold slim at h;split at h
  · rename_i a e1;cases h;rw [vcS] at hk;rw [vc];exact vcS_ok x a _ _ st e1 (blockQ_mono hq) hk
  · cases h
 | .loop x, s, Q, Q', st, h, hq, hk => by
  unfold slim at h;split at h
  · rename_i a e1;cases h;rw [vcS] at hk;rw [vc];obtain ⟨ι, I, μ, h0, h1⟩ := hk;exact ⟨ι, I, μ, h0, fun i => vcS_ok x a _ _ (I i) e1 (thenQ_mono (fun s hs => hs) hq) (h1 i)⟩
  · cases h
 | .exit n, s, Q, Q', st, h, hq, hk => by simp only [slim, Option.some.injEq] at h; subst h; rw [vcS] at hk; rw [vc]; exact hq _ _ hk
 | .ret, s, Q, Q', st, h, hq, hk => by simp only [slim, Option.some.injEq] at h; subst h; rw [vcS] at hk; rw [vc]; exact hq _ _ hk
 | .rangeFunc .., s, Q, Q', st, h, hq, hk => by simp [slim] at h
 | .goto .., s, Q, Q', st, h, hq, hk => by simp [slim] at h
 | .label .., s, Q, Q', st, h, hq, hk => by simp [slim] at h
 | .scope .., s, Q, Q', st, h, hq, hk => by simp [slim] at h
 | .refuse .., s, Q, Q', st, h, hq, hk => by simp [slim] at h
structure FnS (P : Program) (f : FuncId) (C : Cfg) (n : Nat) (rs : List ResultVar) (s : SCode) : Prop where
 ok : ∃ fn c, P.funcs[f]? = some fn ∧ fn.body = some c ∧ fn.ntmps = n ∧ fn.results.toList = rs ∧ enterable P f = true ∧ codeOk C c = true ∧ slim C c = some s
theorem FnS.mk' {P : Program} {f : FuncId} {fn : Func} {C : Cfg} {n : Nat} {rs : List ResultVar} {s : SCode} (h1 : P.funcs[f]? = some fn) (h2 : fn.body.isSome = true := by kernel_rfl) (h3 : fn.ntmps = n := by kernel_rfl) (h4 : fn.results.toList = rs := by kernel_rfl) (h5 : (fn.name != "runtime.NumGoroutine") = true := by kernel_rfl)
 (h6 : codeOk C (fn.body.getD .skip) = true := by kernel_rfl) (h7 : slim C (fn.body.getD .skip) = some s := by kernel_rfl) : FnS P f C n rs s := by
 obtain ⟨c, hc⟩ := Option.isSome_iff_exists.1 h2
 refine ⟨fn, c, h1, hc, h3, h4, ?_, by simpa [hc] using h6, by simpa [hc] using h7⟩
 unfold enterable
 rw [h1]
 simp only [h2, h5, Bool.and_self]
theorem FnS.calls (hmix : P.follows .mixedOrders = true) {f : FuncId} {C : Cfg} {n : Nat} {rs : List ResultVar} {s : SCode} (h : FnS P f C n rs s) {args : List GVal} {O : List GObj} {K : GVal → List GObj → Prop} (ha : args.length ≤ n)
 (hk : vcS P C.ro s (retQ P rs K) (gstart n args O)) : GCalls P f args O K := by
 obtain ⟨fn, c, h1, h2, h3, h4, h5, h6, h7⟩ := h.ok
 subst h4
 exact gcalls_of_vc hmix C h1 h2 h3 rfl h5 ha h6 (vcS_ok c s _ _ _ h7 (fun _ _ hh => hh) hk)
theorem FnS.pure (hmix : P.follows .mixedOrders = true) {f : FuncId} {C : Cfg} {n : Nat} {rs : List ResultVar} {s : SCode} (h : FnS P f C n rs s) {args : List GVal} {r : GVal} (ha : args.length ≤ n)
 (hk : vcS P C.ro s (retQ P rs (fun g O' => leA g r)) (gstart n args [])) : GPure P f args r :=
 GCalls.into ((h.calls hmix ha hk).mono fun g O' h => GInto.leA h ⟨rfl, rfl⟩)
end
end Gv
namespace Gv
open Go
theorem op_move (P : Program) (R : List Nat) (st : GSt) (d : Option Nat) (K : GVal → List GObj → Prop) (x : Operand) : opS P R st d (.move x) K = K (st.ev x) st.o := by exact id rfl
theorem op_assign (P : Program) (R : List Nat) (st : GSt) (d : Option Nat) (K : GVal → List GObj → Prop) (x : Operand) : opS P R st d (.assign x) K = K (st.ev x) st.o := by exact id rfl
theorem op_binOp (P : Program) (R : List Nat) (st : GSt) (d : Option Nat) (K : GVal → List GObj → Prop) (o : BinOp) (t u : TypeId) (x y : Operand) : opS P R st d (.binOp o t x y u) K = binN P o t y (st.ev x) (st.ev y) (fun g => K g st.o) := by exact id rfl
theorem binN_tmp (P : Program) (o : BinOp) (t : TypeId) (n : Nat) (a b : GVal) (K : GVal → Prop) : binN P o t (.tmp n) a b K = binV P o t a b K := rfl
theorem binN_ci (P : Program) (o : BinOp) (t : TypeId) (k : IntKind) (n : Int) (a b : GVal) (K : GVal → Prop) : binN P o t (.const (.int k n)) a b K = binV P o t a b K := rfl
theorem binN_cb (P : Program) (o : BinOp) (t : TypeId) (c : Bool) (a b : GVal) (K : GVal → Prop) : binN P o t (.const (.bool c)) a b K = binV P o t a b K := rfl
theorem binN_cs (P : Program) (o : BinOp) (t : TypeId) (s : ByteArray) (a b : GVal) (K : GVal → Prop) : binN P o t (.const (.string s)) a b K = binV P o t a b K := rfl
theorem binN_cl (P : Program) (o : BinOp) (t : TypeId) (p : Option Addr) (m n : Nat) (a b : GVal) (K : GVal → Prop) : binN P o t (.const (.slice p m n)) a b K = binV P o t a b K := rfl
theorem binN_cp (P : Program) (o : BinOp) (t : TypeId) (p : Option Addr) (a b : GVal) (K : GVal → Prop) : binN P o t (.const (.pointer p)) a b K = binV P o t a b K := rfl
theorem binN_cf (P : Program) (o : BinOp) (t : TypeId) (a b : GVal) (K : GVal → Prop) : binN P o t (.const .nilFunc) a b K = binV P o t a b K := rfl
theorem binN_ni (P : Program) (o : BinOp) (t : TypeId) (u : TypeId) (v b : GVal) (K : GVal → Prop) : binN P o t (.const .nilIface) (.iface u v) b K = binV P o t (.iface u v) b K := rfl
theorem binN_eq (P : Program) (t : TypeId) (b : GVal) (K : GVal → Prop) : binN P .eql t (.const .nilIface) (.lit .nilIface) b K = ((match P.underlying t with | some (.interface _) => true | _ => false) = true ∧ K (.bool true)) := rfl
theorem binN_ne (P : Program) (t : TypeId) (b : GVal) (K : GVal → Prop) : binN P .neq t (.const .nilIface) (.lit .nilIface) b K = ((match P.underlying t with | some (.interface _) => true | _ => false) = true ∧ K (.bool false)) := rfl
theorem op_unOp (P : Program) (R : List Nat) (st : GSt) (d : Option Nat) (K : GVal → List GObj → Prop) (o : UnOp) (t : TypeId) (x : Operand) : opS P R st d (.unOp o t x) K = unV o (st.ev x) (fun g => K g st.o) := by exact id rfl
theorem op_convert (P : Program) (R : List Nat) (st : GSt) (d : Option Nat) (K : GVal → List GObj → Prop) (s t : TypeId) (x : Operand) : opS P R st d (.convert s t x) K = convV P s t (st.ev x) (fun g => K g st.o) := by exact id rfl
theorem op_load (P : Program) (R : List Nat) (st : GSt) (d : Option Nat) (K : GVal → List GObj → Prop) (t : TypeId) (x : Operand) : opS P R st d (.load t x) K = loadV P t (st.ev x) st.o (fun g => K g st.o) := by exact id rfl
theorem op_store (P : Program) (R : List Nat) (st : GSt) (d : Option Nat) (K : GVal → List GObj → Prop) (t : TypeId) (x y : Operand) : opS P R st d (.store t x y) K = storeV P t (st.ev x) (st.ev y) st.o (fun O' => K .any O') := by exact id rfl
theorem op_fieldAddr (P : Program) (R : List Nat) (st : GSt) (d : Option Nat) (K : GVal → List GObj → Prop) (s : TypeId) (x : Operand) (f : Nat) : opS P R st d (.fieldAddr s x f) K = fieldAddrV P s (st.ev x) f (fun g => K g st.o) := by exact id rfl
theorem op_field (P : Program) (R : List Nat) (st : GSt) (d : Option Nat) (K : GVal → List GObj → Prop) (s : TypeId) (x : Operand) (f : Nat) : opS P R st d (.field s x f) K = fieldV P s (st.ev x) f (fun g => K g st.o) := by exact id rfl
theorem op_indexAddr (P : Program) (R : List Nat) (st : GSt) (d : Option Nat) (K : GVal → List GObj → Prop) (t : TypeId) (x i : Operand) : opS P R st d (.indexAddr t x i) K = indexAddrV P t (st.ev x) (st.ev i) st.o (fun g => K g st.o) := by exact id rfl
theorem op_index (P : Program) (R : List Nat) (st : GSt) (d : Option Nat) (K : GVal → List GObj → Prop) (t : TypeId) (x i : Operand) : opS P R st d (.index t x i) K = indexV P t (st.ev x) (st.ev i) (fun g => K g st.o) := by exact id rfl
theorem op_extract (P : Program) (R : List Nat) (st : GSt) (d : Option Nat) (K : GVal → List GObj → Prop) (x : Operand) (i : Nat) : opS P R st d (.extract x i) K = extractV (st.ev x) i (fun g => K g st.o) := by exact id rfl
theorem op_alloc (P : Program) (R : List Nat) (st : GSt) (d : Option Nat) (K : GVal → List GObj → Prop) (t : TypeId) : opS P R st d (.alloc t) K = allocV P t st.o K := by exact id rfl
theorem op_lookup (P : Program) (R : List Nat) (st : GSt) (d : Option Nat) (K : GVal → List GObj → Prop) (t : TypeId) (x y : Operand) (ok : Bool) : opS P R st d (.lookup t x y ok) K = lookupV P t (st.ev x) (st.ev y) ok st.o (fun g => K g st.o) := by exact id rfl
theorem op_mapUpdate (P : Program) (R : List Nat) (st : GSt) (d : Option Nat) (K : GVal → List GObj → Prop) (t : TypeId) (x y z : Operand) : opS P R st d (.mapUpdate t x y z) K = mapUpdateV P t (st.ev x) (st.ev y) (st.ev z) st.o (fun O' => K .any O') := by exact id rfl
theorem op_insert (P : Program) (R : List Nat) (st : GSt) (d : Option Nat) (K : GVal → List GObj → Prop) (t : TypeId) (x y z : Operand) : opS P R st d (.insert t x y z) K = mapUpdateV P t (st.ev x) (st.ev y) (st.ev z) st.o (fun O' => K .any O') := by exact id rfl
theorem op_makeMap (P : Program) (R : List Nat) (st : GSt) (d : Option Nat) (K : GVal → List GObj → Prop) (t : TypeId) : opS P R st d (.makeMap t none) K = makeMapV st.o K := by exact id rfl
theorem op_box (P : Program) (R : List Nat) (st : GSt) (d : Nat) (K : GVal → List GObj → Prop) (t : TypeId) (x : Operand) : opS P R st (some d) (.box t x) K = boxV (R.contains d) (st.ev x) st.o K := by exact id rfl
theorem op_build (P : Program) (R : List Nat) (st : GSt) (d : Option Nat) (K : GVal → List GObj → Prop) (t : TypeId) (ps : List (Nat × Operand)) : opS P R st d (.build t ps.toArray) K = buildV P t (ps.map fun p => (p.1, st.ev p.2)) (fun g => K g st.o) := by exact id rfl
theorem op_buildSlice (P : Program) (R : List Nat) (st : GSt) (d : Option Nat) (K : GVal → List GObj → Prop) (t : TypeId) (n : Nat) (ps : List (Nat × Operand)) : opS P R st d (.buildSlice t n ps.toArray) K = buildSliceV P t n (ps.map fun p => (p.1, st.ev p.2)) (fun g => K g st.o) := by exact id rfl
theorem op_slice (P : Program) (R : List Nat) (st : GSt) (d : Option Nat) (K : GVal → List GObj → Prop) (t : TypeId) (x : Operand) (lo hi mx : Option Operand) : opS P R st d (.slice t x lo hi mx) K = sliceV P t (st.ev x) (optV st lo) (optV st hi) (optV st mx) st.o (fun g => K g st.o) := by exact id rfl
theorem op_nilCheck (P : Program) (R : List Nat) (st : GSt) (d : Option Nat) (K : GVal → List GObj → Prop) (x : Operand) : opS P R st d (.nilCheck x) K = nilV (st.ev x) (fun g => K g st.o) := by exact id rfl
theorem op_makeInterface (P : Program) (R : List Nat) (st : GSt) (d : Option Nat) (K : GVal → List GObj → Prop) (t : TypeId) (x : Operand) : opS P R st d (.makeInterface t x) K = ifaceV P t (st.ev x) (fun g => K g st.o) := by exact id rfl
theorem op_makeFunc (P : Program) (R : List Nat) (st : GSt) (d : Option Nat) (K : GVal → List GObj → Prop) (fn : Fn) (fs cs : List Operand) : opS P R st d (.makeFunc fn fs.toArray cs.toArray) K = K (.func fn (fs.map st.ev) (cs.map st.ev)) st.o := by exact id rfl
theorem op_pick (P : Program) (R : List Nat) (st : GSt) (d : Option Nat) (K : GVal → List GObj → Prop) (c a b : Operand) : opS P R st d (.pick c a b) K = match st.ev c with | .bool t => gif t (K (st.ev a) st.o) (K (st.ev b) st.o) | _ => False := by exact id rfl
theorem op_len (P : Program) (R : List Nat) (st : GSt) (d : Option Nat) (K : GVal → List GObj → Prop) (t : TypeId) (x : Operand) : opS P R st d (.call ⟨.builtin .len, #[x], #[t]⟩) K = lenV P t (st.ev x) st.o (fun g => K g st.o) := by exact id rfl
theorem op_cap (P : Program) (R : List Nat) (st : GSt) (d : Option Nat) (K : GVal → List GObj → Prop) (t : TypeId) (x : Operand) : opS P R st d (.call ⟨.builtin .cap, #[x], #[t]⟩) K = capV P t (st.ev x) (fun g => K g st.o) := by exact id rfl
theorem op_min (P : Program) (R : List Nat) (st : GSt) (d : Option Nat) (K : GVal → List GObj → Prop) (ts : Array TypeId) (x y : Operand) : opS P R st d (.call ⟨.builtin .min, #[x, y], ts⟩) K = minV false [st.ev x, st.ev y] (fun g => K g st.o) := by exact id rfl
theorem op_max (P : Program) (R : List Nat) (st : GSt) (d : Option Nat) (K : GVal → List GObj → Prop) (ts : Array TypeId) (x y : Operand) : opS P R st d (.call ⟨.builtin .max, #[x, y], ts⟩) K = minV true [st.ev x, st.ev y] (fun g => K g st.o) := by exact id rfl
theorem op_delete (P : Program) (R : List Nat) (st : GSt) (d : Option Nat) (K : GVal → List GObj → Prop) (t u : TypeId) (x y : Operand) : opS P R st d (.call ⟨.builtin .delete, #[x, y], #[t, u]⟩) K = deleteV P t (st.ev x) (st.ev y) st.o (fun O' => K (.tuple []) O') := by exact id rfl
theorem op_clear (P : Program) (R : List Nat) (st : GSt) (d : Option Nat) (K : GVal → List GObj → Prop) (t : TypeId) (x : Operand) : opS P R st d (.call ⟨.builtin .clear, #[x], #[t]⟩) K = clearV P t (st.ev x) st.o (fun O' => K (.tuple []) O') := by exact id rfl
theorem op_append (P : Program) (R : List Nat) (st : GSt) (d : Nat) (K : GVal → List GObj → Prop) (t u : TypeId) (x y : Operand) : opS P R st (some d) (.call ⟨.builtin .append, #[x, y], #[t, u]⟩) K = appendV P (R.contains d) t u (st.ev x) (st.ev y) st.o K := by exact id rfl
theorem op_func (P : Program) (R : List Nat) (st : GSt) (d : Option Nat) (K : GVal → List GObj → Prop) (f : FuncId) (as : List Operand) (ts : Array TypeId) : opS P R st d (.call ⟨.value (.func f), as.toArray, ts⟩) K = GCalls P f (as.map st.ev) st.o K := by
 show GCalls P f ([] ++ as.map st.ev ++ []) st.o K = _
 rw [List.nil_append, List.append_nil]
theorem op_closure (P : Program) (R : List Nat) (st : GSt) (d : Option Nat) (K : GVal → List GObj → Prop) (t : Nat) (as : List Operand) (ts : Array TypeId) : opS P R st d (.call ⟨.value (.tmp t), as.toArray, ts⟩) K = match st.ev (.tmp t) with | .func (.func n) first caps => GCalls P n (first ++ as.map st.ev ++ caps) st.o K | _ => False := by exact id rfl
theorem ev_tmp (s : List GVal) (o : List GObj) (n : Nat) : (⟨s, o⟩ : GSt).ev (.tmp n) = sget s n := by exact id rfl
theorem ev_const (st : GSt) (v : Value) : st.ev (.const v) = .ofConst v := by exact id rfl
theorem ev_func (st : GSt) (f : FuncId) : st.ev (.func f) = .func (.func f) [] [] := by exact id rfl
theorem put_some (s : List GVal) (o : List GObj) (d : Nat) (g : GVal) (O' : List GObj) : GSt.put ⟨s, o⟩ (some d) g O' = ⟨s.set d g, O'⟩ := by exact id rfl
theorem put_none (s : List GVal) (o : List GObj) (g : GVal) (O' : List GObj) : GSt.put ⟨s, o⟩ none g O' = ⟨s, O'⟩ := by exact id rfl
theorem setS_mk (s : List GVal) (o : List GObj) (d : Nat) (g : GVal) : GSt.setS ⟨s, o⟩ d g = ⟨s.set d g, o⟩ := by exact id rfl
theorem ibin_add (P : Program) (t : TypeId) (k : IntKind) (a b : Int) (K : GVal → Prop) : binV P .add t (.int k a) (.int k b) K = K (.int k (norm k (a + b))) := by simp only [binV, true_and]
theorem ibin_sub (P : Program) (t : TypeId) (k : IntKind) (a b : Int) (K : GVal → Prop) : binV P .sub t (.int k a) (.int k b) K = K (.int k (norm k (a - b))) := by simp only [binV, true_and]
theorem ibin_mul (P : Program) (t : TypeId) (k : IntKind) (a b : Int) (K : GVal → Prop) : binV P .mul t (.int k a) (.int k b) K = K (.int k (norm k (a * b))) := by simp only [binV, true_and]
theorem ibin_quo (P : Program) (t : TypeId) (k : IntKind) (a b : Int) (K : GVal → Prop) : binV P .quo t (.int k a) (.int k b) K = (b ≠ 0 ∧ K (.int k (norm k (a.tdiv b)))) := by simp only [binV, true_and]
theorem ibin_rem (P : Program) (t : TypeId) (k : IntKind) (a b : Int) (K : GVal → Prop) : binV P .rem t (.int k a) (.int k b) K = (b ≠ 0 ∧ K (.int k (a.tmod b))) := by simp only [binV, true_and]
theorem ibin_eql (P : Program) (t : TypeId) (k : IntKind) (a b : Int) (K : GVal → Prop) : binV P .eql t (.int k a) (.int k b) K = K (.bool (a == b)) := by simp only [binV, true_and]
theorem ibin_neq (P : Program) (t : TypeId) (k : IntKind) (a b : Int) (K : GVal → Prop) : binV P .neq t (.int k a) (.int k b) K = K (.bool (a != b)) := by simp only [binV, true_and]
theorem ibin_lss (P : Program) (t : TypeId) (k : IntKind) (a b : Int) (K : GVal → Prop) : binV P .lss t (.int k a) (.int k b) K = K (.bool (decide (a < b))) := by simp only [binV, true_and]
theorem ibin_leq (P : Program) (t : TypeId) (k : IntKind) (a b : Int) (K : GVal → Prop) : binV P .leq t (.int k a) (.int k b) K = K (.bool (decide (a ≤ b))) := by simp only [binV, true_and]
theorem ibin_gtr (P : Program) (t : TypeId) (k : IntKind) (a b : Int) (K : GVal → Prop) : binV P .gtr t (.int k a) (.int k b) K = K (.bool (decide (b < a))) := by simp only [binV, true_and]
theorem ibin_geq (P : Program) (t : TypeId) (k : IntKind) (a b : Int) (K : GVal → Prop) : binV P .geq t (.int k a) (.int k b) K = K (.bool (decide (b ≤ a))) := by simp only [binV, true_and]
@[congr] theorem cg_binV {P : Program} {K : GVal → Prop} {op : BinOp} {t : TypeId} {x y : GVal} {x' : GVal} {y' : GVal} (h0 : x = x') (h1 : y = y') : binV P op t x y K = binV P op t x' y' K := by
 subst h0; subst h1; rfl
@[congr] theorem cg_unV {K : GVal → Prop} {op : UnOp} {x : GVal} {x' : GVal} (h0 : x = x') : unV op x K = unV op x' K := by
 subst h0; rfl
@[congr] theorem cg_convV {P : Program} {K : GVal → Prop} {s t : TypeId} {x : GVal} {x' : GVal} (h0 : x = x') : convV P s t x K = convV P s t x' K := by
 subst h0; rfl
@[congr] theorem cg_loadV {P : Program} {K : GVal → Prop} {t : TypeId} {g : GVal} {O : List GObj} {g' : GVal} {O' : List GObj} (h0 : g = g') (h1 : O = O') : loadV P t g O K = loadV P t g' O' K := by
 subst h0; subst h1; rfl
@[congr] theorem cg_storeV {P : Program} {K : List GObj → Prop} {t : TypeId} {g v : GVal} {O : List GObj} {g' : GVal} {v' : GVal} {O' : List GObj} (h0 : g = g') (h1 : v = v') (h2 : O = O') : storeV P t g v O K = storeV P t g' v' O' K := by
 subst h0; subst h1; subst h2; rfl
@[congr] theorem cg_fieldAddrV {P : Program} {K : GVal → Prop} {s : TypeId} {g : GVal} {f : Nat} {g' : GVal} (h0 : g = g') : fieldAddrV P s g f K = fieldAddrV P s g' f K := by
 subst h0; rfl
@[congr] theorem cg_fieldV {P : Program} {K : GVal → Prop} {s : TypeId} {g : GVal} {f : Nat} {g' : GVal} (h0 : g = g') : fieldV P s g f K = fieldV P s g' f K := by
 subst h0; rfl
@[congr] theorem cg_indexAddrV {P : Program} {K : GVal → Prop} {t : TypeId} {g i : GVal} {O : List GObj} {g' : GVal} {i' : GVal} {O' : List GObj} (h0 : g = g') (h1 : i = i') (h2 : O = O') : indexAddrV P t g i O K = indexAddrV P t g' i' O' K := by
 subst h0; subst h1; subst h2; rfl
@[congr] theorem cg_indexV {P : Program} {K : GVal → Prop} {t : TypeId} {g i : GVal} {g' : GVal} {i' : GVal} (h0 : g = g') (h1 : i = i') : indexV P t g i K = indexV P t g' i' K := by
 subst h0; subst h1; rfl
@[congr] theorem cg_extractV {K : GVal → Prop} {g : GVal} {n : Nat} {g' : GVal} (h0 : g = g') : extractV g n K = extractV g' n K := by
 subst h0; rfl
@[congr] theorem cg_allocV {P : Program} {K : GVal → List GObj → Prop} {t : TypeId} {O : List GObj} {O' : List GObj} (h0 : O = O') : allocV P t O K = allocV P t O' K := by
 subst h0; rfl
@[congr] theorem cg_makeSliceV {P : Program} {K : GVal → List GObj → Prop} {t : TypeId} {g i : GVal} {O : List GObj} {g' : GVal} {i' : GVal} {O' : List GObj} (h0 : g = g') (h1 : i = i') (h2 : O = O') : makeSliceV P t g i O K = makeSliceV P t g' i' O' K := by
 subst h0; subst h1; subst h2; rfl
@[congr] theorem cg_lookupV {P : Program} {K : GVal → Prop} {t : TypeId} {m x : GVal} {ok : Bool} {O : List GObj} {m' : GVal} {x' : GVal} {O' : List GObj} (h0 : m = m') (h1 : x = x') (h2 : O = O') : lookupV P t m x ok O K = lookupV P t m' x' ok O' K := by
 subst h0; subst h1; subst h2; rfl
@[congr] theorem cg_mapUpdateV {P : Program} {K : List GObj → Prop} {t : TypeId} {m x v : GVal} {O : List GObj} {m' : GVal} {x' : GVal} {v' : GVal} {O' : List GObj} (h0 : m = m') (h1 : x = x') (h2 : v = v') (h3 : O = O') : mapUpdateV P t m x v O K = mapUpdateV P t m' x' v' O' K := by
 subst h0; subst h1; subst h2; subst h3; rfl
@[congr] theorem cg_deleteV {P : Program} {K : List GObj → Prop} {t : TypeId} {m x : GVal} {O : List GObj} {m' : GVal} {x' : GVal} {O' : List GObj} (h0 : m = m') (h1 : x = x') (h2 : O = O') : deleteV P t m x O K = deleteV P t m' x' O' K := by
 subst h0; subst h1; subst h2; rfl
@[congr] theorem cg_clearV {P : Program} {K : List GObj → Prop} {t : TypeId} {x : GVal} {O : List GObj} {x' : GVal} {O' : List GObj} (h1 : x = x') (h2 : O = O') : clearV P t x O K = clearV P t x' O' K := by
 subst h1; subst h2; rfl
@[congr] theorem cg_makeMapV {K : GVal → List GObj → Prop} {O : List GObj} {O' : List GObj} (h0 : O = O') : makeMapV O K = makeMapV O' K := by
 subst h0; rfl
@[congr] theorem cg_boxV {K : GVal → List GObj → Prop} {b : Bool} {g : GVal} {O : List GObj} {b' : Bool} {g' : GVal} {O' : List GObj} (h0 : b = b') (h1 : g = g') (h2 : O = O') : boxV b g O K = boxV b' g' O' K := by
 subst h0; subst h1; subst h2; rfl
@[congr] theorem cg_buildV {P : Program} {K : GVal → Prop} {t : TypeId} {gs : List (Nat × GVal)} {gs' : List (Nat × GVal)} (h0 : gs = gs') : buildV P t gs K = buildV P t gs' K := by
 subst h0; rfl
@[congr] theorem cg_buildSliceV {P : Program} {K : GVal → Prop} {t : TypeId} {n : Nat} {gs : List (Nat × GVal)} {gs' : List (Nat × GVal)} (h0 : gs = gs') : buildSliceV P t n gs K = buildSliceV P t n gs' K := by
 subst h0; rfl
@[congr] theorem cg_sliceV {P : Program} {K : GVal → Prop} {t : TypeId} {g : GVal} {lo hi mx : Option GVal} {O : List GObj} {g' : GVal} {lo' : Option GVal} {hi' : Option GVal} {mx' : Option GVal} {O' : List GObj} (h0 : g = g') (h1 : lo = lo') (h2 : hi = hi') (h3 : mx = mx') (h4 : O = O') : sliceV P t g lo hi mx O K = sliceV P t g' lo' hi' mx' O' K := by
 subst h0; subst h1; subst h2; subst h3; subst h4; rfl
@[congr] theorem cg_nilV {K : GVal → Prop} {g : GVal} {g' : GVal} (h0 : g = g') : nilV g K = nilV g' K := by
 subst h0; rfl
@[congr] theorem cg_ifaceV {P : Program} {K : GVal → Prop} {t : TypeId} {g : GVal} {g' : GVal} (h0 : g = g') : ifaceV P t g K = ifaceV P t g' K := by
 subst h0; rfl
@[congr] theorem cg_lenV {P : Program} {K : GVal → Prop} {t : TypeId} {g : GVal} {O : List GObj} {g' : GVal} {O' : List GObj} (h0 : g = g') (h1 : O = O') : lenV P t g O K = lenV P t g' O' K := by
 subst h0; subst h1; rfl
@[congr] theorem cg_capV {P : Program} {K : GVal → Prop} {t : TypeId} {g : GVal} {g' : GVal} (h0 : g = g') : capV P t g K = capV P t g' K := by
 subst h0; rfl
@[congr] theorem cg_minV {K : GVal → Prop} {b : Bool} {xs : List GVal} {xs' : List GVal} (h0 : xs = xs') : minV b xs K = minV b xs' K := by
 subst h0; rfl
@[congr] theorem cg_appendV {P : Program} {K : GVal → List GObj → Prop} {b : Bool} {t u : TypeId} {x y : GVal} {O : List GObj} {b' : Bool} {x' : GVal} {y' : GVal} {O' : List GObj} (h0 : b = b') (h1 : x = x') (h2 : y = y') (h3 : O = O') : appendV P b t u x y O K = appendV P b' t u x' y' O' K := by
 subst h0; subst h1; subst h2; subst h3; rfl
@[congr] theorem cg_opS {P : Program} {R : List Nat} {K : GVal → List GObj → Prop} {d : Option Nat} {op : Op} {st : GSt} {st' : GSt} (h0 : st = st') : opS P R st d op K = opS P R st' d op K := by
 subst h0; rfl
@[congr] theorem cg_opsS {P : Program} {R : List Nat} {K : GSt → Prop} {l : List SOp} {st : GSt} {st' : GSt} (h0 : st = st') : opsS P R l K st = opsS P R l K st' := by
 subst h0; rfl
@[congr] theorem cg_ordS {P : Program} {R : List Nat} {K : GSt → Prop} {l : List (SOp × Nat)} {st : GSt} {st' : GSt} (h0 : st = st') : ordS P R l K st = ordS P R l K st' := by
 subst h0; rfl
@[congr] theorem cg_vcS {P : Program} {R : List Nat} {Q : Ex → GSt → Prop} {s : SCode} {st : GSt} {st' : GSt} (h0 : st = st') : vcS P R s Q st = vcS P R s Q st' := by
 subst h0; rfl
@[congr] theorem cg_loop {P : Program} {R : List Nat} {Q : Ex → GSt → Prop} {s : SCode} {st : GSt} {st' : GSt} (h0 : st = st') : vcSLoop P R s Q st = vcSLoop P R s Q st' := by
 subst h0; rfl
@[congr] theorem cg_gif {p q : Prop} {b : Bool} {b' : Bool} (h0 : b = b') : gif b p q = gif b' p q := by
 subst h0; rfl
@[congr] theorem cg_GCalls {P : Program} {f : FuncId} {K : GVal → List GObj → Prop} {as : List GVal} {O : List GObj} {as' : List GVal} {O' : List GObj} (h0 : as = as') (h1 : O = O') : GCalls P f as O K = GCalls P f as' O' K := by
 subst h0; subst h1; rfl
@[congr] theorem cg_retQ {P : Program} {rs : List ResultVar} {K : GVal → List GObj → Prop} {e : Ex} {st : GSt} {st' : GSt} (h0 : st = st') : retQ P rs K e st = retQ P rs K e st' := by
 subst h0; rfl
@[congr] theorem cg_thenQ {N : GSt → Prop} {Q : Ex → GSt → Prop} {e : Ex} {st : GSt} {st' : GSt} (h0 : st = st') : thenQ N Q e st = thenQ N Q e st' := by
 subst h0; rfl
@[congr] theorem cg_blockQ {n : Nat} {Q : Ex → GSt → Prop} {e : Ex} {st : GSt} {st' : GSt} (h0 : st = st') : blockQ n Q e st = blockQ n Q e st' := by
 subst h0; rfl
class Hold (α : Type) where
 val : α
def GCallsI (P : Program) (f : FuncId) (as : List GVal) (O : List GObj) [k : Hold (GVal → List GObj → Prop)] : Prop := GCalls P f as O k.val
def vcSLoopI (P : Program) (R : List Nat) (st : GSt) [a : Hold SCode] [q : Hold (Ex → GSt → Prop)] : Prop := vcSLoop P R a.val q.val st
theorem op_funcI (P : Program) (R : List Nat) (st : GSt) (d : Option Nat) (K : GVal → List GObj → Prop) (f : FuncId) (as : List Operand) (ts : Array TypeId) : opS P R st d (.call ⟨.value (.func f), as.toArray, ts⟩) K = @GCallsI P f (as.map st.ev) st.o ⟨K⟩ := op_func P R st d K f as ts
theorem vcS_loopI (P : Program) (R : List Nat) (Q : Ex → GSt → Prop) (st : GSt) (a : SCode) : vcS P R (.loop a) Q st = @vcSLoopI P R st ⟨a⟩ ⟨Q⟩ := vcS_loop P R Q st a
theorem op_closureI (P : Program) (R : List Nat) (st : GSt) (d : Option Nat) (K : GVal → List GObj → Prop) (t : Nat) (as : List Operand) (ts : Array TypeId) : opS P R st d (.call ⟨.value (.tmp t), as.toArray, ts⟩) K = match st.ev (.tmp t) with | .func (.func n) first caps => @GCallsI P n (first ++ as.map st.ev ++ caps) st.o ⟨K⟩ | _ => False := op_closure P R st d K t as ts
theorem hold_mk {α : Type} (x : α) : (Hold.mk x).val = x := rfl
section
variable {st : GSt} {N : GSt → Prop}
theorem Into.row (i sz : Nat) {tg : Tag} (hx : sget st.s i = .slice [] tg) (htg : tg.cap = .full) (h : stamp st.o fun t => Into ⟨st.s.set i (.own st.o.length t 0 0), tickO st.o ++ [.row t sz []]⟩ N) : Into st N := by
 intro E a w hs ha
 obtain ⟨t, hk, ht, hnx, hs, hkeep⟩ := hs.stamp h
 rw [← tickO_len st.o] at hk
 obtain ⟨h1, h2⟩ := hs.objNil (.row t sz []) (l := ⟨none, 0, sz, 0⟩) ht hnx rfl ⟨_, Env.addLoc_self _ _ _, rfl, by simp, rfl⟩ (by simp [GObj.blk, Env.addLoc_self])
 have ha' : SlotsR (E.addLoc t ⟨none, 0, sz, 0⟩) a (st.s.set i (.own (tickO st.o).length t 0 0)) := by
  refine ⟨by simp [ha.size], ha.defers, fun k g hg => ?_⟩;rw [List.getElem?_set] at hg;by_cases hk : i = k
  · subst hk;rw [if_pos rfl] at hg;split at hg
    · rename_i hlt;simp only [Option.some.injEq] at hg;subst hg;have := ha.at_ i _ (getD_of (d := GVal.any) hlt);have hx' : st.s.getD i .any = .slice [] tg := hx;rw [hx'] at this
      revert this
      generalize a.tmps.getD i undef = tv;intro this;cases this with
      | slice a len cap xs tag sz c hlen hcap hsz ha hc htag =>
       have htag := htag.cap hcap;rw [htg] at htag;have h0 : len = 0 := by simpa using hlen
       have h1 : cap = 0 := by rw [← h0]; exact htag
       subst h0;exact .own a 0 cap _ t 0 _ (Env.addLoc_self _ _ _) (Nat.zero_le _) (.inl h1)
    · cases hg
  · rw [if_neg hk] at hg;exact (ha.at_ k g hg).mono h2.ext
 obtain ⟨st', E', q1, q2, q3, q4⟩ := hk _ a w h1 ha'
 exact ⟨st', E', q1, q2, (hkeep.trans h2).trans q3, q4⟩
end
theorem GInto.frzA {g g' r : GVal} {n : Nat} {O : List GObj} {N : GVal → List GObj → Prop} (hg : Gv.frz O n g = some g') (hl : Gv.leA g' r) (h : N r []) : GInto g O N := fun E v w hs hv => by
 obtain ⟨h1, h2⟩ := hs.frz
 exact ⟨r, [], _, h, h1, h2, hl.sound (frz_sound hs n v g g' hv hg)⟩
def frzTo (r : GVal) (g : GVal) (O' : List GObj) : Prop := ∃ n g', Gv.frz O' n g = some g' ∧ Gv.leA g' r
theorem GCalls.toPure {P : Program} {f : FuncId} {args : List GVal} {r : GVal} (h : GCalls P f args [] (frzTo r)) : GPure P f args r :=
 (h.mono fun g O' ⟨n, g', h1, h2⟩ => GInto.frzA (N := fun g O' => g = r ∧ O' = []) h1 h2 ⟨rfl, rfl⟩).into
theorem FnS.pureF {P : Program} (hmix : P.follows .mixedOrders = true) {f : FuncId} {C : Cfg} {n : Nat} {rs : List ResultVar} {s : SCode} (h : FnS P f C n rs s) {args : List GVal} {r : GVal} (ha : args.length ≤ n)
 (hk : vcS P C.ro s (retQ P rs (frzTo r)) (gstart n args [])) : GPure P f args r := GCalls.toPure (h.calls hmix ha hk)
theorem frzLL_same {f : GVal → Option GVal} : ∀ {xs : List (List GVal)}, (∀ x ∈ xs, frzL f x = some x) → frzLL f xs = some xs
 | [], _ => rfl
 | x :: xs, h => by rw [frzLL, h x (by simp), frzLL_same fun y hy => h y (by simp [hy])]
theorem frz_ints (O : List GObj) (n : Nat) (l : List Int) : frzLL (Gv.frz O (n + 1)) (ints l) = some (ints l) :=
 frzLL_same fun x hx => by obtain ⟨i, _, rfl⟩ := List.mem_map.1 hx; simp [frzL, Gv.frz]
theorem frz_intsS (O : List GObj) (n : Nat) (l : List Int) (t : Tag) : Gv.frz O (n + 2) (.slice (ints l) t) = some (.slice (ints l) t.frz) := by
 rw [Gv.frz, frz_ints]
theorem frz_own {O : List GObj} {n o st len sz : Nat} {xs : List (List GVal)} (hO : O[o]? = some (.row st sz xs)) (hl : len = xs.length) (h : frzLL (Gv.frz O n) xs = some xs) : Gv.frz O (n + 1) (.own o st 0 len) = some (.slice xs .none) := by
 subst hl
 rw [Gv.frz, hO]
 simp only [true_and, Nat.zero_add, Nat.le_refl, if_true, List.drop_zero, List.take_length, h]
theorem HSim.cells {E : Env} {O : List GObj} {w : World} (h : HSim E O w) {i st sz : Nat} {xs ys : List (List GVal)} (hO : O[i]? = some (.row st sz xs)) (hlen : ys.length = xs.length) (hsz : ∀ y ∈ ys, y.length = sz)
 (hc : ∀ (j : Nat) g', ys.flatten[j]? = some g' → ∃ g, xs.flatten[j]? = some g ∧ ∀ v, VR E v g → VR E v g') :
 HSim E (O.set i (.row st sz ys)) w ∧ Keep E O w E (O.set i (.row st sz ys)) w := by
 have hi : i < O.length := (List.getElem?_eq_some_iff.1 hO).1
 have get : ∀ (k : Nat) x, (O.set i (.row st sz ys))[k]? = some x → (k = i ∧ x = .row st sz ys) ∨ O[k]? = some x := by
  intro k x hx;rw [List.getElem?_set] at hx;by_cases e : i = k
  · rw [if_pos e] at hx;rw [if_pos hi] at hx;simp only [Option.some.injEq] at hx; exact .inl ⟨e.symm, hx.symm⟩
  · rw [if_neg e] at hx; exact .inr hx
 have blk : ∀ (k : Nat) x, (O.set i (.row st sz ys))[k]? = some x → ∃ y, O[k]? = some y ∧ x.blk E = y.blk E := by
  intro k x hx;rcases get k x hx with ⟨rfl, rfl⟩ | hx
  · exact ⟨_, hO, rfl⟩
  · exact ⟨x, hx, rfl⟩
 refine ⟨⟨?_, h.sealed, h.one, fun k x hx => ?_, fun a b oa ob bb hab ha hb h1 h2 => ?_, h.glob⟩, ⟨.refl E, rfl, rfl, Nat.le_refl _, fun _ _ _ => rfl, fun _ _ _ hv => .inl hv, fun b ⟨k, x, hx, hb⟩ => ?_, trivial⟩⟩
 · obtain ⟨n, h1, h2⟩ := h.fin;exact ⟨n, fun c hc => h1 c (by rwa [clockOf_set hO rfl rfl] at hc), h2⟩
 · rcases get k x hx with ⟨rfl, rfl⟩ | hx
   · obtain ⟨l, hl, h1, h2, h3⟩ := h.real _ _ hO;refine ⟨l, hl, h1, hsz, ?_⟩;cases hb : l.block with
     | none =>
      simp only [hb] at h3;subst h3
      simpa using hlen
     | some b =>
      simp only [hb] at h3 ⊢;obtain ⟨cur, el, a1, a2, a3, a4, a5⟩ := h3;refine ⟨cur, el, a1, a2, by rw [hlen]; exact a3, fun j g hj => ?_, a5⟩;obtain ⟨g0, hg0, hm⟩ := hc j g hj;obtain ⟨v, hv, h4, hr⟩ := a4 j g0 hg0;exact ⟨v, hv, h4, hm v hr⟩
   · exact h.real k x hx
 · obtain ⟨ya, hya, ea⟩ := blk a oa ha;obtain ⟨yb, hyb, eb⟩ := blk b ob hb;exact h.sep a b ya yb bb hab hya hyb (by rw [← ea]; exact h1) (by rw [← eb]; exact h2)
 · obtain ⟨y, hy, e⟩ := blk k x hx;exact .inl ⟨k, y, hy, by rw [← e]; exact hb⟩
section
variable {st : GSt} {N : GSt → Prop}
theorem Into.cells (i : Nat) {t sz : Nat} {cs : List GVal} (cs' : List GVal) (hO : st.o[i]? = some (.row t sz [cs])) (hs : cs'.length = sz) (hw : WL cs cs') (h : Into ⟨st.s, st.o.set i (.row t sz [cs'])⟩ N) : Into st N := by
 intro E a w hs' ha
 obtain ⟨h1, h2⟩ := hs'.cells hO (ys := [cs']) rfl (by simp [hs]) (fun j g' hj => by
  simp only [List.flatten_cons, List.flatten_nil, List.append_nil] at hj ⊢;obtain ⟨x, hx, hl⟩ := hw.at_ j g' hj;exact ⟨x, hx, fun v hv => hl.sound hv⟩)
 obtain ⟨st', E', q1, q2, q3, q4⟩ := h E a w h1 ha
 exact ⟨st', E', q1, q2, h2.trans q3, q4⟩
theorem Into.drop {O X : List GObj} (ho : st.o = O ++ X) (h : Into ⟨st.s, O⟩ N) : Into st N := by
 intro E a w hs ha
 rw [ho] at hs
 obtain ⟨h1, h2⟩ := hs.drop
 obtain ⟨st', E', q1, q2, q3, q4⟩ := h E a w h1 ha
 exact ⟨st', E', q1, q2, by rw [ho]; exact h2.trans q3, q4⟩
theorem Into.cellTok (i c tsz : Nat) {t sz : Nat} {cs : List GVal} (xs : List (List GVal)) {tg : Tag} (hO : st.o[i]? = some (.row t sz [cs])) (hc : cs[c]? = some (.slice xs tg)) (htg : tg.cap = .full) (hcl : cs.length = sz)
 (h : stamp st.o fun u => Into ⟨st.s, ((tickO st.o) ++ [GObj.tok u tsz]).set i (.row t sz [cs.set c (.slice xs (.tok st.o.length u))])⟩ N) : Into st N := by
 intro E a w hs ha
 obtain ⟨u, hk, ht, hnx, hs, hkeep⟩ := hs.stamp h
 rw [← tickO_len st.o] at hk
 obtain ⟨h1, h2⟩ := hs.objNil (.tok u tsz) (l := ⟨none, 0, tsz, 0⟩) ht hnx rfl ⟨_, Env.addLoc_self _ _ _, rfl, trivial⟩ (by simp [GObj.blk, Env.addLoc_self])
 have hO' : (tickO st.o ++ [GObj.tok u tsz])[i]? = some (.row t sz [cs]) := by
  have := tickO_get hO rfl;rw [List.getElem?_append_left (List.getElem?_eq_some_iff.1 this).1]; exact this
 obtain ⟨h3, h4⟩ := h1.cells hO' (ys := [cs.set c (.slice xs (.tok (tickO st.o).length u))]) rfl (by simp [hcl]) (fun j g' hj => by
  simp only [List.flatten_cons, List.flatten_nil, List.append_nil] at hj ⊢;rw [List.getElem?_set] at hj;by_cases e : c = j
  · subst e;rw [if_pos rfl] at hj;split at hj
    · simp only [Option.some.injEq] at hj;subst hj;refine ⟨_, hc, fun v hv => ?_⟩;cases hv with
      | slice a len cap xs tag sz c hlen hcap hsz ha hc htag =>
       have htag := htag.cap hcap;rw [htg] at htag;exact .slice a len cap xs _ sz c hlen hcap hsz ha hc ⟨_, Env.addLoc_self _ _ _, .inl htag⟩
    · cases hj
  · rw [if_neg e] at hj;exact ⟨g', hj, fun v hv => hv⟩)
 obtain ⟨st', E', q1, q2, q3, q4⟩ := hk _ a w h3 (ha.mono h2.ext)
 exact ⟨st', E', q1, q2, ((hkeep.trans h2).trans h4).trans q3, q4⟩
end
theorem ext_0 (a : GVal) (r : List GVal) (K : GVal → Prop) : extractV (.tuple (a :: r)) 0 K = K a := by rw [extractV]; rfl
theorem ext_1 (a b : GVal) (r : List GVal) (K : GVal → Prop) : extractV (.tuple (a :: b :: r)) 1 K = K b := by rw [extractV]; rfl
theorem ext_2 (a b c : GVal) (r : List GVal) (K : GVal → Prop) : extractV (.tuple (a :: b :: c :: r)) 2 K = K c := by rw [extractV]; rfl
theorem ext_3 (a b c d : GVal) (r : List GVal) (K : GVal → Prop) : extractV (.tuple (a :: b :: c :: d :: r)) 3 K = K d := by rw [extractV]; rfl
theorem gif_neb (a b : Bool) (p q : Prop) : gif (a != b) p q = gif a (gif b q p) (gif b p q) := by cases a <;> cases b <;> rfl
theorem gif_eqb (a b : Bool) (p q : Prop) : gif (a == b) p q = gif a (gif b p q) (gif b q p) := by cases a <;> cases b <;> rfl
end Gv
namespace Gv
open Go
def GRel (P : Program) (f : FuncId) (args : List GVal) (R : GVal → Prop) : Prop := GCalls P f args [] (fun g O' => R g ∧ O' = [])
theorem GRel.frame {P : Program} {f : FuncId} {args : List GVal} {R : GVal → Prop} (h : GRel P f args R) (O : List GObj) (hc : clockOf O = none) : GCalls P f args O (fun g O' => R g ∧ O' = O) := by
 refine ⟨h.1, fun E w vs hs ha => (h.2 E w vs hs.nil ha).mono ?_⟩
 rintro e w' ⟨v, E', O', g, rfl, h1, h2, h3, hR, rfl⟩
 have hno : ∀ b, ¬ InO E [] b := fun b ⟨i, x, hx, _⟩ => by simp at hx
 have hold : ∀ b, b < w.heap.size → w'.heap[b]? = w.heap[b]? := fun b hb => h2.heap b hb (hno b)
 have hsn : ∀ b o v, b < w.heap.size → E'.snap b o = some v → E.snap b o = some v := fun b o v hb hv => by
  rcases h2.snap b o v hv with q | q | q
  · exact q
  · omega
  · exact absurd q (hno b)
 have hreal : ∀ (i : Nat) x, O[i]? = some x → Realized E' w' x := fun i x hx =>
  (hs.real i x hx).keep h2.ext (fun b hb => hold b ((hs.real i x hx).blk_lt hb)) (fun b o v hb hv => hsn b o v ((hs.real i x hx).blk_lt hb) hv)
 have hb : ∀ (i : Nat) x, O[i]? = some x → x.blk E' = x.blk E := fun i x hx => GObj.blk_mono h2.ext (hs.real i x hx)
 refine ⟨v, E', O, g, rfl, ⟨by obtain ⟨n, _, q⟩ := h1.fin; exact ⟨n, (fun c e => by rw [hc] at e; cases e), q⟩, h1.sealed, h1.one, hreal, fun i j oi oj b hij hi hj hbi hbj => ?_, h1.glob⟩, ⟨h2.ext, h2.os, h2.out, h2.size, fun b hb _ => hold b hb, fun b o v hv => ?_, fun b ⟨i, x, hx, hbx⟩ => .inl ⟨i, x, hx, by rw [← hb i x hx]; exact hbx⟩, h2.frz⟩, h3, hR, rfl⟩
 · rw [hb i oi hi] at hbi;rw [hb j oj hj] at hbj;exact hs.sep i j oi oj b hij hi hj hbi hbj
 · rcases h2.snap b o v hv with q | q | q
   · exact .inl q
   · exact .inr (.inl q)
   · exact absurd q (hno b)
theorem GRel.then {P : Program} {f : FuncId} {args : List GVal} {R : GVal → Prop} (h : GRel P f args R) {O : List GObj} {K : GVal → List GObj → Prop} (hk : ∀ g, R g → K g O) (hc : clockOf O = none := by rfl) : GCalls P f args O K :=
 (h.frame O hc).mono fun g O' ⟨e1, e2⟩ => by subst e2; exact hk g e1
theorem GCalls.toRel {P : Program} {f : FuncId} {args : List GVal} {R : GVal → Prop} (h : GCalls P f args [] (fun g O' => ∃ r, frzTo r g O' ∧ R r)) : GRel P f args R :=
 (h.mono fun g O' ⟨r, ⟨n, g', h1, h2⟩, hR⟩ => GInto.frzA (N := fun g O' => R g ∧ O' = []) h1 h2 ⟨hR, rfl⟩).into
theorem FnS.rel {P : Program} (hmix : P.follows .mixedOrders = true) {f : FuncId} {C : Cfg} {n : Nat} {rs : List ResultVar} {s : SCode} (h : FnS P f C n rs s) {args : List GVal} {R : GVal → Prop} (ha : args.length ≤ n)
 (hk : vcS P C.ro s (retQ P rs (fun g O' => ∃ r, frzTo r g O' ∧ R r)) (gstart n args [])) : GRel P f args R := GCalls.toRel (h.calls hmix ha hk)
theorem Into.rowLast {st : GSt} {N : GSt → Prop} (i : Nat) {t sz : Nat} (A : List (List GVal)) (c c' : List GVal) (hO : st.o[i]? = some (.row t sz (A ++ [c]))) (hA : ∀ x ∈ A, x.length = sz) (hs : c'.length = sz) (hw : WL c c') (h : Into ⟨st.s, st.o.set i (.row t sz (A ++ [c']))⟩ N) : Into st N := by
 intro E a w hs' ha
 have hlen := hw.len
 obtain ⟨h1, h2⟩ := hs'.cells hO (ys := A ++ [c']) (by simp) (fun y hy => by
  rcases List.mem_append.1 hy with hy | hy
  · exact hA y hy
  · simp at hy; rw [hy]; exact hs) (fun j g' hj => by
  simp only [List.flatten_append, List.flatten_cons, List.flatten_nil, List.append_nil] at hj ⊢;by_cases e : j < A.flatten.length
  · rw [List.getElem?_append_left e] at hj ⊢;exact ⟨g', hj, fun v hv => hv⟩
  · rw [List.getElem?_append_right (by omega)] at hj ⊢;obtain ⟨x, hx, hl⟩ := hw.at_ _ g' hj;exact ⟨x, hx, fun v hv => hl.sound hv⟩)
 obtain ⟨st', E', q1, q2, q3, q4⟩ := h E a w h1 ha
 exact ⟨st', E', q1, q2, h2.trans q3, q4⟩
theorem thenQ_n (N : GSt → Prop) (Q : Ex → GSt → Prop) (st : GSt) : thenQ N Q .normal st = N st := rfl
theorem thenQ_r (N : GSt → Prop) (Q : Ex → GSt → Prop) (st : GSt) : thenQ N Q .ret st = Q .ret st := rfl
theorem thenQ_e (N : GSt → Prop) (Q : Ex → GSt → Prop) (n : Nat) (st : GSt) : thenQ N Q (.exit n) st = Q (.exit n) st := rfl
theorem blockQ_n (id : Nat) (Q : Ex → GSt → Prop) (st : GSt) : blockQ id Q .normal st = Q .normal st := rfl
theorem blockQ_r (id : Nat) (Q : Ex → GSt → Prop) (st : GSt) : blockQ id Q .ret st = Q .ret st := rfl
theorem blockQ_e (id n : Nat) (Q : Ex → GSt → Prop) (st : GSt) : blockQ id Q (.exit n) st = if n = id then Q .normal st else Q (.exit n) st := rfl
theorem retQ_n (P : Program) (rs : List ResultVar) (K : GVal → List GObj → Prop) (st : GSt) : retQ P rs K .normal st = resV P st rs (fun gs => K (resG gs) st.o) := rfl
theorem retQ_r (P : Program) (rs : List ResultVar) (K : GVal → List GObj → Prop) (st : GSt) : retQ P rs K .ret st = resV P st rs (fun gs => K (resG gs) st.o) := rfl
theorem VR.cells_le {E : Env} {v : Value} {xs ys : List (List GVal)} {tg : Tag} (h : VR E v (.slice xs tg)) (hl : ys.length = xs.length) (hz : ∀ sz, (∀ x ∈ xs, x.length = sz) → ∀ y ∈ ys, y.length = sz)
 (hc : ∀ (j : Nat) g', ys.flatten[j]? = some g' → ∃ g, xs.flatten[j]? = some g ∧ leG g g') : VR E v (.slice ys tg) := by
 cases h with
 | slice a len cap _ _ sz c hlen hcap hsz ha hcc ht =>
  refine .slice a len cap ys tg sz c (by rw [hlen, hl]) hcap (hz sz hsz) (fun hn => ha ?_) (fun j g' hj => ?_) ht
  · intro e;subst e;exact hn (List.length_eq_zero_iff.1 hl)
  · obtain ⟨g, hg, hle⟩ := hc j g' hj;exact hle.sound (hcc j g hg)
theorem VR.snoc {E : Env} {v : Value} {A : List (List GVal)} {c c' : List GVal} {tg : Tag} (h : VR E v (.slice (A ++ [c]) tg)) (hw : WL c c') : VR E v (.slice (A ++ [c']) tg) := by
 have hlen := hw.len
 refine h.cells_le (by simp) (fun sz hs y hy => ?_) (fun j g' hj => ?_)
 · rcases List.mem_append.1 hy with hy | hy
   · exact hs y (List.mem_append_left _ hy)
   · simp at hy; subst hy
     rw [← hlen]; exact hs c (by simp)
 · simp only [List.flatten_append, List.flatten_cons, List.flatten_nil, List.append_nil] at hj ⊢;by_cases e : j < A.flatten.length
   · rw [List.getElem?_append_left e] at hj ⊢;exact ⟨g', hj, by rw [leG_self]; trivial⟩
   · rw [List.getElem?_append_right (by omega)] at hj ⊢;exact hw.at_ _ g' hj
theorem Into.slot {st : GSt} {N : GSt → Prop} (i : Nat) (g g' : GVal) (hx : sget st.s i = g) (hv : ∀ E v, VR E v g → VR E v g') (h : Into ⟨st.s.set i g', st.o⟩ N) : Into st N := by
 intro E a w hs ha
 have ha' : SlotsR E a (st.s.set i g') := by
  refine ⟨by simp [ha.size], ha.defers, fun k y hy => ?_⟩;rw [List.getElem?_set] at hy;by_cases hk : i = k
  · subst hk;rw [if_pos rfl] at hy;split at hy
    · rename_i hlt;simp only [Option.some.injEq] at hy;subst hy;have := ha.at_ i _ (getD_of (d := GVal.any) hlt);have hx' : st.s.getD i .any = g := hx;rw [hx'] at this;exact hv _ _ this
    · cases hy
  · rw [if_neg hk] at hy;exact ha.at_ k y hy
 obtain ⟨st', E', q1, q2, q3, q4⟩ := h E a w hs ha'
 exact ⟨st', E', q1, q2, q3, q4⟩
theorem Into.snoc {st : GSt} {N : GSt → Prop} (i : Nat) (A : List (List GVal)) (c c' : List GVal) (tg : Tag) (hx : sget st.s i = .slice (A ++ [c]) tg) (hw : WL c c') (h : Into ⟨st.s.set i (.slice (A ++ [c']) tg), st.o⟩ N) : Into st N :=
 Into.slot i _ _ hx (fun E v hv => hv.snoc hw) h
theorem setL_3 (a b c d x : List GVal) (r : List (List GVal)) : (a :: b :: c :: d :: r).set 3 x = a :: b :: c :: x :: r := rfl
theorem setL_4 (a b c d e x : List GVal) (r : List (List GVal)) : (a :: b :: c :: d :: e :: r).set 4 x = a :: b :: c :: d :: x :: r := rfl
theorem setO_3 (a b c d x : GObj) (r : List GObj) : (a :: b :: c :: d :: r).set 3 x = a :: b :: c :: x :: r := rfl
theorem setO_4 (a b c d e x : GObj) (r : List GObj) : (a :: b :: c :: d :: e :: r).set 4 x = a :: b :: c :: d :: x :: r := rfl
theorem setO_5 (a b c d e f x : GObj) (r : List GObj) : (a :: b :: c :: d :: e :: f :: r).set 5 x = a :: b :: c :: d :: e :: x :: r := rfl
theorem norm_u64 {n : Int} (h : 0 ≤ n ∧ n ≤ 9223372036854775807) : norm .u64 n = n := by
 simp only [norm, IntKind.wrap, IntKind.bits, IntKind.signed, Bool.false_and, Bool.false_eq_true, if_false]
 omega
theorem ibin_shr1 (P : Program) (t : TypeId) (a : Int) (K : GVal → Prop) : binV P .shr t (.int .u64 a) (.int .u64 1) K = K (.int .u64 (a / 2)) := by
 simp [binV, IntKind.bits]
theorem conv_int (P : Program) (s d : TypeId) (k k' : IntKind) (n : Int) (K : GVal → Prop) {u : TypeDesc} (hs : P.underlying s = some u) (hd : P.underlying d = some (.int k')) : convV P s d (.int k n) K = K (.int k' (norm k' n)) := by
 simp only [convV, hs, hd]
def GLe (x y : GVal) : Prop := ∀ E v, VR E v x → VR E v y
theorem GLe.refl (x : GVal) : GLe x x := fun _ _ h => h
theorem GLe.of (x y : GVal) (h : leG x y) : GLe x y := fun _ _ hv => h.sound hv
def GLes : List GVal → List GVal → Prop
 | [], [] => True
 | x :: xs, y :: ys => GLe x y ∧ GLes xs ys
 | _, _ => False
theorem GLes.refl : ∀ xs, GLes xs xs
 | [] => trivial
 | x :: xs => ⟨.refl x, GLes.refl xs⟩
theorem GLes.len : ∀ {xs ys : List GVal}, GLes xs ys → xs.length = ys.length
 | [], [], _ => rfl
 | x :: xs, y :: ys, h => by simp [GLes.len h.2]
 | [], _ :: _, h => h.elim
 | _ :: _, [], h => h.elim
theorem GLes.at_ : ∀ {xs ys : List GVal}, GLes xs ys → ∀ (i : Nat) y, ys[i]? = some y → ∃ x, xs[i]? = some x ∧ GLe x y
 | [], [], _, i, y, h => by simp at h
 | x :: xs, z :: ys, h, 0, y, hy => by simp at hy; subst hy; exact ⟨x, rfl, h.1⟩
 | x :: xs, z :: ys, h, i + 1, y, hy => by simpa using GLes.at_ h.2 i y (by simpa using hy)
 | [], _ :: _, h, _, _, _ => h.elim
 | _ :: _, [], h, _, _, _ => h.elim
theorem GLes.app : ∀ {a b c d : List GVal}, GLes a b → GLes c d → GLes (a ++ c) (b ++ d)
 | [], [], _, _, _, h => h
 | x :: xs, y :: ys, _, _, h, k => ⟨h.1, GLes.app h.2 k⟩
 | [], _ :: _, _, _, h, _ => h.elim
 | _ :: _, [], _, _, h, _ => h.elim
def GLess : List (List GVal) → List (List GVal) → Prop
 | [], [] => True
 | x :: xs, y :: ys => GLes x y ∧ GLess xs ys
 | _, _ => False
theorem GLess.refl : ∀ xs, GLess xs xs
 | [] => trivial
 | x :: xs => ⟨.refl x, GLess.refl xs⟩
theorem GLess.flat : ∀ {xs ys : List (List GVal)}, GLess xs ys → GLes xs.flatten ys.flatten ∧ xs.length = ys.length ∧ ∀ sz, (∀ x ∈ xs, x.length = sz) → ∀ y ∈ ys, y.length = sz
 | [], [], _ => ⟨trivial, rfl, fun _ _ y hy => by simp at hy⟩
 | x :: xs, y :: ys, h => by
  obtain ⟨h1, h2, h3⟩ := GLess.flat h.2;refine ⟨?_, by simp [h2], fun sz hs z hz => ?_⟩
  · simp only [List.flatten_cons]; exact h.1.app h1
  · rcases List.mem_cons.1 hz with rfl | hz
    · rw [← h.1.len]; exact hs x (by simp)
    · exact h3 sz (fun x hx => hs x (by simp [hx])) z hz
 | [], _ :: _, h => h.elim
 | _ :: _, [], h => h.elim
theorem GLess.set : ∀ (xs : List (List GVal)) (i : Nat) {c c' : List GVal}, GLes c c' → GLess (xs.set i c) (xs.set i c')
 | [], _, _, _, _ => trivial
 | x :: xs, 0, _, _, h => ⟨h, .refl xs⟩
 | x :: xs, i + 1, _, _, h => ⟨.refl x, GLess.set xs i h⟩
theorem GLess.app : ∀ {a b c d : List (List GVal)}, GLess a b → GLess c d → GLess (a ++ c) (b ++ d)
 | [], [], _, _, _, h => h
 | x :: xs, y :: ys, _, _, h, k => ⟨h.1, GLess.app h.2 k⟩
 | [], _ :: _, _, _, h, _ => h.elim
 | _ :: _, [], _, _, h, _ => h.elim
theorem GLe.slice {xs ys : List (List GVal)} {t : Tag} (h : GLess xs ys) : GLe (.slice xs t) (.slice ys t) := fun E v hv => by
 obtain ⟨h1, h2, h3⟩ := h.flat
 cases hv with
 | slice a len cap _ _ sz c hlen hcap hsz ha hcc ht =>
  refine .slice a len cap ys t sz c (by rw [hlen, h2]) hcap (h3 sz hsz) (fun hn => ha ?_) (fun j g' hj => ?_) ht
  · intro e;subst e;exact hn (List.length_eq_zero_iff.1 h2.symm)
  · obtain ⟨g, hg, hle⟩ := h1.at_ j g' hj;exact hle _ _ (hcc j g hg)
theorem GLe.trans {x y z : GVal} (h : GLe x y) (k : GLe y z) : GLe x z := fun E v hv => k E v (h E v hv)
theorem GLe.agg {xs ys : List GVal} (h : GLes xs ys) : GLe (.agg xs) (.agg ys) := fun E v hv => by
 cases hv with
 | agg vs cs hs hc => exact .agg vs ys (by rw [hs, h.len]) (fun j g hg => by
  obtain ⟨x, hx, hl⟩ := h.at_ j g hg;exact hl _ _ (hc j x hx))
theorem GLe.tuple {xs ys : List GVal} (h : GLes xs ys) : GLe (.tuple xs) (.tuple ys) := fun E v hv => by
 cases hv with
 | tuple vs cs hs hc => exact .tuple vs ys (by rw [hs, h.len]) (fun j g hg => by
  obtain ⟨x, hx, hl⟩ := h.at_ j g hg;exact hl _ _ (hc j x hx))
theorem GLe.none {xs : List (List GVal)} {t : Tag} : GLe (.slice xs t) (.slice xs .none) := .of _ _ (by rw [leG_none])
def vcA := ai @vcS_skip <| ai @vcS_reg <| ai @vcS_drw <| ai @vcS_seq <| ai @vcS_cond <| ai @vcS_block <| ai @vcS_exit <| ai @vcS_ret <| ai @vcS_loopI <| ai @opsS_nil <| ai @opsS_one <| ai @opsS_if <| ai @ordS_nil <| ai @ordS_one <| ai @ordS_if <| ai @hold_mk <| ai @ev_tmp <| ai @ev_const <| ai @ev_func <| ai @put_some <| ai @put_none <| ai @setS_mk <| ai @sget_0 <| ai @sget_1 <| ai @sget_2 <| ai @sget_3 <| ai @sget_4 <| ai @set_0 <| ai @set_1 <| ai @set_2 <| ai @set_3 <| ai @set_4 <| ai @setO_0 <| ai @setO_1 <| ai @setO_2 <| ai @setL_0 <| ai @setL_1 <| ai @setL_2 <| ai @norm_i64 <| ai @ints_length <| ai @ints_at <| ai @leG_bool <| ai @leG_int <| ai @okCells_eq <| ai @allSolid_eq <| ai @all_nil <| ai @all_cons <| ai @all_append <| ai @all_ints <| ai @all_tabG <| ai @stamp_nil <| ai @stamp_tok <| ai @stamp_row <| ai @stamp_map <| ai @tick_nil <| ai @tick_tok <| ai @tick_row <| ai @tick_map <| ai @tabG_length <| ai @tabG_at <| ai @leA_int <| ai @leA_bool <| ai @leA_slice <| ai @leA_agg <| ai @leA_tuple <| ai @WL_nil <| ai @WL_cons <| ai @leG_self <| ai @setL_3 <| ai @setL_4 <| ai @setO_3 <| ai @setO_4 <| @setO_5
def vcB := ai @gif_true <| ai @gif_false <| ai @gif_dec <| ai @gif_not <| ai @gif_eq <| ai @gif_ne <| ai @op_move <| ai @op_assign <| ai @op_binOp <| ai @binN_tmp <| ai @binN_ci <| ai @binN_cb <| ai @binN_cs <| ai @binN_cl <| ai @binN_cp <| ai @binN_cf <| ai @binN_ni <| ai @binN_eq <| ai @binN_ne <| ai @op_unOp <| ai @op_convert <| ai @op_load <| ai @op_store <| ai @op_fieldAddr <| ai @op_field <| ai @op_indexAddr <| ai @op_index <| ai @op_extract <| ai @op_alloc <| ai @op_lookup <| ai @op_mapUpdate <| ai @op_insert <| ai @op_makeMap <| ai @op_box <| ai @op_build <| ai @op_buildSlice <| ai @op_slice <| ai @op_nilCheck <| ai @op_makeInterface <| ai @op_makeFunc <| ai @op_pick <| ai @op_len <| ai @op_cap <| ai @op_min <| ai @op_max <| ai @op_clear <| ai @op_delete <| ai @op_append <| ai @op_funcI <| ai @op_closureI <| ai @ibin_add <| ai @ibin_sub <| ai @ibin_mul <| ai @ibin_quo <| ai @ibin_rem <| ai @ibin_eql <| ai @ibin_neq <| ai @ibin_lss <| ai @ibin_leq <| ai @ibin_gtr <| ai @ibin_geq <| ai @ext_0 <| ai @ext_1 <| ai @ext_2 <| ai @ext_3 <| ai @gif_neb <| ai @gif_eqb <| ai @thenQ_n <| ai @thenQ_r <| ai @thenQ_e <| ai @blockQ_n <| ai @blockQ_r <| ai @blockQ_e <| ai @retQ_n <| @retQ_r
def vcC := ai @Bool.and_eq_false_imp <| ai @Bool.and_eq_true <| ai @Bool.not_eq_false' <| ai @Bool.not_eq_true' <| ai @Bool.not_false <| ai @Bool.not_true <| ai @Bool.or_false <| ai @Bool.or_true <| ai @Bool.true_or <| ai @Int.cast_ofNat_Int <| ai @Int.natCast_add <| ai @Int.not_le <| ai @Int.not_lt <| ai @Int.toNat_natCast <| ai @Nat.lt_add_one <| ai @Nat.zero_add <| ai @Nat.zero_lt_one <| ai @and_true <| ai @decide_eq_false_iff_not <| ai @decide_eq_true_eq <| ai @decide_true <| ai @false_implies <| ai @not_false_eq_true <| ai @true_and <| ai @true_implies <| ai @List.append_nil.{0} <| ai @List.cons_append.{0} <| ai @List.drop_nil.{0} <| ai @List.drop_succ_cons.{0} <| ai @List.drop_zero.{0} <| ai @List.getD_cons_succ.{0} <| ai @List.getD_cons_zero.{0} <| ai @List.getElem?_cons_succ.{0} <| ai @List.getElem?_cons_zero.{0} <| ai @List.getElem?_nil.{0} <| ai @List.length_cons.{0} <| ai @List.length_nil.{0} <| ai @List.nil_append.{0} <| ai @List.take_nil.{0} <| ai @List.take_succ_cons.{0} <| ai @List.take_zero.{0} <| ai @List.contains_cons.{0} <| ai @List.contains_nil.{0} <| ai @beq_iff_eq.{0} <| ai @bne_iff_ne.{0} <| ai @beq_eq_false_iff_ne.{0} <| ai @bne_eq_false_iff_eq.{0} <| @beq_self_eq_true.{0}
def vcD := ai @List.length_range <| And.intro @List.length_map.{0, 0} <| ai @implies_true.{0} <| ai @implies_true.{1} <| ai @ne_eq.{1} <| And.intro @List.map.eq_1.{0, 0} <| And.intro @List.map.eq_2.{0, 0} <| ai @List.headD.eq_1.{0} <| ai @List.headD.eq_2.{0} <| ai @List.take.eq_1.{0} <| ai @List.take.eq_2.{0} <| ai @List.take.eq_3.{0} <| ai @List.drop.eq_1.{0} <| ai @List.drop.eq_2.{0} <| ai @List.drop.eq_3.{0} <| ai @List.replicate.eq_1.{0} <| ai @List.replicate.eq_2.{0} <| ai @allSolid.eq_1 <| ai @allSolid.eq_2 <| ai @grp.eq_1 <| ai @grp.eq_2 <| @splice.eq_1
def vnT := ai @not_true_eq_false <| ai @not_false_eq_true <| ai @false_imp_iff <| ai @true_imp_iff <| ai @and_true <| @true_and
def plainG : GVal → Bool
 | .any => true
 | .bool _ => true
 | .ubool => true
 | .int _ _ => true
 | .str _ => true
 | .lit _ => true
 | .own _ _ _ _ => true
 | .slice [] .none => true
 | _ => false
theorem VR.plain {E F : Env} {v : Value} {g : GVal} (hl : ∀ s l, E.loc s = some l → F.loc s = some l) (h : VR E v g) (hg : plainG g = true) : VR F v g := by
 cases h with
 | any v => exact .any v
 | bool b => exact .bool b
 | ubool b => exact .ubool b
 | int k n => exact .int k n
 | str s => exact .str s
 | lit v => exact .lit v
 | own a len cap o st i l h1 hcap ha => exact .own a len cap o st i l (hl _ _ h1) hcap ha
 | slice a len cap xs tag sz c hlen hcap hsz ha hc ht =>
  cases xs with
  | cons x r => cases hg
  | nil => cases tag with
   | none => exact .slice a len cap [] .none sz c hlen hcap hsz (fun h => absurd rfl h) (fun j g hj => by simp at hj) trivial
   | _ => cases hg
 | _ => cases hg
def GObj.flat : GObj → Bool
 | .row _ _ xs => xs.all fun r => r.all plainG
 | .dead => true
 | _ => false
def GVal.shift (k : Nat) : GVal → GVal
 | .own o st i len => .own (o + k) st i len
 | g => g
theorem VR.shift {E : Env} {v : Value} {g : GVal} (k : Nat) (h : VR E v g) : VR E v (g.shift k) := by
 cases h with
 | own a len cap o st i l h1 hcap ha => exact .own a len cap _ st i l h1 hcap ha
 | any v => exact .any v
 | bool b => exact .bool b
 | ubool b => exact .ubool b
 | int k n => exact .int k n
 | str s => exact .str s
 | lit v => exact .lit v
 | slice a len cap xs tag sz c hlen hcap hsz ha hc ht => exact .slice a len cap xs tag sz c hlen hcap hsz ha hc ht
 | agg vs cs hs hc => exact .agg vs cs hs hc
 | tuple vs cs hs hc => exact .tuple vs cs hs hc
 | ref b off cs c ha hc => exact .ref b off cs c ha hc
 | ptr b off o st i j l hl hb ho => exact .ptr b off o st i j l hl hb ho
 | map r o st l hl hb => exact .map r o st l hl hb
 | func fn fs cs gs ks hf hk hfs hcs => exact .func fn fs cs gs ks hf hk hfs hcs
 | iface t v g h => exact .iface t v g h
 | cond c v g h => exact .cond c v g h
open Classical in
theorem GCalls.borrow {P : Program} {f : FuncId} {args args' : List GVal} {O : List GObj} {K : GVal → List GObj → Prop} (n : Nat) (h : GCalls P f args' [] K) (ha' : frzL (Gv.frz O n) args = some args') (hc : clockOf O = none)
 (hK : ∀ g O', K g O' → plainG g = true ∧ ∀ x ∈ O', x.flat = true) : GCalls P f args O (fun g O'' => ∃ g0 O', K g0 O' ∧ g = g0.shift O.length ∧ O'' = O ++ O') := by
 refine ⟨h.1, fun E w vs hs ha => ?_⟩
 obtain ⟨f1, f2⟩ := hs.frz
 have hb : ArgsR (E.frz O w) vs args' := ⟨by rw [ha.1, frzL_len ha'], fun i g hg => by
  obtain ⟨x, q1, q2⟩ := frzL_at ha' i g hg;exact frz_sound hs n _ x g (ha.2 i x q1) q2⟩
 refine (h.2 _ w vs f1 hb).mono ?_
 rintro e w' ⟨v, E', O', g, rfl, h1, h2, h3, h5⟩
 obtain ⟨hg, hfl⟩ := hK g O' h5
 have hno : ∀ b, ¬ InO (E.frz O w) [] b := fun b ⟨i, x, hx, _⟩ => by simp at hx
 have hold : ∀ b, b < w.heap.size → w'.heap[b]? = w.heap[b]? := fun b hb => h2.heap b hb (hno b)
 have hle : E.le E' := f2.ext.trans h2.ext
 let F : Env := { loc := E'.loc, snap := fun b o => match E.snap b o with
  | some v => some v
  | none => if b < w.heap.size then none else E'.snap b o }
 have hF : E.le F := ⟨fun b o v h => by show (match E.snap b o with | some v => some v | none => _) = _; rw [h], hle.loc⟩
 have hFs : ∀ b o v, F.snap b o = some v → E'.snap b o = some v := by
  intro b o v hv
  change (match E.snap b o with | some v => some v | none => if b < w.heap.size then none else E'.snap b o) = some v at hv
  cases hs : E.snap b o with
  | some u => rw [hs] at hv; cases hv; exact hle.snap _ _ _ hs
  | none =>
   rw [hs] at hv;simp only at hv
   split at hv
   · cases hv
   · exact hv
 have hFo : ∀ b o v, b < w.heap.size → F.snap b o = some v → E.snap b o = some v := by
  intro b o v hb hv
  change (match E.snap b o with | some v => some v | none => if b < w.heap.size then none else E'.snap b o) = some v at hv
  cases hs : E.snap b o with
  | some u => rw [hs] at hv; exact hv
  | none => rw [hs] at hv; simp only [if_pos hb] at hv; cases hv
 have hFn : ∀ b o, E'.snap b o = none → F.snap b o = none := fun b o hn => by
  cases hq : F.snap b o with
  | none => rfl
  | some v => rw [hFs b o v hq] at hn; cases hn
 have hbk : ∀ x : GObj, x.blk F = x.blk E' := fun x => by cases x <;> rfl
 have hbO : ∀ (i : Nat) x, O[i]? = some x → x.blk F = x.blk E := fun i x hx => GObj.blk_mono hF (hs.real i x hx)
 have hnew : ∀ (i : Nat) x b, O'[i]? = some x → x.blk F = some b → w.heap.size ≤ b := fun i x b hx hb => by
  rcases h2.objs b ⟨i, x, hx, by rw [← hbk]; exact hb⟩ with q | q
  · exact absurd q (hno b)
  · exact q
 have hcl : clockOf (O ++ O') = none := by
  cases O with
  | nil =>
   rw [List.nil_append];cases O' with
   | nil => rfl
   | cons x r =>
    have := hfl x (by simp);cases x <;> first | rfl | cases this
  | cons x r => cases x <;> first | rfl | cases hc
 have hreal : ∀ (i : Nat) x, (O ++ O')[i]? = some x → Realized F w' x := by
  intro i x hx;by_cases hi : i < O.length
  · rw [List.getElem?_append_left hi] at hx;exact (hs.real i x hx).keep hF (fun b hb => hold b ((hs.real i x hx).blk_lt hb)) (fun b o v hb hv => hFo b o v ((hs.real i x hx).blk_lt hb) hv)
  · rw [List.getElem?_append_right (by omega)] at hx;have hr := h1.real _ x hx;have hf := hfl x (List.mem_of_getElem? hx);cases x with
    | dead => trivial
    | row st sz xs =>
     obtain ⟨l, hl, hls, hsx, hrr⟩ := hr;refine ⟨l, hl, hls, hsx, ?_⟩;cases hb : l.block with
     | none => simp only [hb] at hrr; exact hrr
     | some b =>
      simp only [hb] at hrr;obtain ⟨cur, el, q1, q2, q3, q4, q5⟩ := hrr;refine ⟨cur, el, q1, q2, q3, fun k c hk => ?_, fun o => hFn _ _ (q5 o)⟩;obtain ⟨x, z1, z2, z3⟩ := q4 k c hk;refine ⟨x, z1, z2, z3.plain (E := E') (F := F) (fun s l h => show F.loc s = some l from h) ?_⟩;have hcm := List.mem_of_getElem? hk;obtain ⟨r, hr1, hr2⟩ := List.mem_flatten.1 hcm;simp only [GObj.flat, List.all_eq_true] at hf;exact hf r hr1 c hr2
    | _ => cases hf
 refine ⟨v, F, O ++ O', g.shift O.length, rfl, ⟨?_, fun b o v hv => h1.sealed b o v (hFs b o v hv), fun b o v hv => h1.one b o v (hFs b o v hv), hreal, ?_, hs.globLe hF⟩, ⟨hF, ?_, ?_, h2.size, fun b hb _ => hold b hb, ?_, ?_, trivial⟩, (h3.plain (E := E') (F := F) (fun s l h => show F.loc s = some l from h) hg).shift _, g, O', h5, rfl, rfl⟩
 · obtain ⟨m, _, q⟩ := h1.fin;exact ⟨m, fun c e => by rw [hcl] at e; (cases e), q⟩
 · intro i j oi oj b hij hi hj hbi hbj;by_cases ii : i < O.length
   · rw [List.getElem?_append_left ii] at hi;rw [hbO i oi hi] at hbi;by_cases jj : j < O.length
     · rw [List.getElem?_append_left jj] at hj;rw [hbO j oj hj] at hbj;exact hs.sep i j oi oj b hij hi hj hbi hbj
     · rw [List.getElem?_append_right (by omega)] at hj;have h6 := hnew _ oj b hj hbj;have h7 := (hs.real i oi hi).blk_lt hbi;omega
   · rw [List.getElem?_append_right (by omega)] at hi;by_cases jj : j < O.length
     · rw [List.getElem?_append_left jj] at hj;rw [hbO j oj hj] at hbj;have h6 := hnew _ oi b hi hbi;have h7 := (hs.real j oj hj).blk_lt hbj;omega
     · rw [List.getElem?_append_right (by omega)] at hj;rw [hbk] at hbi hbj;exact h1.sep _ _ oi oj b (by omega) hi hj hbi hbj
 · rw [h2.os, f2.os]
 · rw [h2.out, f2.out]
 · intro b o v hv;by_cases hb : b < w.heap.size
   · exact .inl (hFo b o v hb hv)
   · exact .inr (.inl (by omega))
 · intro b ⟨i, x, hx, hbx⟩;by_cases hi : i < O.length
   · rw [List.getElem?_append_left hi] at hx;exact .inl ⟨i, x, hx, by rw [← hbO i x hx]; exact hbx⟩
   · rw [List.getElem?_append_right (by omega)] at hx;exact .inr (hnew _ x b hx hbx)
end Gv
