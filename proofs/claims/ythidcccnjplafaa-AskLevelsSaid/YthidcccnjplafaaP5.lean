/- Values without stamps; calls that stand apart. -/
import Derived.Test.YthidcccnjplafaaP4
import Derived.LoopN
set_option linter.unusedVariables false
namespace Gv
open Go

variable {P : Program}

/-! calls that stand apart -/
def Tag.noSt : Tag → Bool
  | .tok _ _ => false
  | _ => true
mutual
def GVal.noSt : GVal → Bool
  | .own _ _ _ _ | .ptr _ _ _ _ | .map _ _ => false
  | .slice xs tag => tag.noSt && noStL2 xs
  | .agg cs | .tuple cs | .ref cs => noStL cs
  | .func _ a b => noStL a && noStL b
  | .iface _ v => v.noSt
  | .cond _ v => v.noSt
  | _ => true
def noStL : List GVal → Bool
  | [] => true
  | g :: r => g.noSt && noStL r
def noStL2 : List (List GVal) → Bool
  | [] => true
  | g :: r => noStL g && noStL2 r
end

theorem noStL_at : ∀ {l : List GVal} {i : Nat} {g : GVal}, noStL l = true → l[i]? = some g → g.noSt = true
  | [], i, g, h, hg => by simp at hg
  | x :: r, 0, g, h, hg => by
    rw [noStL, Bool.and_eq_true] at h; simp at hg; subst hg; exact h.1
  | x :: r, i + 1, g, h, hg => by
    rw [noStL, Bool.and_eq_true] at h; simp at hg; exact noStL_at h.2 hg
theorem noStL_app : ∀ {l m : List GVal}, noStL l = true → noStL m = true → noStL (l ++ m) = true
  | [], m, h, k => k
  | x :: r, m, h, k => by rw [noStL, Bool.and_eq_true] at h; rw [List.cons_append, noStL, h.1, noStL_app h.2 k]; rfl
theorem noStL2_flat : ∀ {l : List (List GVal)}, noStL2 l = true → noStL l.flatten = true
  | [], h => rfl
  | x :: r, h => by rw [noStL2, Bool.and_eq_true] at h; rw [List.flatten_cons]; exact noStL_app h.1 (noStL2_flat h.2)

/-- without stamps, places do not matter -/
theorem VR.places {E E' : Env} (hs : ∀ b o v, E.snap b o = some v → E'.snap b o = some v) {v : Value} {g : GVal} (h : VR E v g) (hn : g.noSt = true) : VR E' v g := by
  induction h with
  | any v => exact .any v
  | bool b => exact .bool b
  | ubool b => exact .ubool b
  | int k n => exact .int k n
  | str s => exact .str s
  | lit v => exact .lit v
  | slice a len cap xs tag sz c hlen hcap hsz ha hc ht ih =>
    rw [GVal.noSt, Bool.and_eq_true] at hn
    refine .slice a len cap xs tag sz c hlen hcap hsz (fun hx => ?_) (fun j g hj => ih j g hj (noStL_at (noStL2_flat hn.2) hj)) ?_
    · obtain ⟨b, off, e, h2⟩ := ha hx
      exact ⟨b, off, e, fun j hj => hs _ _ _ (h2 j hj)⟩
    · cases tag with
      | none => trivial
      | full => exact ht
      | nil => exact ht
      | tok o st => simp [Tag.noSt] at hn
  | own a len cap o st i l hl hcap ha => simp [GVal.noSt] at hn
  | agg vs cs hs' hc ih => exact .agg vs cs hs' (fun j g hj => ih j g hj (noStL_at (by rw [GVal.noSt] at hn; exact hn) hj))
  | tuple vs cs hs' hc ih => exact .tuple vs cs hs' (fun j g hj => ih j g hj (noStL_at (by rw [GVal.noSt] at hn; exact hn) hj))
  | ref b off cs c ha hc ih => exact .ref b off cs c (fun j hj => hs _ _ _ (ha j hj)) (fun j g hj => ih j g hj (noStL_at (by rw [GVal.noSt] at hn; exact hn) hj))
  | ptr b off o st i j l hl hb ho => simp [GVal.noSt] at hn
  | map r o st l hl hb => simp [GVal.noSt] at hn
  | func fn fs cs gs ks hf hk hfs hcs ih1 ih2 =>
    rw [GVal.noSt, Bool.and_eq_true] at hn
    exact .func fn fs cs gs ks hf hk (fun j g hj => ih1 j g hj (noStL_at hn.1 hj)) (fun j g hj => ih2 j g hj (noStL_at hn.2 hj))
  | iface t v g hv ih => exact .iface t v g (ih (by rw [GVal.noSt] at hn; exact hn))
  | cond c v g hv ih => exact .cond c v g (fun e => ih e (by rw [GVal.noSt] at hn; exact hn))

/-- a call without stamps, in and out, leaves the caller's objects as they are -/
theorem GCalls.apart {f : FuncId} {args : List GVal} {r : GVal} {X : List GObj} (h : GCalls P f args [.clock 0] (fun g O' => g = r ∧ O' = X)) (ha : noStL args = true) (hr : r.noSt = true) (O : List GObj) :
    GCalls P f args O (fun g O' => g = r ∧ O' = O) := by
  refine ⟨h.1, fun E w vs hs hv => ?_⟩
  let E0 : Env := ⟨E.snap, fun _ => none⟩
  have hno : ∀ b, ¬ InO E0 [.clock 0] b := fun b ⟨i, x, hx, hb⟩ => by
    cases i with
    | zero => simp at hx; subst hx; cases hb
    | succ i => simp at hx
  have h0 : HSim E0 [.clock 0] w := ⟨⟨0, fun c _ => Nat.zero_le _, fun _ _ => rfl⟩, hs.sealed, hs.one, fun i x hx => by
    cases i with
    | zero => simp at hx; subst hx; trivial
    | succ i => simp at hx, fun i j oi oj b hij hi hj => by
    cases i with
    | zero => simp at hi; subst hi; intro hb; cases hb
    | succ i => simp at hi, hs.glob⟩
  refine (h.2 E0 w vs h0 ⟨hv.1, fun i g hg => (hv.2 i g hg).places (E := E) (E' := E0) (fun _ _ _ e => e) (noStL_at ha hg)⟩).mono ?_
  rintro e w' ⟨v, E', O', g, rfl, h1, h2, h3, rfl, rfl⟩
  have hold : ∀ b, b < w.heap.size → w'.heap[b]? = w.heap[b]? := fun b hb => h2.heap b hb (hno b)
  have hsn : ∀ b o v, E'.snap b o = some v → E.snap b o = some v ∨ w.heap.size ≤ b := fun b o v hv => by
    rcases h2.snap b o v hv with q | q | q
    · exact .inl q
    · exact .inr q
    · exact absurd q (hno b)
  let E1 : Env := ⟨E'.snap, E.loc⟩
  have hle : E.le E1 := ⟨fun b o v hv => h2.ext.snap b o v hv, fun _ _ hl => hl⟩
  have hreal : ∀ (i : Nat) x, O[i]? = some x → Realized E1 w' x := fun i x hx =>
    (hs.real i x hx).keep hle (fun b hb => hold b ((hs.real i x hx).blk_lt hb)) (fun b o v hb hv => (hsn b o v hv).elim id (fun q => by have := (hs.real i x hx).blk_lt hb; omega))
  have hb : ∀ (i : Nat) x, O[i]? = some x → x.blk E1 = x.blk E := fun i x hx => GObj.blk_mono hle (hs.real i x hx)
  refine ⟨v, E1, O, g, rfl, ⟨hs.fin.of_loc rfl rfl, h1.sealed, h1.one, hreal, fun i j oi oj b hij hi hj hbi hbj => ?_, h1.glob⟩,
    ⟨hle, h2.os, h2.out, h2.size, fun b hb _ => hold b hb, fun b o v hv => (hsn b o v hv).elim .inl (fun q => .inr (.inl q)), fun b ⟨i, x, hx, hbx⟩ => .inl ⟨i, x, hx, by rw [← hb i x hx]; exact hbx⟩, h2.frz⟩, h3.places (E := E') (E' := E1) (fun _ _ _ e => e) hr, rfl, rfl⟩
  rw [hb i oi hi] at hbi
  rw [hb j oj hj] at hbj
  exact hs.sep i j oi oj b hij hi hj hbi hbj

theorem GCalls.pure {f : FuncId} {args : List GVal} {r : GVal} {X : List GObj} (h : GCalls P f args [.clock 0] (fun g O' => g = r ∧ O' = X)) (ha : noStL args = true) (hr : r.noSt = true) : GPure P f args r := h.apart ha hr []


/-- a pure call without stamps, whatever the caller's objects, a clock too -/
theorem GPure.apart {f : FuncId} {args : List GVal} {r : GVal} (h : GPure P f args r) (ha : noStL args = true) (hr : r.noSt = true) (O : List GObj) : GCalls P f args O (fun g O' => g = r ∧ O' = O) := by
  refine ⟨h.1, fun E w vs hs hv => ?_⟩
  let E0 : Env := ⟨E.snap, fun _ => none⟩
  have hno : ∀ b, ¬ InO E0 [] b := fun b ⟨i, x, hx, hb⟩ => by simp at hx
  have h0 : HSim E0 [] w := ⟨⟨0, fun c _ => Nat.zero_le _, fun _ _ => rfl⟩, hs.sealed, hs.one, fun i x hx => by simp at hx, fun i j oi oj b hij hi hj => by simp at hi, hs.glob⟩
  refine (h.2 E0 w vs h0 ⟨hv.1, fun i g hg => (hv.2 i g hg).places (E := E) (E' := E0) (fun _ _ _ e => e) (noStL_at ha hg)⟩).mono ?_
  rintro e w' ⟨v, E', O', g, rfl, h1, h2, h3, rfl, rfl⟩
  have hold : ∀ b, b < w.heap.size → w'.heap[b]? = w.heap[b]? := fun b hb => h2.heap b hb (hno b)
  have hsn : ∀ b o v, E'.snap b o = some v → E.snap b o = some v ∨ w.heap.size ≤ b := fun b o v hv => by
    rcases h2.snap b o v hv with q | q | q
    · exact .inl q
    · exact .inr q
    · exact absurd q (hno b)
  let E1 : Env := ⟨E'.snap, E.loc⟩
  have hle : E.le E1 := ⟨fun b o v hv => h2.ext.snap b o v hv, fun _ _ hl => hl⟩
  have hreal : ∀ (i : Nat) x, O[i]? = some x → Realized E1 w' x := fun i x hx =>
    (hs.real i x hx).keep hle (fun b hb => hold b ((hs.real i x hx).blk_lt hb)) (fun b o v hb hv => (hsn b o v hv).elim id (fun q => by have := (hs.real i x hx).blk_lt hb; omega))
  have hb : ∀ (i : Nat) x, O[i]? = some x → x.blk E1 = x.blk E := fun i x hx => GObj.blk_mono hle (hs.real i x hx)
  refine ⟨v, E1, O, g, rfl, ⟨hs.fin.of_loc rfl rfl, h1.sealed, h1.one, hreal, fun i j oi oj b hij hi hj hbi hbj => ?_, h1.glob⟩,
    ⟨hle, h2.os, h2.out, h2.size, fun b hb _ => hold b hb, fun b o v hv => (hsn b o v hv).elim .inl (fun q => .inr (.inl q)), fun b ⟨i, x, hx, hbx⟩ => .inl ⟨i, x, hx, by rw [← hb i x hx]; exact hbx⟩, h2.frz⟩, h3.places (E := E') (E' := E1) (fun _ _ _ e => e) hr, rfl, rfl⟩
  rw [hb i oi hi] at hbi
  rw [hb j oj hj] at hbj
  exact hs.sep i j oi oj b hij hi hj hbi hbj

end Gv
/- Running code over ghost values by calculation alone: what a closed call comes to. -/
set_option linter.unusedVariables false
namespace Gv
open Go

/-! what is reckoned is written out at once -/
noncomputable def forceL {α β : Type} (l : List α) : (List α → β) → β := List.rec (motive := fun _ => (List α → β) → β) (fun k => k []) (fun x _ ih k => ih fun r => k (x :: r)) l
noncomputable def forceN {β : Type} (n : Nat) (k : Nat → β) : β := Nat.rec (motive := fun _ => β) (k 0) (fun m _ => k (m + 1)) n
noncomputable def forceI {β : Type} (n : Int) (k : Int → β) : β := Int.rec (motive := fun _ => β) (fun m => forceN m fun m => k (Int.ofNat m)) (fun m => forceN m fun m => k (Int.negSucc m)) n
noncomputable def forceG {β : Type} (g : GVal) (k : GVal → β) : β :=
  match g with
  | .int q n => forceI n fun n => k (.int q n)
  | .bool true => k (.bool true)
  | .bool false => k (.bool false)
  | .slice xs t => forceL xs fun xs => k (.slice xs t)
  | .own o st i len => forceN i fun i => forceN len fun len => k (.own o st i len)
  | .ptr o st i j => forceN i fun i => forceN j fun j => k (.ptr o st i j)
  | .agg cs => forceL cs fun cs => k (.agg cs)
  | .tuple cs => forceL cs fun cs => k (.tuple cs)
  | .ref cs => forceL cs fun cs => k (.ref cs)
  | .str s => forceL s fun s => k (.str s)
  | .any => k .any
  | .lit v => k (.lit v)
  | .map o st => k (.map o st)
  | .func f a b => forceL a fun a => forceL b fun b => k (.func f a b)
  | .iface t v => k (.iface t v)
  | g => k g
structure FnX where
  body : Code
  n : Nat
  rs : List ResultVar
  ro : List Nat
  ord : List (Nat × List (Nat × Nat))

/-- what the calculation looks up -/
structure Tabs where
  tab : Nat → Option (Nat × Bool)
  fld : Nat → Nat → Option (Nat × Nat × Bool)
  els : Nat → Option (Nat × Bool)
  arr : Nat → Option (Nat × Nat × Bool)
  zer : Nat → Option (List GVal)
  plc : Nat → Option (List (Nat × Nat) ⊕ Nat)
  elt : Nat → Option (Nat × Nat × List GVal)
  keyT : Nat → Option (KT × TypeId)
  zeroG : Nat → Option GVal
  aggT : Nat → Option (List Sk)
  isBool : Nat → Bool
  isStr : Nat → Bool
  isIface : Nat → Bool
  isFunc : Nat → Bool
  isPtr : Nat → Bool
  isSlice : Nat → Bool
  isMap : Nat → Bool
  intK : Nat → Option IntKind
  plain : Nat → Bool
  yes : Nat → Bool
  fn : Nat → Option FnX

structure Tabs.Ok (T : Tabs) (P : Program) : Prop where
  tab : ∀ t x, T.tab t = some x → Gv.tab P t = some x
  fld : ∀ t f x, T.fld t f = some x → Gv.fld P t f = some x
  els : ∀ t x, T.els t = some x → Gv.els P t = some x
  arr : ∀ t x, T.arr t = some x → Gv.arr P t = some x
  zer : ∀ t x, T.zer t = some x → Gv.zer P t = some x
  plc : ∀ t x, T.plc t = some x → Gv.plc P t = some x
  elt : ∀ t x, T.elt t = some x → Gv.elt P t = some x
  keyT : ∀ t x, T.keyT t = some x → Gv.keyT P t = some x
  zeroG : ∀ t x, T.zeroG t = some x → Gv.zeroG P t = some x
  aggT : ∀ t x, T.aggT t = some x → Gv.aggT P t = some x
  isBool : ∀ t, T.isBool t = true → P.underlying t = some .bool
  isStr : ∀ t, T.isStr t = true → P.underlying t = some .string
  isIface : ∀ t, T.isIface t = true → (match P.underlying t with | some (.interface _) => true | _ => false) = true
  isFunc : ∀ t, T.isFunc t = true → (match P.underlying t with | some (.func _ _ _) => true | _ => false) = true
  isPtr : ∀ t, T.isPtr t = true → (match P.underlying t with | some (.pointer _) => true | _ => false) = true
  isSlice : ∀ t, T.isSlice t = true → (match P.underlying t with | some (.slice _) => true | _ => false) = true
  isMap : ∀ t, T.isMap t = true → (match P.underlying t with | some (.map _ _) => true | _ => false) = true
  intK : ∀ t k, T.intK t = some k → P.underlying t = some (.int k)
  plain : ∀ t, T.plain t = true → (match P.underlying t with | some (.interface _) => false | some _ => true | none => false) = true
  yes : ∀ f, T.yes f = true → GPure P f [] (.bool true)
  fn : ∀ f x, T.fn f = some x → (∃ fn, P.funcs[f]? = some fn ∧ fn.body = some x.body ∧ fn.ntmps = x.n ∧ fn.results.toList = x.rs) ∧ enterable P f = true ∧ codeOk ⟨x.ro, x.ord⟩ x.body = true

variable {P : Program} {T : Tabs}

def loadX (T : Tabs) (t : TypeId) (g : GVal) (O : List GObj) : Option GVal :=
  match T.tab t with
  | some (n, ag) => if ag = true ∨ n = 1 then (match g with
    | .ref cs => if n ≤ cs.length then some (grp ag (cs.take n)) else none
    | .ptr o st i j => match O[o]? with
      | some (.row st' _ xs) => if st = st' ∧ i < xs.length ∧ j + n ≤ (xs.getD i []).length then some (grp ag (((xs.getD i []).drop j).take n)) else none
      | _ => none
    | _ => none) else none
  | none => none
noncomputable def storeX (T : Tabs) (t : TypeId) (g v : GVal) (O : List GObj) : Option (List GObj) :=
  match T.tab t with
  | some (n, _) => if (v.cells.all GVal.solid) = true ∧ v.cells.length = n then (match g with
    | .ptr o st i j => match O[o]? with
      | some (.row st' sz xs) => if st = st' ∧ i < xs.length ∧ j + n ≤ (xs.getD i []).length then forceL (splice (xs.getD i []) j v.cells) (fun r => forceL (xs.set i r) fun ys => forceL (O.set o (.row st sz ys)) fun O' => some O') else none
      | _ => none
    | _ => none) else none
  | none => none
def fieldAddrX (T : Tabs) (s : TypeId) (g : GVal) (f : Nat) : Option GVal :=
  match T.fld s f with
  | some (off, _, _) => match g with
    | .ref cs => if off ≤ cs.length then some (.ref (cs.drop off)) else none
    | .ptr o st i j => some (.ptr o st i (j + off))
    | _ => none
  | none => none
def fieldX (T : Tabs) (s : TypeId) (g : GVal) (f : Nat) : Option GVal :=
  match T.fld s f with
  | some (off, n, ag) => match g with
    | .agg cs => if (ag = true ∨ n = 1) ∧ off + n ≤ cs.length then some (grp ag ((cs.drop off).take n)) else none
    | _ => none
  | none => none
def indexAddrX (T : Tabs) (t : TypeId) (g i : GVal) (O : List GObj) : Option GVal :=
  match i with
  | .int _ n => match g with
    | .slice xs _ => match T.els t with
      | some (sz, _) => if 0 ≤ n ∧ n < xs.length ∧ (xs.getD n.toNat []).length = sz then some (.ref (xs.getD n.toNat [])) else none
      | none => none
    | .own o st off len => match T.els t with
      | some (sz, _) => match O[o]? with
        | some (.row st' sz' xs) => if st = st' ∧ sz = sz' ∧ 0 ≤ n ∧ n < len ∧ off + n.toNat < xs.length then some (.ptr o st (off + n.toNat) 0) else none
        | _ => none
      | none => none
    | .ref cs => match T.arr t with
      | some (len, sz, _) => if 0 ≤ n ∧ n < len ∧ n.toNat * sz ≤ cs.length then some (.ref (cs.drop (n.toNat * sz))) else none
      | none => none
    | .ptr o st i j => match T.arr t with
      | some (len, sz, _) => if 0 ≤ n ∧ n < len then some (.ptr o st i (j + n.toNat * sz)) else none
      | none => none
    | _ => none
  | _ => none
def indexX (T : Tabs) (t : TypeId) (g i : GVal) : Option GVal :=
  match i with
  | .int _ n => match g with
    | .agg cs => match T.arr t with
      | some (len, sz, ag) => if (ag = true ∨ sz = 1) ∧ 0 ≤ n ∧ n < len ∧ n.toNat * sz + sz ≤ cs.length then some (grp ag ((cs.drop (n.toNat * sz)).take sz)) else none
      | none => none
    | .str s => if T.isStr t = true ∧ 0 ≤ n ∧ n < s.length then some (.int .u8 (s.getD n.toNat 0).toNat) else none
    | _ => none
  | _ => none
def extractX (g : GVal) (i : Nat) : Option GVal :=
  match g with
  | .tuple vs => vs[i]?
  | _ => none
noncomputable def allocX (T : Tabs) (t : TypeId) (O : List GObj) : Option (GVal × List GObj) :=
  match T.zer t, clockOf O with
  | some cs, some n => if cs.all GVal.solid = true then forceL (tickO O ++ [.row n cs.length [cs]]) (fun O' => some (.ptr O.length n 0 0, O')) else none
  | _, _ => none
noncomputable def boxX (ro : Bool) (g : GVal) (O : List GObj) : Option (GVal × List GObj) :=
  if g.cells.all GVal.solid = true then (match ro with
    | true => some (.ref g.cells, O)
    | false => match clockOf O with
      | some n => forceL (tickO O ++ [.row n g.cells.length [g.cells]]) fun O' => some (.ptr O.length n 0 0, O')
      | none => none) else none
def buildX (T : Tabs) (t : TypeId) (gs : List (Nat × GVal)) : Option GVal :=
  match T.zer t, T.plc t with
  | some cs, some pl => if cs.all GVal.solid = true ∧ gs.all (fun p => p.2.cells.all GVal.solid) = true then (match fillG (place pl) cs gs with
    | some out => some (.agg out)
    | none => none) else none
  | _, _ => none
def buildSliceX (T : Tabs) (t : TypeId) (len : Nat) (gs : List (Nat × GVal)) : Option GVal :=
  match T.elt t with
  | some (sz, _, cs) => if len * sz ≤ 16777216 ∧ cs.all GVal.solid = true ∧ gs.all (fun p => p.2.cells.all GVal.solid) = true then (match fillE sz (List.replicate len cs) gs with
    | some out => some (.slice out .full)
    | none => none) else none
  | none => none
def sliceX (T : Tabs) (t : TypeId) (g : GVal) (lo hi mx : Option GVal) (O : List GObj) : Option GVal :=
  match g with
  | .slice xs tag => match T.els t, bound 0 lo, bound xs.length hi with
    | some (sz, _), some l, some h => match mx with
      | none => if 0 ≤ l ∧ l ≤ h ∧ h ≤ xs.length ∧ xs.all (fun x => x.length == sz) = true then (match cutTag O sz tag hi with
        | some tag' => some (.slice ((xs.take h.toNat).drop l.toNat) tag')
        | none => none) else none
      | some (.int _ m) => if l = 0 ∧ h = 0 ∧ m = 0 ∧ hi.isSome = true then some (.slice [] .full) else none
      | _ => none
    | _, _, _ => none
  | .own o st off len => match T.els t, bound 0 lo, bound len hi, mx with
    | some (sz, _), some l, some h, none => match O[o]? with
      | some (.row st' sz' xs) => if st = st' ∧ sz = sz' ∧ 0 ≤ l ∧ l ≤ h ∧ h ≤ len then some (.own o st (off + l.toNat) (h.toNat - l.toNat)) else none
      | _ => none
    | _, _, _, _ => none
  | .str s => match bound 0 lo, bound s.length hi, mx with
    | some l, some h, none => if T.isStr t = true ∧ 0 ≤ l ∧ l ≤ h ∧ h ≤ s.length then some (.str ((s.take h.toNat).drop l.toNat)) else none
    | _, _, _ => none
  | .ref cs => match T.arr t, bound 0 lo, mx with
    | some (len, 1, _), some l, none => match bound len hi with
      | some h => if 0 ≤ l ∧ l ≤ h ∧ h ≤ len ∧ len ≤ cs.length then some (.slice ((((cs.take len).map fun c => [c]).take h.toNat).drop l.toNat) (hiTag hi)) else none
      | none => none
    | _, _, _ => none
  | _ => none
def nilX (g : GVal) : Option GVal :=
  match g with
  | .ptr _ _ _ _ => some g
  | .ref _ => some g
  | .func (.func _) _ _ => some g
  | .iface _ _ => some g
  | _ => none
def binX (T : Tabs) (op : BinOp) (t : TypeId) (x y : GVal) : Option GVal :=
  match x, y with
  | .int k a, .int k' b => match op with
    | .add => if k = k' then some (.int k (norm k (a + b))) else none
    | .sub => if k = k' then some (.int k (norm k (a - b))) else none
    | .mul => if k = k' then some (.int k (norm k (a * b))) else none
    | .quo => if k = k' ∧ b ≠ 0 then some (.int k (norm k (a.tdiv b))) else none
    | .rem => if k = k' ∧ b ≠ 0 then some (.int k (a.tmod b)) else none
    | .eql => if k = k' then some (.bool (a == b)) else none
    | .neq => if k = k' then some (.bool (a != b)) else none
    | .lss => if k = k' then some (.bool (decide (a < b))) else none
    | .leq => if k = k' then some (.bool (decide (a ≤ b))) else none
    | .gtr => if k = k' then some (.bool (decide (b < a))) else none
    | .geq => if k = k' then some (.bool (decide (b ≤ a))) else none
    | .and => if k = k' then some (.int k (bits .and k a b)) else none
    | .or => if k = k' then some (.int k (bits .or k a b)) else none
    | .xor => if k = k' then some (.int k (bits .xor k a b)) else none
    | .shl => if 0 ≤ b ∧ b ≤ k.bits then some (.int k (norm k (a * 2 ^ b.toNat))) else none
    | .shr => if 0 ≤ b ∧ b ≤ k.bits then some (.int k (a / 2 ^ b.toNat)) else none
    | _ => none
  | .bool a, .bool b => match op with
    | .eql => if T.isBool t = true then some (.bool (a == b)) else none
    | .neq => if T.isBool t = true then some (.bool (a != b)) else none
    | _ => none
  | .str a, .str b => match op with
    | .eql => some (.bool (a == b))
    | .neq => some (.bool (a != b))
    | .lss => some (.bool (Op.bytesLess a b))
    | .add => if a.length + b.length ≤ 4611686018427387904 then some (.str (a ++ b)) else none
    | _ => none
  | .slice xs tag, .slice [] .nil => match op with
    | .eql => if T.isSlice t = true then (match tag with
      | .nil => some (.bool true)
      | _ => if xs.isEmpty = true then none else some (.bool false)) else none
    | .neq => if T.isSlice t = true then (match tag with
      | .nil => some (.bool false)
      | _ => if xs.isEmpty = true then none else some (.bool true)) else none
    | _ => none
  | .own _ _ _ len, .slice [] .nil => match op with
    | .eql => if T.isSlice t = true ∧ len ≠ 0 then some (.bool false) else none
    | .neq => if T.isSlice t = true ∧ len ≠ 0 then some (.bool true) else none
    | _ => none
  | .agg xs, .agg ys => match T.aggT t with
    | some ss => match cellsEq ss xs ys with
      | some r => match op with
        | .eql => some (.bool r)
        | .neq => some (.bool !r)
        | _ => none
      | none => none
    | none => none
  | .iface _ _, .lit .nilIface => match op with
    | .eql => if T.isIface t = true then some (.bool false) else none
    | .neq => if T.isIface t = true then some (.bool true) else none
    | _ => none
  | .lit .nilFunc, .lit .nilFunc => match op with
    | .eql => if T.isFunc t = true then some (.bool true) else none
    | .neq => if T.isFunc t = true then some (.bool false) else none
    | _ => none
  | .func _ _ _, .lit .nilFunc => match op with
    | .eql => if T.isFunc t = true then some (.bool false) else none
    | .neq => if T.isFunc t = true then some (.bool true) else none
    | _ => none
  | .ptr _ _ _ _, .lit (.pointer none) => match op with
    | .eql => if T.isPtr t = true then some (.bool false) else none
    | .neq => if T.isPtr t = true then some (.bool true) else none
    | _ => none
  | .lit (.pointer none), .lit (.pointer none) => match op with
    | .eql => if T.isPtr t = true then some (.bool true) else none
    | .neq => if T.isPtr t = true then some (.bool false) else none
    | _ => none
  | _, _ => none
def unX (op : UnOp) (x : GVal) : Option GVal :=
  match op, x with
  | .not, .bool b => some (.bool (!b))
  | .neg, .int k n => some (.int k (norm k (0 - n)))
  | _, _ => none
def convX (T : Tabs) (src dst : TypeId) (x : GVal) : Option GVal :=
  match x with
  | .int _ n => match T.intK src, T.intK dst with
    | some _, some k => some (.int k (norm k n))
    | _, _ => none
  | .str s => if T.isStr src = true ∧ T.isStr dst = true then some (.str s) else none
  | _ => none
def lenX (T : Tabs) (t : TypeId) (x : GVal) (O : List GObj) : Option GVal :=
  match x with
  | .slice xs _ => if T.isSlice t = true then some (.int .i64 xs.length) else none
  | .own _ _ _ len => if T.isSlice t = true then some (.int .i64 len) else none
  | .str s => if T.isStr t = true then some (.int .i64 s.length) else none
  | .map o st => if T.isMap t = true then (match O[o]? with
    | some (.map st' kv) => if st = st' then some (.int .i64 kv.length) else none
    | _ => none) else none
  | _ => none
def capX (T : Tabs) (t : TypeId) (x : GVal) : Option GVal :=
  if T.isSlice t = true then (match x with
    | .slice _ .nil => some (.int .i64 0)
    | .slice xs .full => some (.int .i64 xs.length)
    | _ => none) else none
def minX (mx : Bool) (x y : GVal) : Option GVal :=
  match x, y with
  | .int k a, .int k' b => if k = k' then some (.int k (match mx with | true => max a b | false => min a b)) else none
  | _, _ => none
def srcX (x : GVal) (O : List GObj) : Option (List (List GVal)) :=
  match x with
  | .slice ys _ => some ys
  | .own o st off len => match O[o]? with
    | some (.row st' _ xs) => if st = st' ∧ off + len ≤ xs.length then some ((xs.drop off).take len) else none
    | _ => none
  | .str b => some (b.map fun c => [GVal.int .u8 c.toNat])
  | _ => none
def asrcX (T : Tabs) (xT : TypeId) (by_ : Nat) (cs : List GVal) (x : GVal) (O : List GObj) : Option (List (List GVal)) :=
  if T.isSlice xT = true ∨ T.isStr xT = true then srcX x O else
  match T.intK xT, x with
  | some _, .int .i64 n => if cs.all GVal.solid = true ∧ 0 ≤ n ∧ n ≤ 4611686018427387904 ∧ n * by_ ≤ 281474976710656 then some (List.replicate n.toNat cs) else none
  | _, _ => none
noncomputable def appendX (T : Tabs) (ow : Bool) (sT xT : TypeId) (s x : GVal) (O : List GObj) : Option (GVal × List GObj) :=
  match T.elt sT with
  | none => none
  | some (sz, by_, zs) => match clockOf O, asrcX T xT by_ zs x O with
  | some n, some ys => if ys.all (fun y => y.length == sz) = true then (match s with
    | .slice xs tag => if xs.all (fun y => y.length == sz) = true ∧ (xs.length + ys.length) * by_ ≤ 140737488355328 ∧ xs.length + ys.length ≤ 4611686018427387904 then (match tag.cap with
      | .full => (match ow with
        | false => forceL (tickO O ++ [.tok n sz]) fun O' => some (.slice (xs ++ ys) (.tok O.length n), O')
        | true => if ys.isEmpty = false ∨ xs.isEmpty = true then forceL (xs ++ ys) (fun zs => forceL (tickO O ++ [.row n sz zs]) fun O' => some (.own O.length n 0 (xs.length + ys.length), O')) else none)
      | .tok o st => match O[o]? with
        | some (.tok st' sz') => if st = st' ∧ sz = sz' then forceL ((tickO O).set o (.tok n sz)) (fun O' => some (.slice (xs ++ ys) (.tok o n), O')) else none
        | _ => none
      | _ => none) else none
    | .own o st off len => match O[o]? with
      | some (.row st' sz' xs) => if st = st' ∧ sz = sz' ∧ off + len ≤ xs.length ∧ (len + ys.length) * by_ ≤ 140737488355328 ∧ len + ys.length ≤ 4611686018427387904 then
          forceL ((xs.drop off).take len ++ ys) (fun zs => forceL ((tickO O).set o (.row n sz zs)) fun O' => some (.own o n 0 (len + ys.length), O')) else none
      | _ => none
    | _ => none) else none
  | _, _ => none
def ifaceX (T : Tabs) (t : TypeId) (x : GVal) : Option GVal := if T.plain t = true then some (.iface t x) else none
def keyOkX (k : KT) (g : GVal) : Bool := match keyCells k g with
  | some cs => cs.length == k.ss.length
  | none => false
def lookupX (T : Tabs) (t : TypeId) (m x : GVal) (ok : Bool) (O : List GObj) : Option GVal :=
  match T.keyT t with
  | some (k, e) => match T.zeroG e with
    | some z => if keyOkX k x = true then (match m with
      | .map o st => match O[o]? with
        | some (.map st' kv) => if st = st' then (match kfind k x kv with
          | some (some i) => match kv[i]? with
            | some p => some (pairG ok true p.2)
            | none => none
          | some none => some (pairG ok false z)
          | none => none) else none
        | _ => none
      | .lit (.map none) => some (pairG ok false z)
      | _ => none) else none
    | none => none
  | none => none
noncomputable def mapPutX (T : Tabs) (t : TypeId) (m x v : GVal) (O : List GObj) : Option (List GObj) :=
  match T.keyT t with
  | some (k, _) => if keyOkX k x = true then (match m with
    | .map o st => match O[o]? with
      | some (.map st' kv) => if st = st' then (match kfind k x kv with
        | some (some i) => forceL (kv.set i (x, v)) fun kw => forceL (O.set o (.map st kw)) fun O' => some O'
        | some none => forceL (kv ++ [(x, v)]) fun kw => forceL (O.set o (.map st kw)) fun O' => some O'
        | none => none) else none
      | _ => none
    | _ => none) else none
  | none => none
noncomputable def mapCutX (T : Tabs) (t : TypeId) (m x : GVal) (O : List GObj) : Option (List GObj) :=
  match T.keyT t with
  | some (k, _) => if keyOkX k x = true then (match m with
    | .map o st => match O[o]? with
      | some (.map st' kv) => if st = st' then (match kfind k x kv with
        | some (some i) => forceL (kv.eraseIdx i) fun kw => forceL (O.set o (.map st kw)) fun O' => some O'
        | some none => some O
        | none => none) else none
      | _ => none
    | _ => none) else none
  | none => none
noncomputable def makeMapX (O : List GObj) : Option (GVal × List GObj) :=
  match clockOf O with
  | some n => forceL (tickO O ++ [.map n []]) fun O' => some (.map O.length n, O')
  | none => none
abbrev CallX := Nat → List GVal → List GObj → Option (GVal × List GObj)
def CallX.Ok (P : Program) (call : CallX) : Prop := ∀ f args O g O', call f args O = some (g, O') → GCalls P f args O (fun g' O'' => g' = g ∧ O'' = O')

def withO (O : List GObj) : Option GVal → Option (GVal × List GObj)
  | some g => some (g, O)
  | none => none
noncomputable def callX (T : Tabs) (call : CallX) (ow : Bool) (st : GSt) (c : Call) : Option (GVal × List GObj) :=
  match c.callee with
  | .builtin b => match b, c.argTypes.toList, c.args.toList with
    | .len, [t], [x] => withO st.o (lenX T t (st.ev x) st.o)
    | .append, [t, u], [x, y] => appendX T ow t u (st.ev x) (st.ev y) st.o
    | .min, _, [x, y] => withO st.o (minX false (st.ev x) (st.ev y))
    | .max, _, [x, y] => withO st.o (minX true (st.ev x) (st.ev y))
    | .delete, [t, u], [x, y] => match mapCutX T t (st.ev x) (st.ev y) st.o with
      | some O' => some (.tuple [], O')
      | none => none
    | .cap, [t], [x] => withO st.o (capX T t (st.ev x))
    | _, _, _ => none
  | .value f => match st.ev f with
    | .func (.func n) first caps => match T.yes n, first ++ c.args.toList.map st.ev ++ caps with
      | true, [] => some (.bool true, st.o)
      | _, as => call n as st.o
    | _ => none
  | _ => none
noncomputable def opx (T : Tabs) (call : CallX) (R : List Nat) (st : GSt) (o : Oper) : Option (GVal × List GObj) :=
  match o.op with
  | .move x => some (st.ev x, st.o)
  | .assign x => some (st.ev x, st.o)
  | .pick c a b => match st.ev c with
    | .bool true => some (st.ev a, st.o)
    | .bool false => some (st.ev b, st.o)
    | _ => none
  | .binOp op t x y _ => withO st.o (binX T op t (st.ev x) (st.ev y))
  | .unOp op _ x => withO st.o (unX op (st.ev x))
  | .convert s d x => withO st.o (convX T s d (st.ev x))
  | .load t x => withO st.o (loadX T t (st.ev x) st.o)
  | .store t x y => match storeX T t (st.ev x) (st.ev y) st.o with
    | some O' => some (.any, O')
    | none => none
  | .fieldAddr s x f => withO st.o (fieldAddrX T s (st.ev x) f)
  | .field s x f => withO st.o (fieldX T s (st.ev x) f)
  | .indexAddr t x i => withO st.o (indexAddrX T t (st.ev x) (st.ev i) st.o)
  | .index t x i => withO st.o (indexX T t (st.ev x) (st.ev i))
  | .extract x i => withO st.o (extractX (st.ev x) i)
  | .alloc t => allocX T t st.o
  | .lookup t x y ok => withO st.o (lookupX T t (st.ev x) (st.ev y) ok st.o)
  | .mapUpdate t x y z => match mapPutX T t (st.ev x) (st.ev y) (st.ev z) st.o with
    | some O' => some (.any, O')
    | none => none
  | .insert t x y z => match mapPutX T t (st.ev x) (st.ev y) (st.ev z) st.o with
    | some O' => some (.any, O')
    | none => none
  | .makeMap t r => match r with
    | none => makeMapX st.o
    | some _ => none
  | .box _ x => boxX (match o.dst with | some d => R.contains d | none => false) (st.ev x) st.o
  | .build t ps => withO st.o (buildX T t (ps.toList.map fun p => (p.1, st.ev p.2)))
  | .buildSlice t n ps => withO st.o (buildSliceX T t n (ps.toList.map fun p => (p.1, st.ev p.2)))
  | .slice t x lo hi mx => withO st.o (sliceX T t (st.ev x) (optV st lo) (optV st hi) (optV st mx) st.o)
  | .nilCheck x => withO st.o (nilX (st.ev x))
  | .makeInterface t x => withO st.o (ifaceX T t (st.ev x))
  | .makeFunc fn fs cs => some (.func fn (fs.toList.map st.ev) (cs.toList.map st.ev), st.o)
  | .call c => callX T call (match o.dst with | some d => R.contains d | none => false) st c
  | _ => none

end Gv
