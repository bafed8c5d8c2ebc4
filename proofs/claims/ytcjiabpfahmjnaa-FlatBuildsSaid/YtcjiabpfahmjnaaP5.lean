/- Running code over ghost values by calculation alone: what a closed call comes to. -/
import Derived.Test.YtcjiabpfahmjnaaP4
import Derived.LoopN
import Derived.RowKit3
import Derived.Below
import Derived.ChangeSame
set_option linter.unusedVariables false
namespace Gv
open Go

/-! what is reckoned is written out at once -/
noncomputable def forceL {α β : Type} (l : List α) : (List α → β) → β := List.rec (motive := fun _ => (List α → β) → β) (fun k => k []) (fun x _ ih k => ih fun r => k (x :: r)) l
theorem forceL_eq {α β : Type} (l : List α) (k : List α → β) : forceL l k = k l := by
  induction l generalizing k with
  | nil => rfl
  | cons x r ih => exact ih fun r => k (x :: r)
noncomputable def forceN {β : Type} (n : Nat) (k : Nat → β) : β := Nat.rec (motive := fun _ => β) (k 0) (fun m _ => k (m + 1)) n
theorem forceN_eq {β : Type} (n : Nat) (k : Nat → β) : forceN n k = k n := by cases n <;> rfl
noncomputable def forceI {β : Type} (n : Int) (k : Int → β) : β := Int.rec (motive := fun _ => β) (fun m => forceN m fun m => k (Int.ofNat m)) (fun m => forceN m fun m => k (Int.negSucc m)) n
theorem forceI_eq {β : Type} (n : Int) (k : Int → β) : forceI n k = k n := by
  cases n with
  | ofNat m => exact forceN_eq m fun m => k (Int.ofNat m)
  | negSucc m => exact forceN_eq m fun m => k (Int.negSucc m)
noncomputable def forceG {β : Type} (g : GVal) (k : GVal → β) : β :=
  match g with
  | .int q n => forceI n fun n => k (.int q n)
  | .bool true => k (.bool true)
  | .bool false => k (.bool false)
  | .slice xs t => forceL xs fun xs => k (.slice xs t)
  | .own o st i len => forceN i fun i => forceN len fun len => k (.own o st i len)
  | .ptr o st i j => forceN i fun i => forceN j fun j => k (.ptr o st i j)
  | .agg cs => forceL cs fun cs => k (.agg cs)
  | .tuple cs => forceL cs fun cs => k (.tuple cs)
  | .ref cs => forceL cs fun cs => k (.ref cs)
  | .str s => forceL s fun s => k (.str s)
  | .any => k .any
  | .lit v => k (.lit v)
  | .map o st => k (.map o st)
  | .func f a b => forceL a fun a => forceL b fun b => k (.func f a b)
  | .iface t v => k (.iface t v)
  | g => k g
theorem forceG_eq {β : Type} (g : GVal) (k : GVal → β) : forceG g k = k g := by
  unfold forceG
  split <;> simp only [forceI_eq, forceL_eq, forceN_eq]

structure FnX where
  body : Code
  n : Nat
  rs : List ResultVar
  ro : List Nat
  ord : List (Nat × List (Nat × Nat))

/-- what the calculation looks up -/
structure Tabs where
  tab : Nat → Option (Nat × Bool)
  fld : Nat → Nat → Option (Nat × Nat × Bool)
  els : Nat → Option (Nat × Bool)
  arr : Nat → Option (Nat × Nat × Bool)
  zer : Nat → Option (List GVal)
  plc : Nat → Option (List (Nat × Nat) ⊕ Nat)
  elt : Nat → Option (Nat × Nat × List GVal)
  keyT : Nat → Option (KT × TypeId)
  zeroG : Nat → Option GVal
  aggT : Nat → Option (List Sk)
  isBool : Nat → Bool
  isStr : Nat → Bool
  isIface : Nat → Bool
  isFunc : Nat → Bool
  isPtr : Nat → Bool
  isSlice : Nat → Bool
  isMap : Nat → Bool
  intK : Nat → Option IntKind
  plain : Nat → Bool
  yes : Nat → Bool
  fn : Nat → Option FnX

structure Tabs.Ok (T : Tabs) (P : Program) : Prop where
  tab : ∀ t x, T.tab t = some x → Gv.tab P t = some x
  fld : ∀ t f x, T.fld t f = some x → Gv.fld P t f = some x
  els : ∀ t x, T.els t = some x → Gv.els P t = some x
  arr : ∀ t x, T.arr t = some x → Gv.arr P t = some x
  zer : ∀ t x, T.zer t = some x → Gv.zer P t = some x
  plc : ∀ t x, T.plc t = some x → Gv.plc P t = some x
  elt : ∀ t x, T.elt t = some x → Gv.elt P t = some x
  keyT : ∀ t x, T.keyT t = some x → Gv.keyT P t = some x
  zeroG : ∀ t x, T.zeroG t = some x → Gv.zeroG P t = some x
  aggT : ∀ t x, T.aggT t = some x → Gv.aggT P t = some x
  isBool : ∀ t, T.isBool t = true → P.underlying t = some .bool
  isStr : ∀ t, T.isStr t = true → P.underlying t = some .string
  isIface : ∀ t, T.isIface t = true → (match P.underlying t with | some (.interface _) => true | _ => false) = true
  isFunc : ∀ t, T.isFunc t = true → (match P.underlying t with | some (.func _ _ _) => true | _ => false) = true
  isPtr : ∀ t, T.isPtr t = true → (match P.underlying t with | some (.pointer _) => true | _ => false) = true
  isSlice : ∀ t, T.isSlice t = true → (match P.underlying t with | some (.slice _) => true | _ => false) = true
  isMap : ∀ t, T.isMap t = true → (match P.underlying t with | some (.map _ _) => true | _ => false) = true
  intK : ∀ t k, T.intK t = some k → P.underlying t = some (.int k)
  plain : ∀ t, T.plain t = true → (match P.underlying t with | some (.interface _) => false | some _ => true | none => false) = true
  yes : ∀ f, T.yes f = true → GPure P f [] (.bool true)
  fn : ∀ f x, T.fn f = some x → (∃ fn, P.funcs[f]? = some fn ∧ fn.body = some x.body ∧ fn.ntmps = x.n ∧ fn.results.toList = x.rs) ∧ enterable P f = true ∧ codeOk ⟨x.ro, x.ord⟩ x.body = true

variable {P : Program} {T : Tabs}

def loadX (T : Tabs) (t : TypeId) (g : GVal) (O : List GObj) : Option GVal :=
  match T.tab t with
  | some (n, ag) => if ag = true ∨ n = 1 then (match g with
    | .ref cs => if n ≤ cs.length then some (grp ag (cs.take n)) else none
    | .ptr o st i j => match O[o]? with
      | some (.row st' _ xs) => if st = st' ∧ i < xs.length ∧ j + n ≤ (xs.getD i []).length then some (grp ag (((xs.getD i []).drop j).take n)) else none
      | _ => none
    | _ => none) else none
  | none => none
theorem loadX_ok (hT : T.Ok P) {t g O v} {K : GVal → Prop} (h : loadX T t g O = some v) (hk : K v) : loadV P t g O K := by
  unfold loadX at h; unfold loadV
  split at h
  · rename_i n ag ht
    rw [hT.tab _ _ ht]
    grind
  · cases h

noncomputable def storeX (T : Tabs) (t : TypeId) (g v : GVal) (O : List GObj) : Option (List GObj) :=
  match T.tab t with
  | some (n, _) => if (v.cells.all GVal.solid) = true ∧ v.cells.length = n then (match g with
    | .ptr o st i j => match O[o]? with
      | some (.row st' sz xs) => if st = st' ∧ i < xs.length ∧ j + n ≤ (xs.getD i []).length then forceL (splice (xs.getD i []) j v.cells) (fun r => forceL (xs.set i r) fun ys => forceL (O.set o (.row st sz ys)) fun O' => some O') else none
      | _ => none
    | _ => none) else none
  | none => none
theorem storeX_ok (hT : T.Ok P) {t g v O O'} {K : List GObj → Prop} (h : storeX T t g v O = some O') (hk : K O') : storeV P t g v O K := by
  unfold storeX at h; simp only [forceL_eq] at h; unfold storeV GVal.okCells
  split at h
  · rename_i n ag ht
    rw [hT.tab _ _ ht]
    simp only [List.all_eq_true] at h
    grind
  · cases h

def fieldAddrX (T : Tabs) (s : TypeId) (g : GVal) (f : Nat) : Option GVal :=
  match T.fld s f with
  | some (off, _, _) => match g with
    | .ref cs => if off ≤ cs.length then some (.ref (cs.drop off)) else none
    | .ptr o st i j => some (.ptr o st i (j + off))
    | _ => none
  | none => none
theorem fieldAddrX_ok (hT : T.Ok P) {s g f v} {K : GVal → Prop} (h : fieldAddrX T s g f = some v) (hk : K v) : fieldAddrV P s g f K := by
  unfold fieldAddrX at h; unfold fieldAddrV
  split at h
  · rename_i ht; rw [hT.fld _ _ _ ht]; grind
  · cases h

def fieldX (T : Tabs) (s : TypeId) (g : GVal) (f : Nat) : Option GVal :=
  match T.fld s f with
  | some (off, n, ag) => match g with
    | .agg cs => if (ag = true ∨ n = 1) ∧ off + n ≤ cs.length then some (grp ag ((cs.drop off).take n)) else none
    | _ => none
  | none => none
theorem fieldX_ok (hT : T.Ok P) {s g f v} {K : GVal → Prop} (h : fieldX T s g f = some v) (hk : K v) : fieldV P s g f K := by
  unfold fieldX at h; unfold fieldV
  split at h
  · rename_i ht; rw [hT.fld _ _ _ ht]; grind
  · cases h

def indexAddrX (T : Tabs) (t : TypeId) (g i : GVal) (O : List GObj) : Option GVal :=
  match i with
  | .int _ n => match g with
    | .slice xs _ => match T.els t with
      | some (sz, _) => if 0 ≤ n ∧ n < xs.length ∧ (xs.getD n.toNat []).length = sz then some (.ref (xs.getD n.toNat [])) else none
      | none => none
    | .own o st off len => match T.els t with
      | some (sz, _) => match O[o]? with
        | some (.row st' sz' xs) => if st = st' ∧ sz = sz' ∧ 0 ≤ n ∧ n < len ∧ off + n.toNat < xs.length then some (.ptr o st (off + n.toNat) 0) else none
        | _ => none
      | none => none
    | .ref cs => match T.arr t with
      | some (len, sz, _) => if 0 ≤ n ∧ n < len ∧ n.toNat * sz ≤ cs.length then some (.ref (cs.drop (n.toNat * sz))) else none
      | none => none
    | .ptr o st i j => match T.arr t with
      | some (len, sz, _) => if 0 ≤ n ∧ n < len then some (.ptr o st i (j + n.toNat * sz)) else none
      | none => none
    | _ => none
  | _ => none
theorem indexAddrX_ok (hT : T.Ok P) {t g i O v} {K : GVal → Prop} (h : indexAddrX T t g i O = some v) (hk : K v) : indexAddrV P t g i O K := by
  unfold indexAddrX at h; unfold indexAddrV
  have h1 := hT.els t
  have h2 := hT.arr t
  grind

def indexX (T : Tabs) (t : TypeId) (g i : GVal) : Option GVal :=
  match i with
  | .int _ n => match g with
    | .agg cs => match T.arr t with
      | some (len, sz, ag) => if (ag = true ∨ sz = 1) ∧ 0 ≤ n ∧ n < len ∧ n.toNat * sz + sz ≤ cs.length then some (grp ag ((cs.drop (n.toNat * sz)).take sz)) else none
      | none => none
    | .str s => if T.isStr t = true ∧ 0 ≤ n ∧ n < s.length then some (.int .u8 (s.getD n.toNat 0).toNat) else none
    | _ => none
  | _ => none
theorem indexX_ok (hT : T.Ok P) {t g i v} {K : GVal → Prop} (h : indexX T t g i = some v) (hk : K v) : indexV P t g i K := by
  unfold indexX at h; unfold indexV
  have h1 := hT.isStr t
  have h2 := hT.arr t
  grind

def extractX (g : GVal) (i : Nat) : Option GVal :=
  match g with
  | .tuple vs => vs[i]?
  | _ => none
theorem extractX_ok {g i v} {K : GVal → Prop} (h : extractX g i = some v) (hk : K v) : extractV g i K := by
  unfold extractX at h; unfold extractV; grind

noncomputable def allocX (T : Tabs) (t : TypeId) (O : List GObj) : Option (GVal × List GObj) :=
  match T.zer t, clockOf O with
  | some cs, some n => if cs.all GVal.solid = true then forceL (tickO O ++ [.row n cs.length [cs]]) (fun O' => some (.ptr O.length n 0 0, O')) else none
  | _, _ => none
theorem allocX_ok (hT : T.Ok P) {t O g O'} {K : GVal → List GObj → Prop} (h : allocX T t O = some (g, O')) (hk : K g O') : allocV P t O K := by
  unfold allocX at h; simp only [forceL_eq] at h; unfold allocV stamp
  split at h
  · rename_i cs n h1 h2
    rw [hT.zer _ _ h1, h2]
    simp only [List.all_eq_true] at h
    grind
  · cases h

noncomputable def boxX (ro : Bool) (g : GVal) (O : List GObj) : Option (GVal × List GObj) :=
  if g.cells.all GVal.solid = true then (match ro with
    | true => some (.ref g.cells, O)
    | false => match clockOf O with
      | some n => forceL (tickO O ++ [.row n g.cells.length [g.cells]]) fun O' => some (.ptr O.length n 0 0, O')
      | none => none) else none
theorem boxX_ok {ro g O v O'} {K : GVal → List GObj → Prop} (h : boxX ro g O = some (v, O')) (hk : K v O') : boxV ro g O K := by
  unfold boxX at h; simp only [forceL_eq] at h; unfold boxV stamp GVal.okCells
  simp only [List.all_eq_true] at h
  split at h
  · refine ⟨by assumption, ?_⟩
    cases ro with
    | true => simp at h; obtain ⟨rfl, rfl⟩ := h; exact hk
    | false =>
      simp only at h ⊢
      split at h
      · rename_i n hc; rw [hc]; simp at h; obtain ⟨rfl, rfl⟩ := h; exact hk
      · cases h
  · cases h

def buildX (T : Tabs) (t : TypeId) (gs : List (Nat × GVal)) : Option GVal :=
  match T.zer t, T.plc t with
  | some cs, some pl => if cs.all GVal.solid = true ∧ gs.all (fun p => p.2.cells.all GVal.solid) = true then (match fillG (place pl) cs gs with
    | some out => some (.agg out)
    | none => none) else none
  | _, _ => none
theorem buildX_ok (hT : T.Ok P) {t gs v} {K : GVal → Prop} (h : buildX T t gs = some v) (hk : K v) : buildV P t gs K := by
  unfold buildX at h; unfold buildV GVal.okCells
  split at h
  · rename_i cs n h1 h2
    rw [hT.zer _ _ h1, hT.plc _ _ h2]
    simp only [List.all_eq_true] at h
    grind
  · cases h

def buildSliceX (T : Tabs) (t : TypeId) (len : Nat) (gs : List (Nat × GVal)) : Option GVal :=
  match T.elt t with
  | some (sz, _, cs) => if len * sz ≤ 16777216 ∧ cs.all GVal.solid = true ∧ gs.all (fun p => p.2.cells.all GVal.solid) = true then (match fillE sz (List.replicate len cs) gs with
    | some out => some (.slice out .full)
    | none => none) else none
  | none => none
theorem buildSliceX_ok (hT : T.Ok P) {t len gs v} {K : GVal → Prop} (h : buildSliceX T t len gs = some v) (hk : K v) : buildSliceV P t len gs K := by
  unfold buildSliceX at h; unfold buildSliceV GVal.okCells
  split at h
  · rename_i sz b cs h1
    rw [hT.elt _ _ h1]
    simp only [List.all_eq_true] at h
    grind
  · cases h

def sliceX (T : Tabs) (t : TypeId) (g : GVal) (lo hi mx : Option GVal) (O : List GObj) : Option GVal :=
  match g with
  | .slice xs tag => match T.els t, bound 0 lo, bound xs.length hi with
    | some (sz, _), some l, some h => match mx with
      | none => if 0 ≤ l ∧ l ≤ h ∧ h ≤ xs.length ∧ xs.all (fun x => x.length == sz) = true then (match cutTag O sz tag hi with
        | some tag' => some (.slice ((xs.take h.toNat).drop l.toNat) tag')
        | none => none) else none
      | some (.int _ m) => if l = 0 ∧ h = 0 ∧ m = 0 ∧ hi.isSome = true then some (.slice [] .full) else none
      | _ => none
    | _, _, _ => none
  | .own o st off len => match T.els t, bound 0 lo, bound len hi, mx with
    | some (sz, _), some l, some h, none => match O[o]? with
      | some (.row st' sz' xs) => if st = st' ∧ sz = sz' ∧ 0 ≤ l ∧ l ≤ h ∧ h ≤ len then some (.own o st (off + l.toNat) (h.toNat - l.toNat)) else none
      | _ => none
    | _, _, _, _ => none
  | .str s => match bound 0 lo, bound s.length hi, mx with
    | some l, some h, none => if T.isStr t = true ∧ 0 ≤ l ∧ l ≤ h ∧ h ≤ s.length then some (.str ((s.take h.toNat).drop l.toNat)) else none
    | _, _, _ => none
  | .ref cs => match T.arr t, bound 0 lo, mx with
    | some (len, 1, _), some l, none => match bound len hi with
      | some h => if 0 ≤ l ∧ l ≤ h ∧ h ≤ len ∧ len ≤ cs.length then some (.slice ((((cs.take len).map fun c => [c]).take h.toNat).drop l.toNat) (hiTag hi)) else none
      | none => none
    | _, _, _ => none
  | _ => none
theorem sliceX_ok (hT : T.Ok P) {t g lo hi mx O v} {K : GVal → Prop} (h : sliceX T t g lo hi mx O = some v) (hk : K v) : sliceV P t g lo hi mx O K := by
  unfold sliceX at h; unfold sliceV
  have h1 := hT.els t
  have h2 := hT.arr t
  have h3 := hT.isStr t
  simp only [List.all_eq_true, beq_iff_eq] at h
  split at h
  · split at h
    · rename_i e1 e2 e3
      simp only [h1 _ e1, e2, e3]
      grind
    · cases h
  · split at h
    · rename_i e1 e2 e3
      simp only [h1 _ e1, e2, e3]
      grind
    · cases h
  · split at h
    · rename_i e1 e2
      simp only [e1, e2]
      grind
    · cases h
  · split at h
    · rename_i e1 e2
      simp only [h2 _ e1, e2]
      grind
    · cases h
  · cases h

def nilX (g : GVal) : Option GVal :=
  match g with
  | .ptr _ _ _ _ => some g
  | .ref _ => some g
  | .func (.func _) _ _ => some g
  | .iface _ _ => some g
  | _ => none
theorem nilX_ok {g v} {K : GVal → Prop} (h : nilX g = some v) (hk : K v) : nilV g K := by
  unfold nilX at h; unfold nilV; grind

def binX (T : Tabs) (op : BinOp) (t : TypeId) (x y : GVal) : Option GVal :=
  match x, y with
  | .int k a, .int k' b => match op with
    | .add => if k = k' then some (.int k (norm k (a + b))) else none
    | .sub => if k = k' then some (.int k (norm k (a - b))) else none
    | .mul => if k = k' then some (.int k (norm k (a * b))) else none
    | .quo => if k = k' ∧ b ≠ 0 then some (.int k (norm k (a.tdiv b))) else none
    | .rem => if k = k' ∧ b ≠ 0 then some (.int k (a.tmod b)) else none
    | .eql => if k = k' then some (.bool (a == b)) else none
    | .neq => if k = k' then some (.bool (a != b)) else none
    | .lss => if k = k' then some (.bool (decide (a < b))) else none
    | .leq => if k = k' then some (.bool (decide (a ≤ b))) else none
    | .gtr => if k = k' then some (.bool (decide (b < a))) else none
    | .geq => if k = k' then some (.bool (decide (b ≤ a))) else none
    | .and => if k = k' then some (.int k (bits .and k a b)) else none
    | .or => if k = k' then some (.int k (bits .or k a b)) else none
    | .xor => if k = k' then some (.int k (bits .xor k a b)) else none
    | .shl => if 0 ≤ b ∧ b ≤ k.bits then some (.int k (norm k (a * 2 ^ b.toNat))) else none
    | .shr => if 0 ≤ b ∧ b ≤ k.bits then some (.int k (a / 2 ^ b.toNat)) else none
    | _ => none
  | .bool a, .bool b => match op with
    | .eql => if T.isBool t = true then some (.bool (a == b)) else none
    | .neq => if T.isBool t = true then some (.bool (a != b)) else none
    | _ => none
  | .str a, .str b => match op with
    | .eql => some (.bool (a == b))
    | .neq => some (.bool (a != b))
    | .lss => some (.bool (Op.bytesLess a b))
    | .add => if a.length + b.length ≤ 4611686018427387904 then some (.str (a ++ b)) else none
    | _ => none
  | .slice xs tag, .slice [] .nil => match op with
    | .eql => if T.isSlice t = true then (match tag with
      | .nil => some (.bool true)
      | _ => if xs.isEmpty = true then none else some (.bool false)) else none
    | .neq => if T.isSlice t = true then (match tag with
      | .nil => some (.bool false)
      | _ => if xs.isEmpty = true then none else some (.bool true)) else none
    | _ => none
  | .own _ _ _ len, .slice [] .nil => match op with
    | .eql => if T.isSlice t = true ∧ len ≠ 0 then some (.bool false) else none
    | .neq => if T.isSlice t = true ∧ len ≠ 0 then some (.bool true) else none
    | _ => none
  | .agg xs, .agg ys => match T.aggT t with
    | some ss => match cellsEq ss xs ys with
      | some r => match op with
        | .eql => some (.bool r)
        | .neq => some (.bool !r)
        | _ => none
      | none => none
    | none => none
  | .iface _ _, .lit .nilIface => match op with
    | .eql => if T.isIface t = true then some (.bool false) else none
    | .neq => if T.isIface t = true then some (.bool true) else none
    | _ => none
  | .lit .nilFunc, .lit .nilFunc => match op with
    | .eql => if T.isFunc t = true then some (.bool true) else none
    | .neq => if T.isFunc t = true then some (.bool false) else none
    | _ => none
  | .func _ _ _, .lit .nilFunc => match op with
    | .eql => if T.isFunc t = true then some (.bool false) else none
    | .neq => if T.isFunc t = true then some (.bool true) else none
    | _ => none
  | .ptr _ _ _ _, .lit (.pointer none) => match op with
    | .eql => if T.isPtr t = true then some (.bool false) else none
    | .neq => if T.isPtr t = true then some (.bool true) else none
    | _ => none
  | .lit (.pointer none), .lit (.pointer none) => match op with
    | .eql => if T.isPtr t = true then some (.bool true) else none
    | .neq => if T.isPtr t = true then some (.bool false) else none
    | _ => none
  | _, _ => none
theorem binX_ok (hT : T.Ok P) {op t x y v} {K : GVal → Prop} (h : binX T op t x y = some v) (hk : K v) : binV P op t x y K := by
  unfold binX at h; unfold binV
  have h1 := hT.isBool t
  have h2 := hT.isIface t
  have h3 := hT.isFunc t
  have h4 := hT.isPtr t
  have h5 := hT.isSlice t
  split at h
  · cases op <;> grind
  · cases op <;> grind
  · cases op <;> grind
  · cases op <;> first | (cases h; done) | (simp only at h; split at h <;> first | (cases h; done) | (rename_i e; refine ⟨h5 e, ?_⟩; grind))
  · cases op <;> first | (cases h; done) | (simp only at h; split at h <;> first | (cases h; done) | (rename_i e; refine ⟨h5 e.1, ?_⟩; grind))
  · split at h
    · rename_i ss e1
      have e2 := hT.aggT _ _ e1
      split at h
      · rename_i r e3
        cases op <;> first | (cases h; done) | (simp only at h; cases h; simp only [aggV, e2, e3]; exact hk)
      · cases h
    · cases h
  · cases op <;> first | (cases h; done) | (simp only at h; split at h <;> first | (cases h; done) | (rename_i e; cases h; exact ⟨h2 e, hk⟩))
  · cases op <;> first | (cases h; done) | (simp only at h; split at h <;> first | (cases h; done) | (rename_i e; cases h; exact ⟨h3 e, hk⟩))
  · cases op <;> first | (cases h; done) | (simp only at h; split at h <;> first | (cases h; done) | (rename_i e; cases h; exact ⟨h3 e, hk⟩))
  · cases op <;> first | (cases h; done) | (simp only at h; split at h <;> first | (cases h; done) | (rename_i e; cases h; exact ⟨h4 e, hk⟩))
  · cases op <;> first | (cases h; done) | (simp only at h; split at h <;> first | (cases h; done) | (rename_i e; cases h; exact ⟨h4 e, hk⟩))
  · cases h

def unX (op : UnOp) (x : GVal) : Option GVal :=
  match op, x with
  | .not, .bool b => some (.bool (!b))
  | .neg, .int k n => some (.int k (norm k (0 - n)))
  | _, _ => none
theorem unX_ok {op x v} {K : GVal → Prop} (h : unX op x = some v) (hk : K v) : unV op x K := by
  unfold unX at h; unfold unV; grind

def convX (T : Tabs) (src dst : TypeId) (x : GVal) : Option GVal :=
  match x with
  | .int _ n => match T.intK src, T.intK dst with
    | some _, some k => some (.int k (norm k n))
    | _, _ => none
  | .str s => if T.isStr src = true ∧ T.isStr dst = true then some (.str s) else none
  | _ => none
theorem convX_ok (hT : T.Ok P) {s d x v} {K : GVal → Prop} (h : convX T s d x = some v) (hk : K v) : convV P s d x K := by
  unfold convX at h; unfold convV
  have h1 := hT.isStr s
  have h2 := hT.isStr d
  have h3 := hT.intK s
  have h4 := hT.intK d
  split at h
  · split at h
    · rename_i e1 e2; rw [h3 _ e1, h4 _ e2]; grind
    · cases h
  · grind
  · cases h

def lenX (T : Tabs) (t : TypeId) (x : GVal) (O : List GObj) : Option GVal :=
  match x with
  | .slice xs _ => if T.isSlice t = true then some (.int .i64 xs.length) else none
  | .own _ _ _ len => if T.isSlice t = true then some (.int .i64 len) else none
  | .str s => if T.isStr t = true then some (.int .i64 s.length) else none
  | .map o st => if T.isMap t = true then (match O[o]? with
    | some (.map st' kv) => if st = st' then some (.int .i64 kv.length) else none
    | _ => none) else none
  | _ => none
theorem lenX_ok (hT : T.Ok P) {t x O v} {K : GVal → Prop} (h : lenX T t x O = some v) (hk : K v) : lenV P t x O K := by
  unfold lenX at h; unfold lenV
  have h1 := hT.isSlice t
  have h2 := hT.isStr t
  have h3 := hT.isMap t
  grind

def capX (T : Tabs) (t : TypeId) (x : GVal) : Option GVal :=
  if T.isSlice t = true then (match x with
    | .slice _ .nil => some (.int .i64 0)
    | .slice xs .full => some (.int .i64 xs.length)
    | _ => none) else none
theorem capX_ok (hT : T.Ok P) {t x v} {K : GVal → Prop} (h : capX T t x = some v) (hk : K v) : capV P t x K := by
  unfold capX at h; unfold capV
  have h1 := hT.isSlice t
  split at h
  · rename_i e
    refine ⟨h1 e, ?_⟩
    split at h
    · cases h; exact hk
    · cases h; exact hk
    · cases h
  · cases h
def minX (mx : Bool) (x y : GVal) : Option GVal :=
  match x, y with
  | .int k a, .int k' b => if k = k' then some (.int k (match mx with | true => max a b | false => min a b)) else none
  | _, _ => none
theorem minX_ok {mx x y v} {K : GVal → Prop} (h : minX mx x y = some v) (hk : K v) : minV mx [x, y] K := by
  unfold minX at h; unfold minV; grind

def srcX (x : GVal) (O : List GObj) : Option (List (List GVal)) :=
  match x with
  | .slice ys _ => some ys
  | .own o st off len => match O[o]? with
    | some (.row st' _ xs) => if st = st' ∧ off + len ≤ xs.length then some ((xs.drop off).take len) else none
    | _ => none
  | .str b => some (b.map fun c => [GVal.int .u8 c.toNat])
  | _ => none
theorem srcX_ok {x O ys} {K : List (List GVal) → Prop} (h : srcX x O = some ys) (hk : K ys) : srcV x O K := by
  unfold srcX at h; unfold srcV; grind

def asrcX (T : Tabs) (xT : TypeId) (by_ : Nat) (cs : List GVal) (x : GVal) (O : List GObj) : Option (List (List GVal)) :=
  if T.isSlice xT = true ∨ T.isStr xT = true then srcX x O else
  match T.intK xT, x with
  | some _, .int .i64 n => if cs.all GVal.solid = true ∧ 0 ≤ n ∧ n ≤ 4611686018427387904 ∧ n * by_ ≤ 281474976710656 then some (List.replicate n.toNat cs) else none
  | _, _ => none
theorem asrcX_ok (hT : T.Ok P) {xT by_ cs x O ys} {K : List (List GVal) → Prop} (h : asrcX T xT by_ cs x O = some ys) (hk : K ys) : asrcV P xT by_ cs x O K := by
  unfold asrcX at h; unfold asrcV
  split at h
  · rename_i h4
    have : notInt P xT = true := by
      unfold notInt
      rcases h4 with h5 | h5
      · have := hT.isSlice _ h5
        split at this <;> simp_all
      · rw [hT.isStr _ h5]
    rw [this]
    exact srcX_ok h hk
  · split at h
    · rename_i k n e1
      have hu := hT.intK _ _ e1
      have : notInt P xT = false := by unfold notInt; rw [hu]
      rw [this]
      split at h
      · rename_i hc
        cases h
        simp only [List.all_eq_true] at hc
        exact ⟨by rw [hu], hc.1, hc.2.1, hc.2.2.1, hc.2.2.2, hk⟩
      · cases h
    · cases h

noncomputable def appendX (T : Tabs) (ow : Bool) (sT xT : TypeId) (s x : GVal) (O : List GObj) : Option (GVal × List GObj) :=
  match T.elt sT with
  | none => none
  | some (sz, by_, zs) => match clockOf O, asrcX T xT by_ zs x O with
  | some n, some ys => if ys.all (fun y => y.length == sz) = true then (match s with
    | .slice xs tag => if xs.all (fun y => y.length == sz) = true ∧ (xs.length + ys.length) * by_ ≤ 140737488355328 ∧ xs.length + ys.length ≤ 4611686018427387904 then (match tag.cap with
      | .full => (match ow with
        | false => forceL (tickO O ++ [.tok n sz]) fun O' => some (.slice (xs ++ ys) (.tok O.length n), O')
        | true => if ys.isEmpty = false ∨ xs.isEmpty = true then forceL (xs ++ ys) (fun zs => forceL (tickO O ++ [.row n sz zs]) fun O' => some (.own O.length n 0 (xs.length + ys.length), O')) else none)
      | .tok o st => match O[o]? with
        | some (.tok st' sz') => if st = st' ∧ sz = sz' then forceL ((tickO O).set o (.tok n sz)) (fun O' => some (.slice (xs ++ ys) (.tok o n), O')) else none
        | _ => none
      | _ => none) else none
    | .own o st off len => match O[o]? with
      | some (.row st' sz' xs) => if st = st' ∧ sz = sz' ∧ off + len ≤ xs.length ∧ (len + ys.length) * by_ ≤ 140737488355328 ∧ len + ys.length ≤ 4611686018427387904 then
          forceL ((xs.drop off).take len ++ ys) (fun zs => forceL ((tickO O).set o (.row n sz zs)) fun O' => some (.own o n 0 (len + ys.length), O')) else none
      | _ => none
    | _ => none) else none
  | _, _ => none
theorem appendX_ok (hT : T.Ok P) {ow sT xT s x O v O'} {K : GVal → List GObj → Prop} (h : appendX T ow sT xT s x O = some (v, O')) (hk : K v O') : appendV P ow sT xT s x O K := by
  unfold appendX at h; simp only [forceL_eq] at h; unfold appendV
  split at h
  · cases h
  · rename_i sz b cs h1
    rw [hT.elt _ _ h1]
    split at h
    · rename_i n ys h2 h3
      split at h
      · rename_i h4
        refine asrcX_ok hT h3 ?_
        have h5 := h4
        simp only [List.all_eq_true, beq_iff_eq] at h5 h
        refine ⟨h5, ?_⟩
        unfold stamp
        rw [h2]
        cases ow <;> grind
      · cases h
    · cases h

def ifaceX (T : Tabs) (t : TypeId) (x : GVal) : Option GVal := if T.plain t = true then some (.iface t x) else none
theorem ifaceX_ok (hT : T.Ok P) {t x v} {K : GVal → Prop} (h : ifaceX T t x = some v) (hk : K v) : ifaceV P t x K := by
  unfold ifaceX at h; unfold ifaceV
  split at h
  · rename_i e; cases h; exact ⟨hT.plain _ e, hk⟩
  · cases h

def keyOkX (k : KT) (g : GVal) : Bool := match keyCells k g with
  | some cs => cs.length == k.ss.length
  | none => false
theorem keyOkX_ok {k : KT} {g : GVal} (h : keyOkX k g = true) : keyOk k g := by
  unfold keyOkX at h; unfold keyOk
  split at h
  · rename_i cs e; simp only [e]; simpa using h
  · cases h
def lookupX (T : Tabs) (t : TypeId) (m x : GVal) (ok : Bool) (O : List GObj) : Option GVal :=
  match T.keyT t with
  | some (k, e) => match T.zeroG e with
    | some z => if keyOkX k x = true then (match m with
      | .map o st => match O[o]? with
        | some (.map st' kv) => if st = st' then (match kfind k x kv with
          | some (some i) => match kv[i]? with
            | some p => some (pairG ok true p.2)
            | none => none
          | some none => some (pairG ok false z)
          | none => none) else none
        | _ => none
      | .lit (.map none) => some (pairG ok false z)
      | _ => none) else none
    | none => none
  | none => none
theorem lookupX_ok (hT : T.Ok P) {t m x ok O v} {K : GVal → Prop} (h : lookupX T t m x ok O = some v) (hk : K v) : lookupV P t m x ok O K := by
  unfold lookupX at h; unfold lookupV
  split at h
  · rename_i k e e1
    rw [hT.keyT _ _ e1]
    split at h
    · rename_i z e2
      simp only [hT.zeroG _ _ e2]
      split at h
      · rename_i e3
        refine ⟨keyOkX_ok e3, ?_⟩
        split at h
        · split at h
          · rename_i hO
            simp only [hO]
            split at h
            · rename_i e4
              refine ⟨e4, ?_⟩
              split at h
              · rename_i e5
                split at h
                · rename_i e6; cases h; simp only [e5, e6]; exact hk
                · cases h
              · rename_i e5; cases h; simp only [e5]; exact hk
              · cases h
            · cases h
          · cases h
        · cases h; exact hk
        · cases h
      · cases h
    · cases h
  · cases h
noncomputable def mapPutX (T : Tabs) (t : TypeId) (m x v : GVal) (O : List GObj) : Option (List GObj) :=
  match T.keyT t with
  | some (k, _) => if keyOkX k x = true then (match m with
    | .map o st => match O[o]? with
      | some (.map st' kv) => if st = st' then (match kfind k x kv with
        | some (some i) => forceL (kv.set i (x, v)) fun kw => forceL (O.set o (.map st kw)) fun O' => some O'
        | some none => forceL (kv ++ [(x, v)]) fun kw => forceL (O.set o (.map st kw)) fun O' => some O'
        | none => none) else none
      | _ => none
    | _ => none) else none
  | none => none
theorem mapPutX_ok (hT : T.Ok P) {t m x v O O'} {K : List GObj → Prop} (h : mapPutX T t m x v O = some O') (hk : K O') : mapUpdateV P t m x v O K := by
  unfold mapPutX at h; simp only [forceL_eq] at h; unfold mapUpdateV
  split at h
  · rename_i k e e1
    rw [hT.keyT _ _ e1]
    split at h
    · rename_i e3
      refine ⟨keyOkX_ok e3, ?_⟩
      split at h
      · split at h
        · rename_i hO
          simp only [hO]
          split at h
          · rename_i e4
            refine ⟨e4, ?_⟩
            split at h
            · rename_i e5; cases h; simp only [e5]; exact hk
            · rename_i e5; cases h; simp only [e5]; exact hk
            · cases h
          · cases h
        · cases h
      · cases h
    · cases h
  · cases h
noncomputable def mapCutX (T : Tabs) (t : TypeId) (m x : GVal) (O : List GObj) : Option (List GObj) :=
  match T.keyT t with
  | some (k, _) => if keyOkX k x = true then (match m with
    | .map o st => match O[o]? with
      | some (.map st' kv) => if st = st' then (match kfind k x kv with
        | some (some i) => forceL (kv.eraseIdx i) fun kw => forceL (O.set o (.map st kw)) fun O' => some O'
        | some none => some O
        | none => none) else none
      | _ => none
    | _ => none) else none
  | none => none
theorem mapCutX_ok (hT : T.Ok P) {t m x O O'} {K : List GObj → Prop} (h : mapCutX T t m x O = some O') (hk : K O') : deleteV P t m x O K := by
  unfold mapCutX at h; simp only [forceL_eq] at h; unfold deleteV
  split at h
  · rename_i k e e1
    rw [hT.keyT _ _ e1]
    split at h
    · rename_i e3
      refine ⟨keyOkX_ok e3, ?_⟩
      split at h
      · split at h
        · rename_i hO
          simp only [hO]
          split at h
          · rename_i e4
            refine ⟨e4, ?_⟩
            split at h
            · rename_i e5; cases h; simp only [e5]; exact hk
            · rename_i e5; cases h; simp only [e5]; exact hk
            · cases h
          · cases h
        · cases h
      · cases h
    · cases h
  · cases h
noncomputable def makeMapX (O : List GObj) : Option (GVal × List GObj) :=
  match clockOf O with
  | some n => forceL (tickO O ++ [.map n []]) fun O' => some (.map O.length n, O')
  | none => none
theorem makeMapX_ok {O v O'} {K : GVal → List GObj → Prop} (h : makeMapX O = some (v, O')) (hk : K v O') : makeMapV O K := by
  unfold makeMapX at h; simp only [forceL_eq] at h; unfold makeMapV stamp
  split at h
  · rename_i n e; cases h; rw [e]; exact hk
  · cases h

abbrev CallX := Nat → List GVal → List GObj → Option (GVal × List GObj)
def CallX.Ok (P : Program) (call : CallX) : Prop := ∀ f args O g O', call f args O = some (g, O') → GCalls P f args O (fun g' O'' => g' = g ∧ O'' = O')

def withO (O : List GObj) : Option GVal → Option (GVal × List GObj)
  | some g => some (g, O)
  | none => none
theorem withO_some {O : List GObj} {x : Option GVal} {g O'} (h : withO O x = some (g, O')) : x = some g ∧ O' = O := by
  unfold withO at h; grind

noncomputable def callX (T : Tabs) (call : CallX) (ow : Bool) (st : GSt) (c : Call) : Option (GVal × List GObj) :=
  match c.callee with
  | .builtin b => match b, c.argTypes.toList, c.args.toList with
    | .len, [t], [x] => withO st.o (lenX T t (st.ev x) st.o)
    | .append, [t, u], [x, y] => appendX T ow t u (st.ev x) (st.ev y) st.o
    | .min, _, [x, y] => withO st.o (minX false (st.ev x) (st.ev y))
    | .max, _, [x, y] => withO st.o (minX true (st.ev x) (st.ev y))
    | .delete, [t, u], [x, y] => match mapCutX T t (st.ev x) (st.ev y) st.o with
      | some O' => some (.tuple [], O')
      | none => none
    | .cap, [t], [x] => withO st.o (capX T t (st.ev x))
    | _, _, _ => none
  | .value f => match st.ev f with
    | .func (.func n) first caps => match T.yes n, first ++ c.args.toList.map st.ev ++ caps with
      | true, [] => some (.bool true, st.o)
      | _, as => call n as st.o
    | _ => none
  | _ => none
theorem callX_ok (hT : T.Ok P) {call : CallX} (hc : call.Ok P) {ow st c g O'} (h : callX T call ow st c = some (g, O')) : callV P ow st c (fun g' O'' => g' = g ∧ O'' = O') := by
  unfold callX at h; unfold callV
  split at h
  · split at h
    · rename_i e1 e2 e3
      obtain ⟨h1, rfl⟩ := withO_some h
      simp only [e1, e2, e3]
      exact lenX_ok hT h1 (by simp)
    · rename_i e1 e2 e3
      simp only [e1, e2, e3]
      exact appendX_ok hT h ⟨rfl, rfl⟩
    · rename_i e1 e3
      obtain ⟨h1, rfl⟩ := withO_some h
      simp only [e1, e3]
      exact minX_ok h1 (by simp)
    · rename_i e1 e3
      obtain ⟨h1, rfl⟩ := withO_some h
      simp only [e1, e3]
      exact minX_ok h1 (by simp)
    · rename_i e1 e2 e3
      simp only [e1, e2, e3]
      split at h
      · rename_i O1 e4; cases h; exact mapCutX_ok hT e4 ⟨rfl, rfl⟩
      · cases h
    · rename_i e1 e2 e3
      obtain ⟨h1, rfl⟩ := withO_some h
      simp only [e1, e2, e3]
      exact capX_ok hT h1 (by simp)
    · cases h
  · rename_i e1
    simp only [e1]
    split at h
    · rename_i n first caps e2
      rw [e2]
      simp only
      split at h
      · rename_i hy ha; cases h; rw [ha]; exact (hT.yes _ hy).apart rfl rfl st.o
      · exact hc _ _ _ _ _ h
    · cases h
  · cases h

noncomputable def opx (T : Tabs) (call : CallX) (R : List Nat) (st : GSt) (o : Oper) : Option (GVal × List GObj) :=
  match o.op with
  | .move x => some (st.ev x, st.o)
  | .assign x => some (st.ev x, st.o)
  | .pick c a b => match st.ev c with
    | .bool true => some (st.ev a, st.o)
    | .bool false => some (st.ev b, st.o)
    | _ => none
  | .binOp op t x y _ => withO st.o (binX T op t (st.ev x) (st.ev y))
  | .unOp op _ x => withO st.o (unX op (st.ev x))
  | .convert s d x => withO st.o (convX T s d (st.ev x))
  | .load t x => withO st.o (loadX T t (st.ev x) st.o)
  | .store t x y => match storeX T t (st.ev x) (st.ev y) st.o with
    | some O' => some (.any, O')
    | none => none
  | .fieldAddr s x f => withO st.o (fieldAddrX T s (st.ev x) f)
  | .field s x f => withO st.o (fieldX T s (st.ev x) f)
  | .indexAddr t x i => withO st.o (indexAddrX T t (st.ev x) (st.ev i) st.o)
  | .index t x i => withO st.o (indexX T t (st.ev x) (st.ev i))
  | .extract x i => withO st.o (extractX (st.ev x) i)
  | .alloc t => allocX T t st.o
  | .lookup t x y ok => withO st.o (lookupX T t (st.ev x) (st.ev y) ok st.o)
  | .mapUpdate t x y z => match mapPutX T t (st.ev x) (st.ev y) (st.ev z) st.o with
    | some O' => some (.any, O')
    | none => none
  | .insert t x y z => match mapPutX T t (st.ev x) (st.ev y) (st.ev z) st.o with
    | some O' => some (.any, O')
    | none => none
  | .makeMap t r => match r with
    | none => makeMapX st.o
    | some _ => none
  | .box _ x => boxX (match o.dst with | some d => R.contains d | none => false) (st.ev x) st.o
  | .build t ps => withO st.o (buildX T t (ps.toList.map fun p => (p.1, st.ev p.2)))
  | .buildSlice t n ps => withO st.o (buildSliceX T t n (ps.toList.map fun p => (p.1, st.ev p.2)))
  | .slice t x lo hi mx => withO st.o (sliceX T t (st.ev x) (optV st lo) (optV st hi) (optV st mx) st.o)
  | .nilCheck x => withO st.o (nilX (st.ev x))
  | .makeInterface t x => withO st.o (ifaceX T t (st.ev x))
  | .makeFunc fn fs cs => some (.func fn (fs.toList.map st.ev) (cs.toList.map st.ev), st.o)
  | .call c => callX T call (match o.dst with | some d => R.contains d | none => false) st c
  | _ => none

theorem opx_ok (hT : T.Ok P) {call : CallX} (hc : call.Ok P) {R st o g O'} (h : opx T call R st o = some (g, O')) : opv P R st o (fun g' O'' => g' = g ∧ O'' = O') := by
  unfold opx at h; unfold opv
  split at h <;> rename_i eo <;> simp only [eo]
  · cases h; exact ⟨rfl, rfl⟩
  · cases h; exact ⟨rfl, rfl⟩
  · split at h
    · rename_i e; cases h; rw [e]; exact ⟨rfl, rfl⟩
    · rename_i e; cases h; rw [e]; exact ⟨rfl, rfl⟩
    · cases h
  · obtain ⟨h1, rfl⟩ := withO_some h; exact binX_ok hT h1 ⟨rfl, rfl⟩
  · obtain ⟨h1, rfl⟩ := withO_some h; exact unX_ok h1 ⟨rfl, rfl⟩
  · obtain ⟨h1, rfl⟩ := withO_some h; exact convX_ok hT h1 ⟨rfl, rfl⟩
  · obtain ⟨h1, rfl⟩ := withO_some h; exact loadX_ok hT h1 ⟨rfl, rfl⟩
  · split at h
    · rename_i e; cases h; exact storeX_ok hT e ⟨rfl, rfl⟩
    · cases h
  · obtain ⟨h1, rfl⟩ := withO_some h; exact fieldAddrX_ok hT h1 ⟨rfl, rfl⟩
  · obtain ⟨h1, rfl⟩ := withO_some h; exact fieldX_ok hT h1 ⟨rfl, rfl⟩
  · obtain ⟨h1, rfl⟩ := withO_some h; exact indexAddrX_ok hT h1 ⟨rfl, rfl⟩
  · obtain ⟨h1, rfl⟩ := withO_some h; exact indexX_ok hT h1 ⟨rfl, rfl⟩
  · obtain ⟨h1, rfl⟩ := withO_some h; exact extractX_ok h1 ⟨rfl, rfl⟩
  · exact allocX_ok hT h ⟨rfl, rfl⟩
  · obtain ⟨h1, rfl⟩ := withO_some h; exact lookupX_ok hT h1 ⟨rfl, rfl⟩
  · split at h
    · rename_i e; cases h; exact mapPutX_ok hT e ⟨rfl, rfl⟩
    · cases h
  · split at h
    · rename_i e; cases h; exact mapPutX_ok hT e ⟨rfl, rfl⟩
    · cases h
  · split at h
    · exact makeMapX_ok h ⟨rfl, rfl⟩
    · cases h
  · exact boxX_ok h ⟨rfl, rfl⟩
  · obtain ⟨h1, rfl⟩ := withO_some h; exact buildX_ok hT h1 ⟨rfl, rfl⟩
  · obtain ⟨h1, rfl⟩ := withO_some h; exact buildSliceX_ok hT h1 ⟨rfl, rfl⟩
  · obtain ⟨h1, rfl⟩ := withO_some h; exact sliceX_ok hT h1 ⟨rfl, rfl⟩
  · obtain ⟨h1, rfl⟩ := withO_some h; exact nilX_ok h1 ⟨rfl, rfl⟩
  · obtain ⟨h1, rfl⟩ := withO_some h; exact ifaceX_ok hT h1 ⟨rfl, rfl⟩
  · cases h; exact ⟨rfl, rfl⟩
  · exact callX_ok hT hc h
  · cases h

end Gv
/- The calculation in small pieces: what the kernel unfolds stays small. -/
set_option linter.unusedVariables false
namespace Gv
open Go

variable {P : Program} {T : Tabs}

/-! numbers -/
def leI (a b : Int) : Bool :=
  match a, b with
  | .ofNat m, .ofNat n => Nat.ble m n
  | .negSucc m, .negSucc n => Nat.ble n m
  | .negSucc _, .ofNat _ => true
  | .ofNat _, .negSucc _ => false
theorem leI_eq (a b : Int) : leI a b = decide (a ≤ b) := by
  unfold leI
  split
  · rename_i m n
    rw [Bool.eq_iff_iff, Nat.ble_eq, decide_eq_true_iff]
    simp
  · rename_i m n
    rw [Bool.eq_iff_iff, Nat.ble_eq, decide_eq_true_iff, Int.negSucc_eq, Int.negSucc_eq]
    omega
  · rename_i m n
    symm
    rw [decide_eq_true_iff, Int.negSucc_eq, Int.ofNat_eq_natCast]
    omega
  · rename_i m n
    symm
    rw [decide_eq_false_iff_not, Int.negSucc_eq, Int.ofNat_eq_natCast]
    omega
theorem not_le (a b : Int) : decide (a < b) = !decide (b ≤ a) := by
  rw [Bool.eq_iff_iff, decide_eq_true_iff]
  simp
def eqI (a b : Int) : Bool :=
  match a, b with
  | .ofNat m, .ofNat n => Nat.beq m n
  | .negSucc m, .negSucc n => Nat.beq m n
  | _, _ => false
theorem eqI_eq (a b : Int) : eqI a b = (a == b) := by
  unfold eqI
  split
  · rename_i m n
    rw [Bool.eq_iff_iff, Nat.beq_eq, beq_iff_eq]
    simp only [Int.ofNat_eq_natCast]
    omega
  · rename_i m n
    rw [Bool.eq_iff_iff, Nat.beq_eq, beq_iff_eq]
    simp only [Int.negSucc_eq]
    omega
  · rename_i h1 h2
    symm
    rw [beq_eq_false_iff_ne]
    intro e
    subst e
    cases a with
    | ofNat m => exact h1 m m rfl rfl
    | negSucc m => exact h2 m m rfl rfl
def subI (a b : Int) : Int :=
  match a, b with
  | .ofNat m, .ofNat n => match Nat.ble n m with
    | true => .ofNat (m - n)
    | false => a - b
  | _, _ => a - b
theorem subI_eq (a b : Int) : subI a b = a - b := by
  unfold subI
  split
  · rename_i m n
    split
    · rename_i h
      rw [Nat.ble_eq] at h
      simp only [Int.ofNat_eq_natCast]; omega
    · rfl
  · rfl
def normX (k : IntKind) (n : Int) : Int :=
  match k, n with
  | .i64, .ofNat m => match Nat.ble m 9223372036854775807 with
    | true => .ofNat m
    | false => norm .i64 (.ofNat m)
  | .i64, .negSucc m => match Nat.ble m 9223372036854775807 with
    | true => .negSucc m
    | false => norm .i64 (.negSucc m)
  | k, n => norm k n
theorem normX_eq (k : IntKind) (n : Int) : normX k n = norm k n := by
  unfold normX
  split
  · split
    · rename_i h; rw [Nat.ble_eq] at h; rw [norm_i64 (by simp only [Int.ofNat_eq_natCast]; omega)]
    · rfl
  · split
    · rename_i h; rw [Nat.ble_eq] at h; rw [norm_i64 (by rw [Int.negSucc_eq]; omega)]
    · rfl
  · rfl
def kEq (a b : IntKind) : Bool :=
  match a, b with
  | .i64, .i64 => true
  | .u8, .u8 => true
  | a, b => decide (a = b)
theorem kEq_eq (a b : IntKind) : kEq a b = decide (a = b) := by
  unfold kEq; split <;> rfl

/-! two operands -/
def bInt (f : IntKind → Int → Int → Option GVal) (x y : GVal) : Option GVal :=
  match x, y with
  | .int k a, .int k' b => match kEq k k' with
    | true => f k a b
    | false => none
  | _, _ => none
def fAdd (k : IntKind) (a b : Int) : Option GVal := some (.int k (normX k (a + b)))
def fSub (k : IntKind) (a b : Int) : Option GVal := some (.int k (normX k (subI a b)))
def fEql (k : IntKind) (a b : Int) : Option GVal := some (.bool (eqI a b))
def fNeq (k : IntKind) (a b : Int) : Option GVal := some (.bool (!eqI a b))
def fLss (k : IntKind) (a b : Int) : Option GVal := some (.bool (!leI b a))
def fLeq (k : IntKind) (a b : Int) : Option GVal := some (.bool (leI a b))
def fGtr (k : IntKind) (a b : Int) : Option GVal := some (.bool (!leI a b))
def fGeq (k : IntKind) (a b : Int) : Option GVal := some (.bool (leI b a))
def orX (a b : Option GVal) : Option GVal := match a with
  | some v => some v
  | none => b
def binD (op : BinOp) : Tabs → TypeId → GVal → GVal → Option GVal :=
  match op with
  | .add => fun T t x y => orX (bInt fAdd x y) (binX T .add t x y)
  | .sub => fun T t x y => orX (bInt fSub x y) (binX T .sub t x y)
  | .eql => fun T t x y => orX (bInt fEql x y) (binX T .eql t x y)
  | .neq => fun T t x y => orX (bInt fNeq x y) (binX T .neq t x y)
  | .lss => fun T t x y => orX (bInt fLss x y) (binX T .lss t x y)
  | .leq => fun T t x y => orX (bInt fLeq x y) (binX T .leq t x y)
  | .gtr => fun T t x y => orX (bInt fGtr x y) (binX T .gtr t x y)
  | .geq => fun T t x y => orX (bInt fGeq x y) (binX T .geq t x y)
  | op => fun T t x y => binX T op t x y
theorem bInt_some {f : IntKind → Int → Int → Option GVal} {x y v : GVal} (h : bInt f x y = some v) : ∃ k a b, x = .int k a ∧ y = .int k b ∧ f k a b = some v := by
  unfold bInt at h
  split at h
  · rename_i k a k' b
    split at h
    · rename_i e; rw [kEq_eq, decide_eq_true_iff] at e; subst e; exact ⟨_, _, _, rfl, rfl, h⟩
    · cases h
  · cases h
theorem orX_some {a b : Option GVal} {v : GVal} (h : orX a b = some v) : a = some v ∨ b = some v := by
  unfold orX at h
  split at h
  · exact .inl h
  · exact .inr h
theorem binD_ok {op : BinOp} {t : TypeId} {x y v : GVal} (h : binD op T t x y = some v) : binX T op t x y = some v := by
  unfold binD at h
  split at h <;> first
    | exact h
    | (rcases orX_some h with h | h
       · obtain ⟨k, a, b, rfl, rfl, h9⟩ := bInt_some h
         rw [← h9]
         simp [binX, bne, fAdd, fSub, fEql, fNeq, fLss, fLeq, fGtr, fGeq, normX_eq, subI_eq, eqI_eq, leI_eq, not_le]
       · exact h)

/-! slots -/
noncomputable def nthR (s : List GVal) : Nat → GVal := List.rec (motive := fun _ => Nat → GVal) (fun _ => .any) (fun x _ ih n => Nat.rec (motive := fun _ => GVal) x (fun m _ => ih m) n) s
theorem nthR_eq (s : List GVal) (n : Nat) : nthR s n = sget s n := by
  induction s generalizing n with
  | nil => rfl
  | cons x r ih =>
    cases n with
    | zero => rfl
    | succ m => rw [sget_succ]; exact ih m
noncomputable def evR (st : GSt) (x : Operand) : GVal :=
  match x with
  | .tmp t => nthR st.s t
  | .const v => .ofConst v
  | .global g => .lit (.pointer (some ⟨g, 0, none⟩))
  | .func f => .func (.func f) [] []
theorem evR_eq (st : GSt) (x : Operand) : evR st x = st.ev x := by
  cases x <;> first | rfl | exact nthR_eq _ _
noncomputable def setR {β : Type} (s : List GVal) (d : Nat) (g : GVal) (k : List GVal → β) : β :=
  List.rec (motive := fun _ => Nat → (List GVal → β) → β) (fun _ k => k []) (fun x r ih n k => Nat.rec (motive := fun _ => β) (k (g :: r)) (fun m _ => ih m fun r' => k (x :: r')) n) s d k
theorem setR_eq {β : Type} (s : List GVal) (d : Nat) (g : GVal) (k : List GVal → β) : setR s d g k = k (s.set d g) := by
  induction s generalizing d k with
  | nil => rfl
  | cons x r ih =>
    cases d with
    | zero => rfl
    | succ m => exact ih m fun r' => k (x :: r')

/-! memory -/
noncomputable def nthO {α : Type} (s : List α) : Nat → Option α := List.rec (motive := fun _ => Nat → Option α) (fun _ => none) (fun x _ ih n => Nat.rec (motive := fun _ => Option α) (some x) (fun m _ => ih m) n) s
theorem nthO_eq {α : Type} (s : List α) (n : Nat) : nthO s n = s[n]? := by
  induction s generalizing n with
  | nil => rfl
  | cons x r ih =>
    cases n with
    | zero => rfl
    | succ m => rw [List.getElem?_cons_succ]; exact ih m
noncomputable def dropR {α : Type} (s : List α) : Nat → List α := List.rec (motive := fun _ => Nat → List α) (fun _ => []) (fun x r ih n => Nat.rec (motive := fun _ => List α) (x :: r) (fun m _ => ih m) n) s
theorem dropR_eq {α : Type} (s : List α) (n : Nat) : dropR s n = s.drop n := by
  induction s generalizing n with
  | nil => simp [dropR]
  | cons x r ih =>
    cases n with
    | zero => rfl
    | succ m => rw [List.drop_succ_cons]; exact ih m
noncomputable def takeR {α : Type} (s : List α) : Nat → List α := List.rec (motive := fun _ => Nat → List α) (fun _ => []) (fun x r ih n => Nat.rec (motive := fun _ => List α) [] (fun m _ => x :: ih m) n) s
theorem takeR_eq {α : Type} (s : List α) (n : Nat) : takeR s n = s.take n := by
  induction s generalizing n with
  | nil => simp [takeR]
  | cons x r ih =>
    cases n with
    | zero => rfl
    | succ m => rw [List.take_succ_cons]; exact congrArg (x :: ·) (ih m)
noncomputable def lenR {α : Type} (s : List α) : Nat := List.rec (motive := fun _ => Nat) 0 (fun _ _ ih => Nat.succ ih) s
theorem lenR_eq {α : Type} (s : List α) : lenR s = s.length := by
  induction s with
  | nil => rfl
  | cons x r ih => rw [List.length_cons, ← ih]; rfl
def grpR (ag : Bool) (cs : List GVal) : Option GVal := match ag, cs with
  | true, cs => some (.agg cs)
  | false, [c] => some c
  | _, _ => none
theorem grpR_some {ag : Bool} {cs : List GVal} {v : GVal} (h : grpR ag cs = some v) : v = grp ag cs ∧ (ag = true ∨ cs.length = 1) := by
  unfold grpR at h
  split at h
  · cases h; exact ⟨rfl, .inl rfl⟩
  · cases h; exact ⟨rfl, .inr rfl⟩
  · cases h
/-- n cells from a place on -/
noncomputable def cellsR (ag : Bool) (n : Nat) (cs : List GVal) : Option GVal := match Nat.beq (lenR (takeR cs n)) n, Nat.ble 1 n with
  | true, true => grpR ag (takeR cs n)
  | _, _ => none
theorem cellsR_some {ag : Bool} {n : Nat} {cs : List GVal} {v : GVal} (h : cellsR ag n cs = some v) : n ≤ cs.length ∧ (ag = true ∨ n = 1) ∧ v = grp ag (cs.take n) ∧ 1 ≤ n := by
  unfold cellsR at h
  rw [lenR_eq, takeR_eq] at h
  split at h
  · rename_i e e2
    rw [Nat.beq_eq, List.length_take] at e
    rw [Nat.ble_eq] at e2
    obtain ⟨h1, h2⟩ := grpR_some h
    refine ⟨by omega, ?_, h1, e2⟩
    rcases h2 with h2 | h2
    · exact .inl h2
    · right; rw [List.length_take] at h2; omega
  · cases h
noncomputable def loadRow (n : Nat) (ag : Bool) (st i j : Nat) : GObj → Option GVal
  | .row st' _ xs => match Nat.beq st st', nthO xs i with
    | true, some r => cellsR ag n (dropR r j)
    | _, _ => none
  | _ => none
noncomputable def loadF (n : Nat) (ag : Bool) (O : List GObj) : GVal → Option GVal
  | .ref cs => cellsR ag n cs
  | .ptr o st i j => match nthO O o with
    | some x => loadRow n ag st i j x
    | none => none
  | _ => none
noncomputable def loadY (T : Tabs) (t : TypeId) (g : GVal) (O : List GObj) : Option GVal := match T.tab t with
  | some (n, ag) => loadF n ag O g
  | none => none
theorem loadY_ok {t : TypeId} {g : GVal} {O : List GObj} {v : GVal} (h : loadY T t g O = some v) : loadX T t g O = some v := by
  unfold loadY at h
  unfold loadX
  split at h
  · rename_i n ag ht
    simp only [ht]
    unfold loadF at h
    split at h
    · obtain ⟨h1, h2, rfl, _⟩ := cellsR_some h
      rw [if_pos h2]
      simp only [if_pos h1]
    · rename_i o st i j
      rw [nthO_eq] at h
      split at h
      · rename_i x hx
        unfold loadRow at h
        split at h
        · rename_i st' sz xs
          rw [nthO_eq] at h
          split at h
          · rename_i r e1 e2
            rw [Nat.beq_eq] at e1
            subst e1
            rw [dropR_eq] at h
            obtain ⟨h1, h2, rfl, h3⟩ := cellsR_some h
            rw [if_pos h2]
            have hi := (List.getElem?_eq_some_iff.1 e2).1
            have hg : xs.getD i [] = r := by simp [List.getD, e2]
            simp only [hx, hg]
            rw [List.length_drop] at h1
            rw [if_pos ⟨trivial, hi, by omega⟩]
          · cases h
        · cases h
      · cases h
    · cases h
  · cases h

/-- an element's place -/
noncomputable def idxRow (sz : Nat) (r : Option (List GVal)) : Option GVal := match r with
  | some r => match Nat.beq (lenR r) sz with
    | true => some (.ref r)
    | false => none
  | none => none
noncomputable def idxOwn (o st off m sz : Nat) : Option GObj → Option GVal
  | some (.row st' sz' xs) => match Nat.beq st st', Nat.beq sz sz', nthO xs (off + m) with
    | true, true, some _ => some (.ptr o st (off + m) 0)
    | _, _, _ => none
  | _ => none
noncomputable def idxF (T : Tabs) (t : TypeId) (m : Nat) (O : List GObj) : GVal → Option GVal
  | .slice xs _ => match T.els t with
    | some (sz, _) => idxRow sz (nthO xs m)
    | none => none
  | .own o st off len => match T.els t, Nat.ble (m + 1) len with
    | some (sz, _), true => idxOwn o st off m sz (nthO O o)
    | _, _ => none
  | _ => none
noncomputable def idxY (T : Tabs) (t : TypeId) (g : GVal) (O : List GObj) : GVal → Option GVal
  | .int _ (.ofNat m) => idxF T t m O g
  | _ => none
theorem idxY_ok {t : TypeId} {g i : GVal} {O : List GObj} {v : GVal} (h : idxY T t g O i = some v) : indexAddrX T t g i O = some v := by
  unfold idxY at h
  split at h
  · rename_i k m
    unfold idxF at h
    split at h
    · rename_i xs tag
      split at h
      · rename_i sz ag e
        unfold idxRow at h
        split at h
        · rename_i r hr
          rw [nthO_eq] at hr
          split at h
          · rename_i e2
            rw [Nat.beq_eq, lenR_eq] at e2
            cases h
            have hi := (List.getElem?_eq_some_iff.1 hr).1
            have hg : xs.getD m [] = r := by simp [List.getD, hr]
            simp only [indexAddrX, e, Int.ofNat_eq_natCast, Int.toNat_natCast, hg]
            rw [if_pos ⟨by omega, by omega, e2⟩]
          · cases h
        · cases h
      · cases h
    · rename_i o st off len
      split at h
      · rename_i sz ag e e2
        rw [Nat.ble_eq] at e2
        unfold idxOwn at h
        split at h
        · rename_i st' sz' xs hO
          rw [nthO_eq] at hO
          split at h
          · rename_i x e3 e4 e5
            rw [Nat.beq_eq] at e3 e4
            rw [nthO_eq] at e5
            cases h
            have hi := (List.getElem?_eq_some_iff.1 e5).1
            simp only [indexAddrX, e, hO, Int.ofNat_eq_natCast, Int.toNat_natCast]
            rw [if_pos ⟨e3, e4, by omega, by omega, hi⟩]
          · cases h
        · cases h
      · cases h
    · cases h
  · cases h

/-- written out on the outside alone -/
noncomputable def headG {β : Type} (g : GVal) (k : GVal → β) : β :=
  match g with
  | .int q n => forceI n fun n => k (.int q n)
  | .bool true => k (.bool true)
  | .bool false => k (.bool false)
  | .slice xs t => k (.slice xs t)
  | .own o st i len => k (.own o st i len)
  | .ptr o st i j => k (.ptr o st i j)
  | .agg cs => k (.agg cs)
  | .tuple cs => k (.tuple cs)
  | .ref cs => k (.ref cs)
  | .str s => k (.str s)
  | .any => k .any
  | .lit v => k (.lit v)
  | .map o st => k (.map o st)
  | .func f a b => k (.func f a b)
  | .iface t v => k (.iface t v)
  | g => k g
theorem headG_eq {β : Type} (g : GVal) (k : GVal → β) : headG g k = k g := by
  unfold headG
  split <;> simp only [forceI_eq]
noncomputable def forceR (r : Option (GVal × List GObj)) : Option (GVal × List GObj) := match r with
  | some (g, O') => forceG g fun g => some (g, O')
  | none => none
theorem forceR_eq (r : Option (GVal × List GObj)) : forceR r = r := by
  unfold forceR
  split
  · rw [forceG_eq]
  · rfl

/-! one operation -/
abbrev OpF := Tabs → CallX → List Nat → GSt → Option Nat → Option (GVal × List GObj)
noncomputable def oMove (x : Operand) : OpF := fun _ _ _ st _ => some (evR st x, st.o)
def pickX (a b : GVal) (O : List GObj) (c : GVal) : Option (GVal × List GObj) := match c with
  | .bool true => some (a, O)
  | .bool false => some (b, O)
  | _ => none
noncomputable def oPick (c a b : Operand) : OpF := fun _ _ _ st _ => pickX (evR st a) (evR st b) st.o (evR st c)
noncomputable def oBin (op : BinOp) (t : TypeId) (x y : Operand) : OpF := fun T _ _ st _ => withO st.o (binD op T t (evR st x) (evR st y))
noncomputable def oUn (op : UnOp) (x : Operand) : OpF := fun _ _ _ st _ => withO st.o (unX op (evR st x))
noncomputable def oConv (s d : TypeId) (x : Operand) : OpF := fun T _ _ st _ => withO st.o (convX T s d (evR st x))
noncomputable def oLoad (t : TypeId) (x : Operand) : OpF := fun T _ _ st _ => forceR (withO st.o (orX (loadY T t (evR st x) st.o) (loadX T t (evR st x) st.o)))
def anyO (x : Option (List GObj)) : Option (GVal × List GObj) := match x with
  | some O' => some (.any, O')
  | none => none
noncomputable def oStore (t : TypeId) (x y : Operand) : OpF := fun T _ _ st _ => anyO (storeX T t (evR st x) (evR st y) st.o)
noncomputable def oFieldAddr (s : TypeId) (x : Operand) (f : Nat) : OpF := fun T _ _ st _ => withO st.o (fieldAddrX T s (evR st x) f)
noncomputable def oField (s : TypeId) (x : Operand) (f : Nat) : OpF := fun T _ _ st _ => withO st.o (fieldX T s (evR st x) f)
noncomputable def oIndexAddr (t : TypeId) (x i : Operand) : OpF := fun T _ _ st _ => withO st.o (orX (idxY T t (evR st x) st.o (evR st i)) (indexAddrX T t (evR st x) (evR st i) st.o))
noncomputable def oIndex (t : TypeId) (x i : Operand) : OpF := fun T _ _ st _ => withO st.o (indexX T t (evR st x) (evR st i))
noncomputable def oExtract (x : Operand) (i : Nat) : OpF := fun _ _ _ st _ => withO st.o (extractX (evR st x) i)
noncomputable def oLookup (t : TypeId) (x y : Operand) (ok : Bool) : OpF := fun T _ _ st _ => withO st.o (lookupX T t (evR st x) (evR st y) ok st.o)
noncomputable def oCall (c : Call) : OpF := fun T call R st d => forceR (callX T call (match d with | some d => R.contains d | none => false) st c)
noncomputable def oRest (o : Op) : OpF := fun T call R st d => forceR (opx T call R st ⟨d, o, 0, default, #[], none⟩)
noncomputable def opxD (o : Op) : OpF :=
  match o with
  | .move x => oMove x
  | .assign x => oMove x
  | .pick c a b => oPick c a b
  | .binOp op t x y _ => oBin op t x y
  | .unOp op _ x => oUn op x
  | .convert s d x => oConv s d x
  | .load t x => oLoad t x
  | .store t x y => oStore t x y
  | .fieldAddr s x f => oFieldAddr s x f
  | .field s x f => oField s x f
  | .indexAddr t x i => oIndexAddr t x i
  | .index t x i => oIndex t x i
  | .extract x i => oExtract x i
  | .lookup t x y ok => oLookup t x y ok
  | .call c => oCall c
  | o => oRest o
theorem withO_mono {O : List GObj} {a b : Option GVal} (h : ∀ v, a = some v → b = some v) {p : GVal × List GObj} (hp : withO O a = some p) : withO O b = some p := by
  cases a with
  | none => cases hp
  | some v => rw [h v rfl]; exact hp
theorem opxD_ok {call : CallX} {R : List Nat} {st : GSt} {o : Oper} {p : GVal × List GObj} (h : opxD o.op T call R st o.dst = some p) : opx T call R st o = some p := by
  obtain ⟨dst, op, ty, pos, after, guard⟩ := o
  unfold opxD at h
  simp only at h
  split at h
  · simp only [oMove, evR_eq] at h; exact h
  · simp only [oMove, evR_eq] at h; exact h
  · simp only [oPick, pickX, evR_eq] at h; exact h
  · simp only [oBin, evR_eq] at h; exact withO_mono (fun v hv => binD_ok hv) h
  · simp only [oUn, evR_eq] at h; exact h
  · simp only [oConv, evR_eq] at h; exact h
  · simp only [oLoad, evR_eq, forceR_eq] at h; exact withO_mono (fun v hv => (orX_some hv).elim loadY_ok id) h
  · simp only [oStore, anyO, evR_eq] at h; exact h
  · simp only [oFieldAddr, evR_eq] at h; exact h
  · simp only [oField, evR_eq] at h; exact h
  · simp only [oIndexAddr, evR_eq] at h; exact withO_mono (fun v hv => (orX_some hv).elim idxY_ok id) h
  · simp only [oIndex, evR_eq] at h; exact h
  · simp only [oExtract, evR_eq] at h; exact h
  · simp only [oLookup, evR_eq] at h; exact h
  · unfold oCall at h; rw [forceR_eq] at h; exact h
  · unfold oRest at h; rw [forceR_eq] at h
    unfold opx at h ⊢
    exact h

end Gv
/- A call that stands apart, of which a slice is left that may be appended to. -/
set_option linter.unusedVariables false
namespace Gv
open Go

variable {P : Program}

/-- what is known of a slice's spare room behind a call that stood apart -/
structure Spare (E : Env) (X : List GObj) (w : World) (v : Value) (sz : Nat) (ys : List (List GVal)) (l : GLoc) : Prop where
  size : l.size = sz
  block : ∀ b, l.block = some b → InO E X b ∧ ∃ cur el, w.heap[b]? = some (.cells cur el (0, 0)) ∧ cur.size = l.total ∧ ∀ o, l.off ≤ o → (E.frz X w).snap b o = none
  val : VR (E.frz X w) v (.slice ys .none)
  tag : ∀ a len cap, v = .slice a len cap → cap = len ∨ ∃ b off, a = some ⟨b, off, none⟩ ∧ l.block = some b ∧ l.off = off + len * l.size ∧ off + cap * l.size ≤ l.total

theorem GCalls.apartSpare {f : FuncId} {args : List GVal} {g : GVal} {X : List GObj} {sz : Nat} {ys : List (List GVal)} (h : GCalls P f args [.clock 0] (fun g' O' => g' = g ∧ O' = X)) (ha : noStL args = true)
    (hsp : ∀ E w v, HSim E X w → VR E v g → ∃ l, Spare E X w v sz ys l) (hn : noStL2 ys = true) {O : List GObj} {K : GVal → List GObj → Prop}
    (hk : stamp O fun c => K (.slice ys (.tok O.length c)) (tickO O ++ [.tok c sz])) : GCalls P f args O K := by
  refine ⟨h.1, fun E w vs hs0 hv => ?_⟩
  obtain ⟨c, hkc, hc, hnx, hs, hkeep⟩ := hs0.stamp hk
  rw [← tickO_len O] at hkc
  let E0 : Env := ⟨E.snap, fun _ => none⟩
  have hno : ∀ b, ¬ InO E0 [.clock 0] b := fun b ⟨i, x, hx, hb⟩ => by
    cases i with
    | zero => simp at hx; subst hx; cases hb
    | succ i => simp at hx
  have h0 : HSim E0 [.clock 0] w := ⟨⟨0, fun c _ => Nat.zero_le _, fun _ _ => rfl⟩, hs.sealed, hs.one, fun i x hx => by
    cases i with
    | zero => simp at hx; subst hx; trivial
    | succ i => simp at hx, fun i j oi oj b hij hi hj => by
    cases i with
    | zero => simp at hi; subst hi; intro hb; cases hb
    | succ i => simp at hi⟩
  refine (h.2 E0 w vs h0 ⟨hv.1, fun i g hg => (hv.2 i g hg).places (E := E) (E' := E0) (fun _ _ _ e => e) (noStL_at ha hg)⟩).mono ?_
  rintro e w' ⟨v, E', O', g', rfl, h1, h2, h3, rfl, rfl⟩
  obtain ⟨l, hS⟩ := hsp E' w' v h1 h3
  obtain ⟨hf, hfk⟩ := h1.frz
  have hold : ∀ b, b < w.heap.size → w'.heap[b]? = w.heap[b]? := fun b hb => h2.heap b hb (hno b)
  have hnew : ∀ b, InO E' O' b → w.heap.size ≤ b := fun b hb => (h2.objs b hb).resolve_left (hno b)
  have hsn : ∀ b o v, (E'.frz O' w').snap b o = some v → E.snap b o = some v ∨ w.heap.size ≤ b := fun b o v hv => by
    rcases hfk.snap b o v hv with q | q | q
    · rcases h2.snap b o v q with q | q | q
      · exact .inl q
      · exact .inr q
      · exact absurd q (hno b)
    · exact .inr (Nat.le_trans h2.size q)
    · exact .inr (hnew b q)
  let E1 : Env := ⟨(E'.frz O' w').snap, fun s => if s = c then some l else E.loc s⟩
  have hle : E.le E1 := ⟨fun b o v hv => hfk.ext.snap b o v (h2.ext.snap b o v hv), fun s l' hl => by
    show (if s = c then some l else E.loc s) = some l'
    rw [if_neg (fun e => by subst e; rw [hc] at hl; cases hl)]; exact hl⟩
  have hself : E1.loc c = some l := by show (if c = c then some l else E.loc c) = some l; rw [if_pos rfl]
  have hreal : ∀ (i : Nat) x, (tickO O)[i]? = some x → Realized E1 w' x := fun i x hx =>
    (hs.real i x hx).keep hle (fun b hb => hold b ((hs.real i x hx).blk_lt hb)) (fun b o v hb hv => (hsn b o v hv).elim id (fun q => by have := (hs.real i x hx).blk_lt hb; omega))
  have hb : ∀ (i : Nat) x, (tickO O)[i]? = some x → x.blk E1 = x.blk E := fun i x hx => GObj.blk_mono hle (hs.real i x hx)
  have htok : (GObj.tok c sz).blk E1 = l.block := by simp [GObj.blk, hself]
  have split : ∀ (i : Nat) x, (tickO O ++ [.tok c sz])[i]? = some x → (tickO O)[i]? = some x ∨ (i = (tickO O).length ∧ x = .tok c sz) := fun i x hx => by
    by_cases hi : i < (tickO O).length
    · rw [List.getElem?_append_left hi] at hx; exact .inl hx
    · rw [List.getElem?_append_right (by omega)] at hx
      have : i - (tickO O).length = 0 := by
        have := (List.getElem?_eq_some_iff.1 hx).1
        simp at this; omega
      rw [this] at hx; simp at hx
      exact .inr ⟨by omega, hx.symm⟩
  have hfin : Fin' E1 (tickO O ++ [.tok c sz]) := by
    obtain ⟨n, q1, q2⟩ := hs.fin
    refine ⟨max n (c + 1), fun c' hc' => ?_, fun s hsm => ?_⟩
    · rw [clockOf_app rfl] at hc'
      have := q1 c' hc'
      have := hnx c' hc'
      omega
    · show (if s = c then some l else E.loc s) = none
      rw [if_neg (by omega)]; exact q2 s (by omega)
  refine ⟨v, E1, tickO O ++ [.tok c sz], .slice ys (.tok (tickO O).length c), rfl, ⟨hfin, hf.sealed, hf.one, fun i x hx => ?_, fun i j oi oj b hij hi hj hbi hbj => ?_⟩,
    hkeep.trans ⟨hle, h2.os, h2.out, h2.size, fun b hb _ => hold b hb, fun b o v hv => (hsn b o v hv).elim .inl (fun q => .inr (.inl q)), fun b ⟨i, x, hx, hbx⟩ => ?_, trivial⟩, ?_, hkc⟩
  · rcases split i x hx with h4 | ⟨_, rfl⟩
    · exact hreal i x h4
    · refine ⟨l, hself, hS.size, ?_⟩
      cases hlb : l.block with
      | none => trivial
      | some b => exact (hS.block b hlb).2
  · rcases split i oi hi with h4 | ⟨e4, rfl⟩
    · rw [hb i oi h4] at hbi
      have hlt := (hs.real i oi h4).blk_lt hbi
      rcases split j oj hj with h5 | ⟨_, rfl⟩
      · rw [hb j oj h5] at hbj
        exact hs.sep i j oi oj b hij h4 h5 hbi hbj
      · rw [htok] at hbj
        have := hnew b (hS.block b hbj).1
        omega
    · rw [htok] at hbi
      have := hnew b (hS.block b hbi).1
      rcases split j oj hj with h5 | ⟨e5, rfl⟩
      · rw [hb j oj h5] at hbj
        have := (hs.real j oj h5).blk_lt hbj
        omega
      · omega
  · rcases split i x hx with h4 | ⟨_, rfl⟩
    · exact .inl ⟨i, x, h4, by rw [← hb i x h4]; exact hbx⟩
    · rw [htok] at hbx
      exact .inr (hnew b (hS.block b hbx).1)
  · have hp : VR E1 v (.slice ys .none) := VR.places (E := E'.frz O' w') (E' := E1) (fun _ _ _ e => e) hS.val (by rw [GVal.noSt, hn]; rfl)
    have htg := hS.tag
    cases hp with
    | slice a len cap xs tag sz' cc hlen hcap hsz ha' hcc ht =>
      exact .slice a len cap ys _ sz' cc hlen hcap hsz ha' hcc ⟨l, hself, htg a len cap rfl⟩

theorem spareOwn {X : List GObj} {o st off len sz n : Nat} {xs ys : List (List GVal)} (hX : X[o]? = some (.row st sz xs)) (hl : off + len = xs.length) (hys : frzLL (frz X n) ((xs.drop off).take len) = some ys) :
    ∀ E w v, HSim E X w → VR E v (.own o st off len) → ∃ l, Spare E X w v sz ys l := by
  intro E w v h hv
  have hv2 : VR (E.frz X w) v (.slice ys .none) := frz_sound h (n + 1) v _ _ hv (by unfold frz; simp only [hX]; rw [if_pos ⟨by trivial, by omega⟩, hys])
  cases hv with
  | own a len cap o st i l hll hcap ha =>
    obtain ⟨l', hl', hsz', hsz, hr⟩ := h.real _ _ hX
    rw [hll] at hl'; cases hl'
    refine ⟨{ l with off := l.off + xs.length * sz }, hsz', fun b hb => ?_, hv2, fun a' len' cap' e => ?_⟩
    · have hb' : l.block = some b := hb
      rw [hb'] at hr
      obtain ⟨cur, el, hw, h1, h2, h3, h4⟩ := hr
      refine ⟨⟨o, _, hX, by simp [GObj.blk, hll, hb']⟩, cur, el, hw, h1, fun p hp => ?_⟩
      have hp' : l.off + xs.length * sz ≤ p := hp
      simp only [Env.frz, h4]
      split
      · rename_i hin
        obtain ⟨i', st', sz', xs', l', hO, hl', hb2, q1, q2⟩ := hin
        by_cases hio : i' = o
        · subst hio
          rw [hX] at hO; cases hO
          rw [hll] at hl'; cases hl'
          omega
        · exact absurd (by simp [GObj.blk, hll, hb']) (h.sep i' o _ _ b hio hO hX (by simp [GObj.blk, hl', hb2]))
      · rfl
    · cases e
      rcases ha with h0 | ⟨b, hb, rfl, hle⟩
      · left; omega
      · right
        refine ⟨b, _, rfl, hb, ?_, ?_⟩
        · show l.off + xs.length * sz = l.off + off * l.size + len * l.size
          rw [← hl, hsz', Nat.add_mul]; omega
        · exact hle

theorem spareTok {X : List GObj} {o st sz n : Nat} {xs ys : List (List GVal)} (hX : X[o]? = some (.tok st sz)) (hys : frzLL (frz X n) xs = some ys) :
    ∀ E w v, HSim E X w → VR E v (.slice xs (.tok o st)) → ∃ l, Spare E X w v sz ys l := by
  intro E w v h hv
  have hv2 : VR (E.frz X w) v (.slice ys .none) := frz_sound h (n + 1) v _ _ hv (by unfold frz; simp only [hys]; rfl)
  cases hv with
  | slice a len cap xs tag sz2 c hlen hcap hsz ha hc ht =>
    obtain ⟨l, hll, htag⟩ := ht
    obtain ⟨l', hl', hsz', hr⟩ := h.real _ _ hX
    rw [hll] at hl'; cases hl'
    refine ⟨l, hsz', fun b hb => ?_, hv2, fun a' len' cap' e => by cases e; exact htag⟩
    rw [hb] at hr
    obtain ⟨cur, el, hw, h1, h4⟩ := hr
    refine ⟨⟨o, _, hX, by simp [GObj.blk, hll, hb]⟩, cur, el, hw, h1, fun p hp => ?_⟩
    simp only [Env.frz, h4 p hp]
    split
    · rename_i hin
      obtain ⟨i', st', sz', xs', l', hO, hl', hb2, q1, q2⟩ := hin
      have hio : i' ≠ o := fun e => by subst e; rw [hX] at hO; cases hO
      exact absurd (by simp [GObj.blk, hll, hb]) (h.sep i' o _ _ b hio hO hX (by simp [GObj.blk, hl', hb2]))
    · rfl

/-- the slice of a call that stood apart: its elements, their size -/
def spareX (X : List GObj) (g : GVal) : Option (List (List GVal) × Nat) :=
  match g with
  | .own o st off len => match X[o]? with
    | some (.row st' sz xs) => if st = st' ∧ off + len = xs.length then (match frzLL (frz X 64) ((xs.drop off).take len) with
      | some ys => some (ys, sz)
      | none => none) else none
    | _ => none
  | .slice xs (.tok o st) => match X[o]? with
    | some (.tok st' sz) => if st = st' then (match frzLL (frz X 64) xs with
      | some ys => some (ys, sz)
      | none => none) else none
    | _ => none
  | _ => none
theorem spareX_ok {X : List GObj} {g : GVal} {ys : List (List GVal)} {sz : Nat} (h : spareX X g = some (ys, sz)) : ∀ E w v, HSim E X w → VR E v g → ∃ l, Spare E X w v sz ys l := by
  unfold spareX at h
  split at h
  · split at h
    · rename_i hX
      split at h
      · rename_i hc
        obtain ⟨rfl, hc⟩ := hc
        split at h
        · rename_i e; cases h; exact spareOwn hX hc e
        · cases h
      · cases h
    · cases h
  · split at h
    · rename_i hX
      split at h
      · rename_i hc
        subst hc
        split at h
        · rename_i e; cases h; exact spareTok hX e
        · cases h
      · cases h
    · cases h
  · cases h

end Gv
/- Running code over ghost values: regions, code, functions; calls that stand apart. -/
set_option linter.unusedVariables false
namespace Gv
open Go

variable {P : Program} {T : Tabs}

/-- a state with one slot set, written out -/
noncomputable def putX {β : Type} (st : GSt) (d : Option Nat) (g : GVal) (O' : List GObj) (k : GSt → β) : β :=
  match d with
  | some d => headG g fun g => setR st.s d g fun s => k ⟨s, O'⟩
  | none => k ⟨st.s, O'⟩
theorem putX_eq {β : Type} (st : GSt) (d : Option Nat) (g : GVal) (O' : List GObj) (k : GSt → β) : putX st d g O' k = k (st.put d g O') := by
  unfold putX
  cases d with
  | none => rfl
  | some d => simp only [headG_eq, setR_eq]; rfl

noncomputable def contR (k : GSt → Option GSt) (st : GSt) (d : Option Nat) (r : Option (GVal × List GObj)) : Option GSt :=
  match r with
  | some (g, O') => putX st d g O' k
  | none => none
theorem contR_some {k : GSt → Option GSt} {st s : GSt} {d : Option Nat} {r : Option (GVal × List GObj)} (h : contR k st d r = some s) : ∃ g O', r = some (g, O') ∧ k (st.put d g O') = some s := by
  unfold contR at h
  split at h
  · rename_i g O'; rw [putX_eq] at h; exact ⟨g, O', rfl, h⟩
  · cases h
def eqB (a b : Bool) : Bool := match a, b with
  | true, true => true
  | false, false => true
  | _, _ => false
def guardR (run skip : Option GSt) (want : Bool) (g : GVal) : Option GSt :=
  match g with
  | .bool b => match eqB b want with
    | true => run
    | false => skip
  | .lit (.tuple _) => skip
  | _ => none
theorem guardR_some {run skip : Option GSt} {want : Bool} {g : GVal} {s : GSt} (h : guardR run skip want g = some s) :
    (g = .bool want ∧ run = some s) ∨ (g = .bool (!want) ∧ skip = some s) ∨ ((∃ v, g = .lit (.tuple v)) ∧ skip = some s) := by
  unfold guardR at h
  split at h
  · rename_i b
    cases b <;> cases want <;> simp only [eqB] at h <;> simp [h]
  · exact .inr (.inr ⟨⟨_, rfl⟩, h⟩)
  · cases h
noncomputable def opsX (T : Tabs) (call : CallX) (R : List Nat) (all : List Oper) : List Oper → GSt → Option GSt
  | [], st => some st
  | o :: r, st => match o.guard with
    | none => contR (opsX T call R all r) st o.dst (opxD o.op T call R st o.dst)
    | some (j, want) => match slotOf all j with
      | some d => guardR (contR (opsX T call R all r) st o.dst (opxD o.op T call R st o.dst)) (putX st o.dst (.lit (.tuple #[])) st.o (opsX T call R all r)) want (nthR st.s d)
      | none => none

theorem sget_lt {s : List GVal} {d : Nat} {b : Bool} (h : sget s d = .bool b) : d < s.length := by
  rcases Nat.lt_or_ge d s.length with h1 | h1
  · exact h1
  · simp [sget, List.getD, List.getElem?_eq_none h1] at h

theorem opsX_ok (hT : T.Ok P) {call : CallX} (hc : call.Ok P) {R : List Nat} {all : List Oper} {st' : GSt} : ∀ (ops : List Oper) (st : GSt), opsX T call R all ops st = some st' → opsv P R all ops (fun s => s = st') st
  | [], st, h => by simp only [opsX, Option.some.injEq] at h; exact h
  | o :: r, st, h => by
    have go : ∀ st1 : GSt, st1 = st → contR (opsX T call R all r) st o.dst (opxD o.op T call R st o.dst) = some st' →
        opv P R st1 o (fun g O' => opsv P R all r (fun s => s = st') (st1.put o.dst g O')) := by
      intro st1 e h
      subst e
      obtain ⟨g, O', ho, h⟩ := contR_some h
      refine opv_mono ?_ (opx_ok hT hc (opxD_ok ho))
      rintro g' O'' ⟨rfl, rfl⟩
      exact opsX_ok hT hc r _ h
    unfold opsX at h
    unfold opsv
    split at h
    · rename_i hg
      simp only [hg]
      exact go st rfl h
    · rename_i j want hg
      simp only [hg]
      split at h
      · rename_i d hd
        simp only [hd]
        rw [nthR_eq] at h
        rcases guardR_some h with ⟨hb, h⟩ | ⟨hb, h⟩ | ⟨⟨v, hb⟩, h⟩
        · have hself : st.setS d (.bool want) = st := GSt.setS_self (sget_lt hb) hb
          rw [hb]
          exact gcase.2 ⟨fun _ => go _ hself h, fun e => (by cases want <;> cases e)⟩
        · have hself : st.setS d (.bool (!want)) = st := GSt.setS_self (sget_lt hb) hb
          rw [hb]
          rw [putX_eq] at h
          refine gcase.2 ⟨fun e => (by cases want <;> cases e), fun _ => ?_⟩
          rw [hself]
          exact opsX_ok hT hc r _ h
        · simp only [hb]
          rw [putX_eq] at h
          exact opsX_ok hT hc r _ h
      · cases h

/-! regions that draw -/
/-- an operation that only adds objects -/
noncomputable def addX (T : Tabs) (call : CallX) (R : List Nat) (st : GSt) (o : Oper) : Option (GVal × List GObj) :=
  match o.op with
  | .alloc _ => opx T call R st o
  | .box _ _ => opx T call R st o
  | .call ⟨.value f, args, _⟩ => match st.ev f with
    | .func (.func n) first caps => match frzL (frz [] 64) (first ++ args.toList.map st.ev ++ caps) with
      | some as => if noStL as = true then (match call n as [.clock 0] with
        | some (g, X) => match spareX X g with
          | some (ys, sz) => match clockOf st.o with
            | some c => if noStL2 ys = true then some (.slice ys (.tok st.o.length c), tickO st.o ++ [.tok c sz]) else none
            | none => none
          | none => match frz X 64 g with
            | some g' => if g'.noSt = true then some (g', st.o) else none
            | none => none
        | none => none) else none
      | none => none
    | _ => none
  | _ => none

theorem bare_tick (O : List GObj) (x : GObj) (h : O ≠ []) : bare (tickO O ++ [x]) = bare O ++ [x] := by
  cases O with
  | nil => exact absurd rfl h
  | cons y r => cases y <;> simp [tickO, bare]

theorem addX_ok (hT : T.Ok P) {call : CallX} (hc : call.Ok P) {R st o g O'} (h : addX T call R st o = some (g, O')) : opv P R st o (fun g' O'' => (∃ new, bare O'' = bare st.o ++ new) ∧ g' = g ∧ O'' = O') := by
  have base : (∃ new, bare O' = bare st.o ++ new) → opx T call R st o = some (g, O') → opv P R st o (fun g' O'' => (∃ new, bare O'' = bare st.o ++ new) ∧ g' = g ∧ O'' = O') := fun h1 h2 =>
    opv_mono (fun g' O'' ⟨e1, e2⟩ => ⟨by rw [e2]; exact h1, e1, e2⟩) (opx_ok hT hc h2)
  have ne : ∀ n, clockOf st.o = some n → st.o ≠ [] := fun n e h => by rw [h] at e; cases e
  unfold addX at h
  split at h
  · rename_i t eo
    refine base ?_ h
    simp only [opx, eo, allocX, forceL_eq] at h
    split at h
    · rename_i cs n e1 e2
      split at h
      · cases h; exact ⟨_, bare_tick _ _ (ne _ e2)⟩
      · cases h
    · cases h
  · rename_i t x eo
    refine base ?_ h
    simp only [opx, eo, boxX, forceL_eq] at h
    split at h
    · split at h
      · cases h; exact ⟨[], by simp⟩
      · split at h
        · rename_i n e2; cases h; exact ⟨_, bare_tick _ _ (ne _ e2)⟩
        · cases h
    · cases h
  · rename_i f args ts eo
    unfold opv
    simp only [eo]
    unfold callV
    split at h
    · rename_i n first caps e1
      simp only [e1]
      split at h
      · rename_i as has
        split at h
        · rename_i h1
          split at h
          · rename_i g2 X h2
            split at h
            · rename_i ys sz hsp
              split at h
              · rename_i c e2
                split at h
                · rename_i h3
                  cases h
                  refine ((hc _ _ _ _ _ h2).apartSpare h1 (spareX_ok hsp) h3 ?_).strip has
                  unfold stamp
                  rw [e2]
                  exact ⟨⟨_, bare_tick _ _ (ne _ e2)⟩, rfl, rfl⟩
                · cases h
              · cases h
            split at h
            · rename_i g' hz
              split at h
              · rename_i h3
                cases h
                exact ((((hc _ _ _ _ _ h2).frz hz).apart h1 h3 st.o).mono (fun g' O'' ⟨e1, e2⟩ => ⟨⟨[], by rw [e2]; simp⟩, e1, e2⟩)).strip has
              · cases h
            · cases h
          · cases h
        · cases h
      · cases h
    · cases h
  · cases h

noncomputable def stepX (T : Tabs) (call : CallX) (R : List Nat) (st : GSt) (o : Oper) (k : Nat) : Option (GVal × List GObj) := match Nat.beq k 2 with
  | true => addX T call R st o
  | false => opxD o.op T call R st o.dst
theorem stepX_ok (hT : T.Ok P) {call : CallX} (hc : call.Ok P) {R st o k g O'} (h : stepX T call R st o k = some (g, O')) : opv P R st o (fun g' O'' => drawC k st.o O'' (g' = g ∧ O'' = O')) := by
  unfold stepX at h
  split at h
  · exact opv_mono (fun g' O'' e => ⟨fun _ => e.1, e.2⟩) (addX_ok hT hc h)
  · rename_i hk
    have hk2 : k ≠ 2 := fun e => by subst e; cases hk
    exact opv_mono (fun g' O'' e => ⟨fun e => absurd e hk2, e⟩) (opx_ok hT hc (opxD_ok h))

noncomputable def ordX (T : Tabs) (call : CallX) (R : List Nat) (all : List Oper) : List (Nat × Nat) → GSt → Option GSt
  | [], st => some st
  | (i, k) :: r, st => match nthO all i with
    | none => none
    | some o => match o.guard with
      | none => contR (ordX T call R all r) st o.dst (stepX T call R st o k)
      | some (j, want) => match slotOf all j with
        | some d => guardR (contR (ordX T call R all r) st o.dst (stepX T call R st o k)) (putX st o.dst (.lit (.tuple #[])) st.o (ordX T call R all r)) want (nthR st.s d)
        | none => none

theorem ordX_ok (hT : T.Ok P) {call : CallX} (hc : call.Ok P) {R : List Nat} {all : List Oper} {st' : GSt} : ∀ (ord : List (Nat × Nat)) (st : GSt), ordX T call R all ord st = some st' → ordv P R all ord (fun s => s = st') st
  | [], st, h => by simp only [ordX, Option.some.injEq] at h; exact h
  | (i, k) :: r, st, h => by
    unfold ordX at h
    rw [nthO_eq] at h
    unfold ordv
    split at h
    · cases h
    · rename_i o ho
      simp only [ho]
      have go : ∀ st1 : GSt, st1 = st → contR (ordX T call R all r) st o.dst (stepX T call R st o k) = some st' →
          opv P R st1 o (fun g O' => drawC k st1.o O' (ordv P R all r (fun s => s = st') (st1.put o.dst g O'))) := by
        intro st1 e h
        subst e
        obtain ⟨g, O', hs, h⟩ := contR_some h
        refine opv_mono ?_ (stepX_ok hT hc hs)
        rintro g' O'' ⟨h1, rfl, rfl⟩
        exact ⟨h1, ordX_ok hT hc r _ h⟩
      split at h
      · rename_i hg
        simp only [hg]
        exact go st rfl h
      · rename_i j want hg
        simp only [hg]
        split at h
        · rename_i d hd
          simp only [hd]
          rw [nthR_eq] at h
          rcases guardR_some h with ⟨hb, h⟩ | ⟨hb, h⟩ | ⟨⟨v, hb⟩, h⟩
          · have hself : st.setS d (.bool want) = st := GSt.setS_self (sget_lt hb) hb
            rw [hb]
            exact gcase.2 ⟨fun _ => go _ hself h, fun e => (by cases want <;> cases e)⟩
          · have hself : st.setS d (.bool (!want)) = st := GSt.setS_self (sget_lt hb) hb
            rw [hb]
            rw [putX_eq] at h
            refine gcase.2 ⟨fun e => (by cases want <;> cases e), fun _ => ?_⟩
            rw [hself]
            exact ordX_ok hT hc r _ h
          · simp only [hb]
            rw [putX_eq] at h
            exact ordX_ok hT hc r _ h
        · cases h

/-! code -/
noncomputable def loopX (body : GSt → Option (Ex × GSt)) : Nat → GSt → Option (Ex × GSt)
  | 0, _ => none
  | n + 1, st => match body st with
    | some (.normal, st') => loopX body n st'
    | r => r

def normR (r : Option GSt) : Option (Ex × GSt) := match r with
  | some st' => some (.normal, st')
  | none => none
noncomputable def regR (T : Tabs) (call : CallX) (C : Cfg) (id : Nat) (ops : Array Oper) (draw : Bool) (st : GSt) : Option (Ex × GSt) := match draw with
  | false => normR (opsX T call C.ro ops.toList ops.toList st)
  | true => normR (ordX T call C.ro ops.toList (C.of id) st)
def seqR (r : Option (Ex × GSt)) (k : GSt → Option (Ex × GSt)) : Option (Ex × GSt) := match r with
  | some (.normal, st') => k st'
  | r => r
def condR (c : GVal) (a b : Option (Ex × GSt)) : Option (Ex × GSt) := match c with
  | .bool true => a
  | .bool false => b
  | _ => none
def blockR (id : Nat) (r : Option (Ex × GSt)) : Option (Ex × GSt) := match r with
  | some (.exit n, st') => match Nat.beq n id with
    | true => some (.normal, st')
    | false => some (.exit n, st')
  | r => r
noncomputable def runC (T : Tabs) (call : CallX) (C : Cfg) (fuel : Nat) : Code → GSt → Option (Ex × GSt)
  | .skip, st => some (.normal, st)
  | .region id ops draw, st => regR T call C id ops draw st
  | .seq a b, st => seqR (runC T call C fuel a st) (runC T call C fuel b)
  | .cond c a b, st => condR (evR st c) (runC T call C fuel a st) (runC T call C fuel b st)
  | .block id a, st => blockR id (runC T call C fuel a st)
  | .loop a, st => loopX (runC T call C fuel a) fuel st
  | .exit n, st => some (.exit n, st)
  | .ret, st => some (.ret, st)
  | _, _ => none

def At' (E : Env) (O : List GObj) (w : World) (ex : Ex) (st' : GSt) : Exit → Act → World → Prop := Post E O w (fun e s => e = ex ∧ s = st')

theorem runC_ok (hmix : P.follows .mixedOrders = true) (hT : T.Ok P) {call : CallX} (hc : call.Ok P) {C : Cfg} {fuel : Nat} : ∀ (c : Code) (st st' : GSt) (ex : Ex), codeOk C c = true → runC T call C fuel c st = some (ex, st') →
    ∀ (E : Env) (a : Act) (w : World), HSim E st.o w → SlotsR E a st.s → c.wp P (At' E st.o w ex st') a w
  | .skip, st, st', ex, hok, hr, E, a, w, h, ha => by
    simp only [runC, Option.some.injEq, Prod.mk.injEq] at hr
    obtain ⟨rfl, rfl⟩ := hr
    exact wp_skip ⟨.normal, st, E, trivial, h, .refl _ _ _, ha, rfl, rfl⟩
  | .region id ops draw, st, st', ex, hok, hr, E, a, w, h, ha => by
    have base : ex = .normal → vc P C (.region id ops draw) (fun e s => e = .normal ∧ s = st') st → (Code.region id ops draw).wp P (At' E st.o w ex st') a w := fun e hv => by
      subst e
      exact vc_sound hmix _ _ st E a w hok h ha hv
    cases draw with
    | false =>
      simp only [runC, regR] at hr
      unfold normR at hr
      split at hr
      · rename_i s1 e1
        cases hr
        refine base rfl ?_
        rw [vc]
        have := opsX_ok hT hc _ _ e1
        simpa using this
      · cases hr
    | true =>
      simp only [runC, regR] at hr
      unfold normR at hr
      split at hr
      · rename_i s1 e1
        cases hr
        refine base rfl ?_
        rw [vc]
        have := ordX_ok hT hc _ _ e1
        simpa using this
      · cases hr
  | .seq x y, st, st', ex, hok, hr, E, a, w, h, ha => by
    simp only [codeOk, Bool.and_eq_true] at hok
    rw [runC] at hr
    unfold seqR at hr
    refine wp_seq ?_
    split at hr
    · rename_i s1 e1
      refine wp_mono (runC_ok hmix hT hc x st s1 .normal hok.1 e1 E a w h ha) ?_
      rintro e a' w' ⟨ex1, s2, E', hx, h1, h2, h3, rfl, rfl⟩
      cases e <;> first
        | exact hx.elim
        | (refine wp_mono (runC_ok hmix hT hc y s2 st' ex hok.2 hr E' a' w' h1 h3) ?_
           rintro e2 a2 w2 ⟨ex2, st2, E2, g0, g1, g2, g3, g4⟩
           exact ⟨ex2, st2, E2, g0, g1, h2.trans g2, g3, g4⟩)
    · rename_i hne
      refine wp_mono (runC_ok hmix hT hc x st st' ex hok.1 hr E a w h ha) ?_
      rintro e a' w' ⟨ex1, s2, E', hx, h1, h2, h3, rfl, rfl⟩
      cases ex1 with
      | normal => exact absurd hr (hne _)
      | exit n => cases e <;> first | exact hx.elim | exact ⟨_, s2, E', hx, h1, h2, h3, rfl, rfl⟩
      | ret => cases e <;> first | exact hx.elim | exact ⟨_, s2, E', hx, h1, h2, h3, rfl, rfl⟩
  | .cond c x y, st, st', ex, hok, hr, E, a, w, h, ha => by
    simp only [codeOk, Bool.and_eq_true] at hok
    rw [runC, evR_eq] at hr
    unfold condR at hr
    have hcv := ha.ev c
    split at hr
    · rename_i hce
      rw [hce] at hcv
      generalize hcx : a.eval c = cv at hcv
      cases hcv
      exact wp_cond_split hcx (fun _ => runC_ok hmix hT hc x st st' ex hok.1 hr E a w h ha) (fun e => by cases e)
    · rename_i hce
      rw [hce] at hcv
      generalize hcx : a.eval c = cv at hcv
      cases hcv
      exact wp_cond_split hcx (fun e => by cases e) (fun _ => runC_ok hmix hT hc y st st' ex hok.2 hr E a w h ha)
    · cases hr
  | .block id x, st, st', ex, hok, hr, E, a, w, h, ha => by
    rw [runC] at hr
    unfold blockR at hr
    have hok' : codeOk C x = true := by simpa [codeOk] using hok
    refine wp_block ?_
    split at hr
    · rename_i n s1 e1
      refine wp_mono (runC_ok hmix hT hc x st s1 (.exit n) hok' e1 E a w h ha) ?_
      rintro e a' w' ⟨ex1, s2, E', hx, h1, h2, h3, rfl, rfl⟩
      cases e <;> first
        | exact hx.elim
        | (rename_i m
           have hx' : m = n := hx
           subst hx'
           simp only [Exit.inBlock]
           split at hr
           · rename_i e; rw [Nat.beq_eq] at e; cases hr; rw [if_pos e]; exact ⟨.normal, _, E', trivial, h1, h2, h3, rfl, rfl⟩
           · rename_i e; have e := Nat.ne_of_beq_eq_false e; cases hr; rw [if_neg e]; exact ⟨.exit m, _, E', rfl, h1, h2, h3, rfl, rfl⟩)
    · rename_i hne
      refine wp_mono (runC_ok hmix hT hc x st st' ex hok' hr E a w h ha) ?_
      rintro e a' w' ⟨ex1, s2, E', hx, h1, h2, h3, rfl, rfl⟩
      cases ex1 with
      | exit n => exact absurd hr (hne _ _)
      | normal => cases e <;> first | exact hx.elim | exact ⟨_, s2, E', hx, h1, h2, h3, rfl, rfl⟩
      | ret => cases e <;> first | exact hx.elim | exact ⟨_, s2, E', hx, h1, h2, h3, rfl, rfl⟩
  | .loop x, st, st', ex, hok, hr, E, a, w, h, ha => by
    rw [runC] at hr
    have hok' : codeOk C x = true := by simpa [codeOk] using hok
    have key : ∀ (n : Nat) (s : GSt), loopX (runC T call C fuel x) n s = some (ex, st') → ∀ (E1 : Env) (a1 : Act) (w1 : World), HSim E1 s.o w1 → Keep E st.o w E1 s.o w1 → SlotsR E1 a1 s.s →
        Code.rounds P x (At' E st.o w ex st') n a1 w1 := by
      intro n
      induction n with
      | zero => intro s hs; cases hs
      | succ n ih =>
        intro s hs E1 a1 w1 g1 g2 g3
        rw [rounds_succ]
        unfold loopX at hs
        split at hs
        · rename_i s1 e1
          refine wp_mono (runC_ok hmix hT hc x s s1 .normal hok' e1 E1 a1 w1 g1 g3) ?_
          rintro e a' w' ⟨ex1, s2, E', hx, h1, h2, h3, rfl, rfl⟩
          cases e <;> first
            | exact hx.elim
            | exact ih s2 hs E' a' w' h1 (g2.trans h2) h3
        · rename_i hne
          refine wp_mono (runC_ok hmix hT hc x s st' ex hok' hs E1 a1 w1 g1 g3) ?_
          rintro e a' w' ⟨ex1, s2, E', hx, h1, h2, h3, rfl, rfl⟩
          cases ex1 with
          | normal => exact absurd hs (hne _)
          | exit n => cases e <;> first | exact hx.elim | exact ⟨_, _, E', hx, h1, g2.trans h2, h3, rfl, rfl⟩
          | ret => cases e <;> first | exact hx.elim | exact ⟨_, _, E', hx, h1, g2.trans h2, h3, rfl, rfl⟩
    exact wp_loop_rounds fuel (key fuel st hr E a w h (.refl _ _ _) ha)
  | .exit n, st, st', ex, hok, hr, E, a, w, h, ha => by
    simp only [runC, Option.some.injEq, Prod.mk.injEq] at hr
    obtain ⟨rfl, rfl⟩ := hr
    exact wp_exit ⟨.exit n, st, E, rfl, h, .refl _ _ _, ha, rfl, rfl⟩
  | .ret, st, st', ex, hok, hr, E, a, w, h, ha => by
    simp only [runC, Option.some.injEq, Prod.mk.injEq] at hr
    obtain ⟨rfl, rfl⟩ := hr
    exact wp_ret ⟨.ret, st, E, trivial, h, .refl _ _ _, ha, rfl, rfl⟩
  | .rangeFunc .., st, st', ex, hok, hr, E, a, w, h, ha => by simp [runC] at hr
  | .goto .., st, st', ex, hok, hr, E, a, w, h, ha => by simp [runC] at hr
  | .label .., st, st', ex, hok, hr, E, a, w, h, ha => by simp [runC] at hr
  | .scope .., st, st', ex, hok, hr, E, a, w, h, ha => by simp [runC] at hr
  | .refuse .., st, st', ex, hok, hr, E, a, w, h, ha => by simp [runC] at hr

/-! functions -/
def resX (T : Tabs) (st : GSt) : List ResultVar → Option (List GVal)
  | [] => some []
  | .tmp t :: r => match resX T st r with
    | some gs => some (sget st.s t :: gs)
    | none => none
  | .cell a t :: r => match loadX T t (sget st.s a) st.o, resX T st r with
    | some g, some gs => some (g :: gs)
    | _, _ => none
theorem resX_ok (hT : T.Ok P) {st : GSt} : ∀ (rs : List ResultVar) (gs : List GVal) (K : List GVal → Prop), resX T st rs = some gs → K gs → resV P st rs K
  | [], gs, K, h, hk => by simp only [resX, Option.some.injEq] at h; subst h; exact hk
  | .tmp t :: r, gs, K, h, hk => by
    unfold resX at h
    split at h
    · rename_i gs' e; cases h; exact resX_ok hT r gs' _ e hk
    · cases h
  | .cell a t :: r, gs, K, h, hk => by
    unfold resX at h
    split at h
    · rename_i g gs' e1 e2; cases h; exact loadX_ok hT e1 (resX_ok hT r gs' _ e2 hk)
    · cases h

def endX (T : Tabs) (rs : List ResultVar) : Option (Ex × GSt) → Option (GVal × List GObj)
  | some (.exit _, _) => none
  | some (_, st) => match resX T st rs with
    | some gs => some (resG gs, st.o)
    | none => none
  | none => none

noncomputable def runF (T : Tabs) (fuel : Nat) : Nat → CallX
  | 0 => fun _ _ _ => none
  | n + 1 => fun f args O => match T.fn f with
    | some x => if args.length ≤ x.n then forceL (args ++ List.replicate (x.n - args.length) .any) (fun s => endX T x.rs (runC T (runF T fuel n) ⟨x.ro, x.ord⟩ fuel x.body ⟨s, O⟩)) else none
    | none => none

theorem runF_ok (hmix : P.follows .mixedOrders = true) (hT : T.Ok P) {fuel : Nat} : ∀ n, (runF T fuel n).Ok P
  | 0 => fun f args O g O' h => by cases h
  | n + 1 => fun f args O g O' h => by
    have ih := runF_ok hmix hT (fuel := fuel) n
    unfold runF at h
    split at h
    · rename_i x hx
      obtain ⟨⟨fn, h1, h2, h3, h4⟩, h5, h6⟩ := hT.fn _ _ hx
      split at h
      · rename_i hle
        rw [forceL_eq] at h
        refine gcalls_of_wp h1 h2 h3 rfl h5 hle fun E a w hs ha => ?_
        rw [h4]
        unfold endX at h
        split at h
        · cases h
        · rename_i ex st' hne e1
          split at h
          · rename_i gs e2
            cases h
            refine wp_mono (runC_ok hmix hT ih x.body _ st' ex h6 e1 E a w hs ha) ?_
            rintro e a' w' ⟨ex1, s2, E', hx, g1, g2, g3, rfl, rfl⟩
            refine ⟨ex1, s2, E', hx, g1, g2, g3, ?_⟩
            cases ex1 with
            | exit m => exact (hne _ rfl).elim
            | normal => exact resX_ok hT _ _ _ e2 ⟨rfl, rfl⟩
            | ret => exact resX_ok hT _ _ _ e2 ⟨rfl, rfl⟩
          · cases h
        · cases h
      · cases h
    · cases h

/-- what a closed call comes to, by calculation -/
noncomputable def comes (T : Tabs) (fuel : Nat) (f : Nat) (args : List GVal) : Option GVal :=
  match runF T fuel fuel f args [.clock 0] with
  | some (g, X) => match frz X 64 g with
    | some g' => if noStL args = true ∧ g'.noSt = true then some g' else none
    | none => none
  | none => none
theorem comes_ok (hmix : P.follows .mixedOrders = true) (hT : T.Ok P) {fuel f : Nat} {args : List GVal} {g : GVal} (h : comes T fuel f args = some g) : GPure P f args g := by
  unfold comes at h
  split at h
  · rename_i g1 X e
    split at h
    · rename_i g' hz
      split at h
      · rename_i hc
        cases h
        exact ((runF_ok hmix hT fuel f args _ _ _ e).frz hz).pure hc.1 hc.2
      · cases h
    · cases h
  · cases h

end Gv
/- The tables that a calculation looks up, for any program. -/
set_option linter.unusedVariables false
namespace Gv
open Go

def fnx (fn : Func) (ro : List Nat) (ord : List (Nat × List (Nat × Nat))) : FnX := ⟨fn.body.getD .skip, fn.ntmps, fn.results.toList, ro, ord⟩
def findFn : List (Nat × FnX) → Nat → Option FnX
  | [], _ => none
  | (f, x) :: r, g => if f = g then some x else findFn r g

def FnOk (P : Program) (f : Nat) (x : FnX) : Prop :=
  (∃ fn, P.funcs[f]? = some fn ∧ fn.body = some x.body ∧ fn.ntmps = x.n ∧ fn.results.toList = x.rs) ∧ enterable P f = true ∧ codeOk ⟨x.ro, x.ord⟩ x.body = true

theorem FnOk.mk {P : Program} {f : Nat} {fn : Func} {ro : List Nat} {ord : List (Nat × List (Nat × Nat))} (h : P.funcs[f]? = some fn) (hb : fn.body.isSome = true) (hn : (fn.name != "runtime.NumGoroutine") = true)
    (hc : codeOk ⟨ro, ord⟩ (fn.body.getD .skip) = true) : FnOk P f (fnx fn ro ord) := by
  obtain ⟨c, hc'⟩ := Option.isSome_iff_exists.1 hb
  refine ⟨⟨fn, h, by simp [fnx, hc'], rfl, rfl⟩, ?_, hc⟩
  unfold enterable
  rw [h]
  simp only [hb, hn, Bool.and_self]

theorem findFn_ok {P : Program} : ∀ {l : List (Nat × FnX)}, (∀ p ∈ l, FnOk P p.1 p.2) → ∀ f x, findFn l f = some x → FnOk P f x
  | [], _, f, x, h => by cases h
  | (g, y) :: r, hl, f, x, h => by
    unfold findFn at h
    split at h
    · rename_i e; cases h; subst e; exact hl (_, _) (by simp)
    · exact findFn_ok (fun p hp => hl p (by simp [hp])) f x h

def tabsOf (P : Program) (fns : List (Nat × FnX)) (ys : List Nat := []) : Tabs where
  yes f := ys.contains f
  tab := Gv.tab P
  fld := Gv.fld P
  els := Gv.els P
  arr := Gv.arr P
  zer := Gv.zer P
  plc := Gv.plc P
  elt := Gv.elt P
  keyT := Gv.keyT P
  zeroG := Gv.zeroG P
  aggT := Gv.aggT P
  isBool t := match P.underlying t with | some .bool => true | _ => false
  isStr t := match P.underlying t with | some .string => true | _ => false
  isIface t := match P.underlying t with | some (.interface _) => true | _ => false
  isFunc t := match P.underlying t with | some (.func _ _ _) => true | _ => false
  isPtr t := match P.underlying t with | some (.pointer _) => true | _ => false
  isSlice t := match P.underlying t with | some (.slice _) => true | _ => false
  isMap t := match P.underlying t with | some (.map _ _) => true | _ => false
  intK t := match P.underlying t with | some (.int k) => some k | _ => none
  plain t := match P.underlying t with | some (.interface _) => false | some _ => true | none => false
  fn := findFn fns

theorem tabsOf_ok {P : Program} {fns : List (Nat × FnX)} {ys : List Nat} (h : ∀ p ∈ fns, FnOk P p.1 p.2) (hy : ∀ f ∈ ys, GPure P f [] (.bool true) := by simp) : (tabsOf P fns ys).Ok P where
  yes f e := hy f (by simpa [tabsOf] using e)
  tab _ _ e := e
  fld _ _ _ e := e
  els _ _ e := e
  arr _ _ e := e
  zer _ _ e := e
  plc _ _ e := e
  elt _ _ e := e
  keyT _ _ e := e
  zeroG _ _ e := e
  aggT _ _ e := e
  isBool t e := by simp only [tabsOf] at e; split at e <;> simp_all
  isStr t e := by simp only [tabsOf] at e; split at e <;> simp_all
  isIface _ e := e
  isFunc _ e := e
  isPtr _ e := e
  isSlice _ e := e
  isMap _ e := e
  intK t k e := by simp only [tabsOf] at e; split at e <;> simp_all
  plain _ e := e
  fn := findFn_ok h

end Gv
/- From a pure call over ghost values to the kit's frame. -/
set_option linter.unusedVariables false
namespace Gv
open Go Go.RowKit Go.WideShapes Go.ChangeShapes

/-- nothing is known -/
def Env.nil : Env := ⟨fun _ _ => none, fun _ => none⟩
theorem HSim.start (w : World) : HSim Env.nil [] w :=
  ⟨⟨0, (fun c hc => by cases hc), fun _ _ => rfl⟩, (fun b o v h => by cases h), (fun b o v h => by cases h), (fun i x hx => by simp at hx), fun i j oi oj b _ hi => by simp at hi⟩

/-- of what was there nothing has turned -/
structure Old (w w' : World) : Prop where
  os : w'.os = w.os
  output : w'.output = w.output
  size : w.heap.size ≤ w'.heap.size
  block : ∀ k, k < w.heap.size → w'.heap[k]? = w.heap[k]?

theorem Keep.old {E E' : Env} {O' : List GObj} {w w' : World} (h : Keep E [] w E' O' w') : Old w w' :=
  ⟨h.os, h.out, h.size, fun i hi => h.heap i hi (fun ⟨j, x, hx, _⟩ => by simp at hx)⟩
theorem Old.frame {W W' : World} (h : Old W W') (may : MemPlace → Prop) : W.keptBut W' may := by
  refine ⟨h.os, h.output, fun i hi => ?_⟩
  rw [h.block i hi]
  split <;> simp_all
theorem Old.frozen {w w' : World} (h : Old w w') {p : Addr} (hp : p.block < w.heap.size) : w'.frozen? p = w.frozen? p := World.frozen?_of_block (w := w) (h.block p.block hp)

section
variable {H : Type} {enc : TypeId × Value → H} {P : Program}
theorem post_of_old {f : Func} {s : ChangeSpec} {apart fresh handsOn again : Bool} {W W' : World} {args : Array Value} {v : Value} {ds gs : List (DataW H)} {before pa pv : List MemPlace}
    (hW : DataW.Whole enc P f.params.toList s.vars apart W args.toList ds gs before)
    (hres : ∀ (b : Nat) (sp : Nat → Bool) (hd : Bool), DataW.TrodAll enc P W' b sp hd f.resultTypes.toList (v.resultList f.resultTypes.size) (s.fn H (ds ++ gs)).results [])
    (hargs : ∀ sp : Nat → Bool, (∀ p ∈ before, sp p.block = true) → DataW.TrodAll enc P W' 0 sp true f.params.toList args.toList (s.fn H (ds ++ gs)).args pa)
    (hvars : ∀ sp : Nat → Bool, (∀ p ∈ before, sp p.block = true) → DataW.TrodVars enc P W' sp s.vars (s.fn H (ds ++ gs)).vars pv)
    (hps : before = pa ++ pv) (hb : Old W W')
    (hok : ∀ (j : Nat) (t : TypeId) (r : Value), f.resultTypes[j]? = some t → (v.resultList f.resultTypes.size)[j]? = some r → Value.okWide P W' .any 0 t r) :
    s.post enc P f apart fresh handsOn again W args v W' := by
  have hlt : ∀ p ∈ before, p.block < W.heap.size := fun p hp => hW.lt p hp
  have hold : ∀ p ∈ before, (fun b => decide (b < W.heap.size)) p.block = true := fun p hp => by simpa using hlt p hp
  refine ⟨ds, gs, before, [], pa, pv, hW, hres _ _ _, hargs _ hold, hvars _ hold, World.keptBut_mono (fun p hp => ⟨hp, ?_⟩) (hb.frame (· ∈ before)), fun _ => ?_⟩
  · rw [hps, List.mem_append] at hp
    exact Or.inr hp
  · obtain ⟨_, _, _, _, _, hz, hn⟩ := hW
    refine ⟨hok, _, _, ([] ++ pa) ++ pv, ⟨[] ++ pa, pv, trodAll_append (hargs _ (fun _ _ => rfl)) (hres _ _ _), hvars _ (fun _ _ => rfl), rfl, ?_, ?_⟩, ?_⟩
    · intro b off hp
      have hin : MemPlace.cell b off ∈ before := by rw [hps]; simpa using hp
      rw [hb.frozen (hlt _ hin)]
      exact hz b off hin
    · intro ha
      have := hn ha
      rw [hps] at this
      simpa using this
    · intro p hp _
      rw [hps]
      simpa using hp
end

/-- a closed law that is calculated to true -/
theorem GPure.law {P : Program} {f : FuncId} (h : GPure P f [] (.bool true)) (w : World) :
    Calls P f #[] w fun e w' => e = .returned (.bool true) ∧ Old w w' := by
  refine (h.2 Env.nil w #[] (HSim.start w) ⟨rfl, fun i g hg => by simp at hg⟩).mono ?_
  rintro e w' ⟨v, E', O', g, rfl, h1, h2, h3, rfl, rfl⟩
  cases h3
  exact ⟨rfl, h2.old⟩

end Gv
/- Words for conditions. -/
set_option linter.unusedVariables false
namespace Gv
open Go

def allSolid : List GVal → Prop
  | [] => True
  | x :: r => x.solid = true ∧ allSolid r
theorem allSolid_eq : ∀ l : List GVal, (∀ c ∈ l, c.solid = true) = allSolid l
  | [] => by simp [allSolid]
  | x :: r => by rw [allSolid, ← allSolid_eq r]; simp
theorem okCells_eq (g : GVal) : g.okCells = allSolid g.cells := allSolid_eq _
theorem all_nil {α : Type} (p : α → Prop) : (∀ x ∈ ([] : List α), p x) = True := by simp
theorem all_cons {α : Type} (p : α → Prop) (a : α) (l : List α) : (∀ x ∈ a :: l, p x) = (p a ∧ ∀ x ∈ l, p x) := by simp
theorem all_append {α : Type} (p : α → Prop) (a b : List α) : (∀ x ∈ a ++ b, p x) = ((∀ x ∈ a, p x) ∧ ∀ x ∈ b, p x) := by
  simp [or_imp, forall_and]
theorem all_ints (l : List Int) : (∀ x ∈ ints l, x.length = 1) = True := by simp [ints]
theorem stamp_nil (K : Nat → Prop) : stamp [] K = ∀ st, K st := rfl
theorem stamp_tok (a b : Nat) (r : List GObj) (K : Nat → Prop) : stamp (.tok a b :: r) K = ∀ st, K st := rfl
theorem stamp_row (a b : Nat) (xs : List (List GVal)) (r : List GObj) (K : Nat → Prop) : stamp (.row a b xs :: r) K = ∀ st, K st := rfl
theorem stamp_map (a : Nat) (xs : List (GVal × GVal)) (r : List GObj) (K : Nat → Prop) : stamp (.map a xs :: r) K = ∀ st, K st := rfl
theorem tick_nil : tickO [] = [] := rfl
theorem tick_tok (a b : Nat) (r : List GObj) : tickO (.tok a b :: r) = .tok a b :: r := rfl
theorem tick_row (a b : Nat) (xs : List (List GVal)) (r : List GObj) : tickO (.row a b xs :: r) = .row a b xs :: r := rfl
theorem tick_map (a : Nat) (xs : List (GVal × GVal)) (r : List GObj) : tickO (.map a xs :: r) = .map a xs :: r := rfl
theorem clock_nil : clockOf [] = none := rfl
theorem sget_nil (n : Nat) : sget [] n = .any := rfl

/-- a list of lists of integers -/
def tabG (l : List (List Int)) : List (List GVal) := l.map fun p => [.slice (ints p) .none]
theorem tabG_length (l : List (List Int)) : (tabG l).length = l.length := by simp [tabG]
theorem tabG_at (l : List (List Int)) (i : Nat) (h : i < l.length) : (tabG l).getD i [] = [.slice (ints (l.getD i [])) .none] := by simp [tabG, List.getD, h]
theorem tabG_append (a b : List (List Int)) : tabG (a ++ b) = tabG a ++ tabG b := by simp [tabG]
theorem tabG_nil : tabG [] = [] := rfl
theorem all_tabG (l : List (List Int)) : (∀ x ∈ tabG l, x.length = 1) = True := by simp [tabG]
theorem contains_one (a : Nat) : [a].contains a = true := by simp
theorem if_self_and (p : Prop) : (True ∧ p) = p := true_and p

/-- an outgrown slice of integers is any list's that is the same -/
theorem leG_ints (a b : List Int) (t : Tag) (h : a = b) : leG (.slice (ints a) t) (.slice (ints b) .none) := by rw [leG_none, h]

/-- less said, inside an aggregate too -/
def leA (x y : GVal) : Prop :=
  match x, y with
  | .agg xs, .agg ys => WL xs ys
  | .tuple xs, .tuple ys => WL xs ys
  | x, y => leG x y
theorem leA.sound {E : Env} {v : Value} {x y : GVal} (h : leA x y) (hv : VR E v x) : VR E v y := by
  unfold leA at h
  split at h
  · rename_i xs ys
    cases hv with
    | agg vs cs hs hc =>
      refine .agg vs ys (by rw [hs, h.len]) (fun j g hg => ?_)
      obtain ⟨x, hx, hl⟩ := h.at_ j g hg
      exact hl.sound (hc j x hx)
  · rename_i xs ys
    cases hv with
    | tuple vs cs hs hc =>
      refine .tuple vs ys (by rw [hs, h.len]) (fun j g hg => ?_)
      obtain ⟨x, hx, hl⟩ := h.at_ j g hg
      exact hl.sound (hc j x hx)
  · exact h.sound hv
theorem leA_int (k k' : IntKind) (a b : Int) : leA (.int k a) (.int k' b) = (k = k' ∧ a = b) := by unfold leA; simp [leG_int]
theorem leA_bool (a b : Bool) : leA (.bool a) (.bool b) = (a = b) := by unfold leA; simp [leG_bool]
theorem leA_slice (xs ys : List (List GVal)) (t : Tag) : leA (.slice xs t) (.slice ys .none) = (xs = ys) := by unfold leA; simp [leG_none]
theorem leA_agg (xs ys : List GVal) : leA (.agg xs) (.agg ys) = WL xs ys := rfl
theorem leA_tuple (xs ys : List GVal) : leA (.tuple xs) (.tuple ys) = WL xs ys := rfl
theorem WL_nil : WL [] [] = True := rfl
theorem WL_cons (x y : GVal) (xs ys : List GVal) : WL (x :: xs) (y :: ys) = (leG x y ∧ WL xs ys) := rfl

theorem GInto.leA {g r : GVal} {O : List GObj} {N : GVal → List GObj → Prop} (h : Gv.leA g r) (hn : N r []) : GInto g O N := fun E v w hs hv => by
  obtain ⟨h1, h2⟩ := HSim.drop (O := []) (X := O) (by simpa using hs)
  exact ⟨r, [], E, hn, h1, by simpa using h2, h.sound hv⟩

/-- one function's pure contract, from its conditions; less may be said of its value, inside it too -/
theorem gpure_of_vc2 {P : Program} (hmix : P.follows .mixedOrders = true) {f : FuncId} {fn : Func} {c : Code} {n : Nat} {rs : Array ResultVar} (C : Cfg) {args : List GVal} {r : GVal}
    (hf : P.funcs[f]? = some fn) (hb : fn.body = some c) (hn : fn.ntmps = n) (hr : fn.results = rs) (hen : enterable P f = true) (hargs : args.length ≤ n) (hcok : codeOk C c = true)
    (hvc : vc P C c (retQ P rs.toList (fun g O' => leA g r)) (gstart n args [])) : GPure P f args r :=
  GCalls.into ((gcalls_of_vc hmix C hf hb hn hr hen hargs hcok hvc).mono fun g O' h => GInto.leA h ⟨rfl, rfl⟩)

end Gv
