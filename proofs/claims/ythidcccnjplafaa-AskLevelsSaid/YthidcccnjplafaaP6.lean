/- The calculation in small pieces: what the kernel unfolds stays small. -/
import Derived.Test.YthidcccnjplafaaP5
set_option linter.unusedVariables false
namespace Gv
open Go

variable {P : Program} {T : Tabs}

/-! numbers -/
def leI (a b : Int) : Bool :=
  match a, b with
  | .ofNat m, .ofNat n => Nat.ble m n
  | .negSucc m, .negSucc n => Nat.ble n m
  | .negSucc _, .ofNat _ => true
  | .ofNat _, .negSucc _ => false
theorem not_le (a b : Int) : decide (a < b) = !decide (b ≤ a) := by
  rw [Bool.eq_iff_iff, decide_eq_true_iff]
  simp
def eqI (a b : Int) : Bool :=
  match a, b with
  | .ofNat m, .ofNat n => Nat.beq m n
  | .negSucc m, .negSucc n => Nat.beq m n
  | _, _ => false
def subI (a b : Int) : Int :=
  match a, b with
  | .ofNat m, .ofNat n => match Nat.ble n m with
    | true => .ofNat (m - n)
    | false => a - b
  | _, _ => a - b
def normX (k : IntKind) (n : Int) : Int :=
  match k, n with
  | .i64, .ofNat m => match Nat.ble m 9223372036854775807 with
    | true => .ofNat m
    | false => norm .i64 (.ofNat m)
  | .i64, .negSucc m => match Nat.ble m 9223372036854775807 with
    | true => .negSucc m
    | false => norm .i64 (.negSucc m)
  | k, n => norm k n
def kEq (a b : IntKind) : Bool :=
  match a, b with
  | .i64, .i64 => true
  | .u8, .u8 => true
  | a, b => decide (a = b)
/-! two operands -/
def bInt (f : IntKind → Int → Int → Option GVal) (x y : GVal) : Option GVal :=
  match x, y with
  | .int k a, .int k' b => match kEq k k' with
    | true => f k a b
    | false => none
  | _, _ => none
def fAdd (k : IntKind) (a b : Int) : Option GVal := some (.int k (normX k (a + b)))
def fSub (k : IntKind) (a b : Int) : Option GVal := some (.int k (normX k (subI a b)))
def fEql (k : IntKind) (a b : Int) : Option GVal := some (.bool (eqI a b))
def fNeq (k : IntKind) (a b : Int) : Option GVal := some (.bool (!eqI a b))
def fLss (k : IntKind) (a b : Int) : Option GVal := some (.bool (!leI b a))
def fLeq (k : IntKind) (a b : Int) : Option GVal := some (.bool (leI a b))
def fGtr (k : IntKind) (a b : Int) : Option GVal := some (.bool (!leI a b))
def fGeq (k : IntKind) (a b : Int) : Option GVal := some (.bool (leI b a))
def orX (a b : Option GVal) : Option GVal := match a with
  | some v => some v
  | none => b
def binD (op : BinOp) : Tabs → TypeId → GVal → GVal → Option GVal :=
  match op with
  | .add => fun T t x y => orX (bInt fAdd x y) (binX T .add t x y)
  | .sub => fun T t x y => orX (bInt fSub x y) (binX T .sub t x y)
  | .eql => fun T t x y => orX (bInt fEql x y) (binX T .eql t x y)
  | .neq => fun T t x y => orX (bInt fNeq x y) (binX T .neq t x y)
  | .lss => fun T t x y => orX (bInt fLss x y) (binX T .lss t x y)
  | .leq => fun T t x y => orX (bInt fLeq x y) (binX T .leq t x y)
  | .gtr => fun T t x y => orX (bInt fGtr x y) (binX T .gtr t x y)
  | .geq => fun T t x y => orX (bInt fGeq x y) (binX T .geq t x y)
  | op => fun T t x y => binX T op t x y
/-! slots -/
noncomputable def nthR (s : List GVal) : Nat → GVal := List.rec (motive := fun _ => Nat → GVal) (fun _ => .any) (fun x _ ih n => Nat.rec (motive := fun _ => GVal) x (fun m _ => ih m) n) s
noncomputable def evR (st : GSt) (x : Operand) : GVal :=
  match x with
  | .tmp t => nthR st.s t
  | .const v => .ofConst v
  | .global g => .lit (.pointer (some ⟨g, 0, none⟩))
  | .func f => .func (.func f) [] []
noncomputable def setR {β : Type} (s : List GVal) (d : Nat) (g : GVal) (k : List GVal → β) : β :=
  List.rec (motive := fun _ => Nat → (List GVal → β) → β) (fun _ k => k []) (fun x r ih n k => Nat.rec (motive := fun _ => β) (k (g :: r)) (fun m _ => ih m fun r' => k (x :: r')) n) s d k
/-! memory -/
noncomputable def nthO {α : Type} (s : List α) : Nat → Option α := List.rec (motive := fun _ => Nat → Option α) (fun _ => none) (fun x _ ih n => Nat.rec (motive := fun _ => Option α) (some x) (fun m _ => ih m) n) s
noncomputable def dropR {α : Type} (s : List α) : Nat → List α := List.rec (motive := fun _ => Nat → List α) (fun _ => []) (fun x r ih n => Nat.rec (motive := fun _ => List α) (x :: r) (fun m _ => ih m) n) s
noncomputable def takeR {α : Type} (s : List α) : Nat → List α := List.rec (motive := fun _ => Nat → List α) (fun _ => []) (fun x r ih n => Nat.rec (motive := fun _ => List α) [] (fun m _ => x :: ih m) n) s
noncomputable def lenR {α : Type} (s : List α) : Nat := List.rec (motive := fun _ => Nat) 0 (fun _ _ ih => Nat.succ ih) s
def grpR (ag : Bool) (cs : List GVal) : Option GVal := match ag, cs with
  | true, cs => some (.agg cs)
  | false, [c] => some c
  | _, _ => none
/-- n cells from a place on -/
noncomputable def cellsR (ag : Bool) (n : Nat) (cs : List GVal) : Option GVal := match Nat.beq (lenR (takeR cs n)) n, Nat.ble 1 n with
  | true, true => grpR ag (takeR cs n)
  | _, _ => none
noncomputable def loadRow (n : Nat) (ag : Bool) (st i j : Nat) : GObj → Option GVal
  | .row st' _ xs => match Nat.beq st st', nthO xs i with
    | true, some r => cellsR ag n (dropR r j)
    | _, _ => none
  | _ => none
noncomputable def loadF (n : Nat) (ag : Bool) (O : List GObj) : GVal → Option GVal
  | .ref cs => cellsR ag n cs
  | .ptr o st i j => match nthO O o with
    | some x => loadRow n ag st i j x
    | none => none
  | _ => none
noncomputable def loadY (T : Tabs) (t : TypeId) (g : GVal) (O : List GObj) : Option GVal := match T.tab t with
  | some (n, ag) => loadF n ag O g
  | none => none
/-- an element's place -/
noncomputable def idxRow (sz : Nat) (r : Option (List GVal)) : Option GVal := match r with
  | some r => match Nat.beq (lenR r) sz with
    | true => some (.ref r)
    | false => none
  | none => none
noncomputable def idxOwn (o st off m sz : Nat) : Option GObj → Option GVal
  | some (.row st' sz' xs) => match Nat.beq st st', Nat.beq sz sz', nthO xs (off + m) with
    | true, true, some _ => some (.ptr o st (off + m) 0)
    | _, _, _ => none
  | _ => none
noncomputable def idxF (T : Tabs) (t : TypeId) (m : Nat) (O : List GObj) : GVal → Option GVal
  | .slice xs _ => match T.els t with
    | some (sz, _) => idxRow sz (nthO xs m)
    | none => none
  | .own o st off len => match T.els t, Nat.ble (m + 1) len with
    | some (sz, _), true => idxOwn o st off m sz (nthO O o)
    | _, _ => none
  | _ => none
noncomputable def idxY (T : Tabs) (t : TypeId) (g : GVal) (O : List GObj) : GVal → Option GVal
  | .int _ (.ofNat m) => idxF T t m O g
  | _ => none
/-- written out on the outside alone -/
noncomputable def headG {β : Type} (g : GVal) (k : GVal → β) : β :=
  match g with
  | .int q n => forceI n fun n => k (.int q n)
  | .bool true => k (.bool true)
  | .bool false => k (.bool false)
  | .slice xs t => k (.slice xs t)
  | .own o st i len => k (.own o st i len)
  | .ptr o st i j => k (.ptr o st i j)
  | .agg cs => k (.agg cs)
  | .tuple cs => k (.tuple cs)
  | .ref cs => k (.ref cs)
  | .str s => k (.str s)
  | .any => k .any
  | .lit v => k (.lit v)
  | .map o st => k (.map o st)
  | .func f a b => k (.func f a b)
  | .iface t v => k (.iface t v)
  | g => k g
noncomputable def forceR (r : Option (GVal × List GObj)) : Option (GVal × List GObj) := match r with
  | some (g, O') => forceG g fun g => some (g, O')
  | none => none
/-! one operation -/
abbrev OpF := Tabs → CallX → List Nat → GSt → Option Nat → Option (GVal × List GObj)
noncomputable def oMove (x : Operand) : OpF := fun _ _ _ st _ => some (evR st x, st.o)
def pickX (a b : GVal) (O : List GObj) (c : GVal) : Option (GVal × List GObj) := match c with
  | .bool true => some (a, O)
  | .bool false => some (b, O)
  | _ => none
noncomputable def oPick (c a b : Operand) : OpF := fun _ _ _ st _ => pickX (evR st a) (evR st b) st.o (evR st c)
noncomputable def oBin (op : BinOp) (t : TypeId) (x y : Operand) : OpF := fun T _ _ st _ => withO st.o (binD op T t (evR st x) (evR st y))
noncomputable def oUn (op : UnOp) (x : Operand) : OpF := fun _ _ _ st _ => withO st.o (unX op (evR st x))
noncomputable def oConv (s d : TypeId) (x : Operand) : OpF := fun T _ _ st _ => withO st.o (convX T s d (evR st x))
noncomputable def oLoad (t : TypeId) (x : Operand) : OpF := fun T _ _ st _ => forceR (withO st.o (orX (loadY T t (evR st x) st.o) (loadX T t (evR st x) st.o)))
def anyO (x : Option (List GObj)) : Option (GVal × List GObj) := match x with
  | some O' => some (.any, O')
  | none => none
noncomputable def oStore (t : TypeId) (x y : Operand) : OpF := fun T _ _ st _ => anyO (storeX T t (evR st x) (evR st y) st.o)
noncomputable def oFieldAddr (s : TypeId) (x : Operand) (f : Nat) : OpF := fun T _ _ st _ => withO st.o (fieldAddrX T s (evR st x) f)
noncomputable def oField (s : TypeId) (x : Operand) (f : Nat) : OpF := fun T _ _ st _ => withO st.o (fieldX T s (evR st x) f)
noncomputable def oIndexAddr (t : TypeId) (x i : Operand) : OpF := fun T _ _ st _ => withO st.o (orX (idxY T t (evR st x) st.o (evR st i)) (indexAddrX T t (evR st x) (evR st i) st.o))
noncomputable def oIndex (t : TypeId) (x i : Operand) : OpF := fun T _ _ st _ => withO st.o (indexX T t (evR st x) (evR st i))
noncomputable def oExtract (x : Operand) (i : Nat) : OpF := fun _ _ _ st _ => withO st.o (extractX (evR st x) i)
noncomputable def oLookup (t : TypeId) (x y : Operand) (ok : Bool) : OpF := fun T _ _ st _ => withO st.o (lookupX T t (evR st x) (evR st y) ok st.o)
noncomputable def oCall (c : Call) : OpF := fun T call R st d => forceR (callX T call (match d with | some d => R.contains d | none => false) st c)
noncomputable def oRest (o : Op) : OpF := fun T call R st d => forceR (opx T call R st ⟨d, o, 0, default, #[], none⟩)
noncomputable def opxD (o : Op) : OpF :=
  match o with
  | .move x => oMove x
  | .assign x => oMove x
  | .pick c a b => oPick c a b
  | .binOp op t x y _ => oBin op t x y
  | .unOp op _ x => oUn op x
  | .convert s d x => oConv s d x
  | .load t x => oLoad t x
  | .store t x y => oStore t x y
  | .fieldAddr s x f => oFieldAddr s x f
  | .field s x f => oField s x f
  | .indexAddr t x i => oIndexAddr t x i
  | .index t x i => oIndex t x i
  | .extract x i => oExtract x i
  | .lookup t x y ok => oLookup t x y ok
  | .call c => oCall c
  | o => oRest o
end Gv
/- A call that stands apart, of which a slice is left that may be appended to. -/
set_option linter.unusedVariables false
namespace Gv
open Go

variable {P : Program}

/-- what is known of a slice's spare room behind a call that stood apart -/
structure Spare (E : Env) (X : List GObj) (w : World) (v : Value) (sz : Nat) (ys : List (List GVal)) (l : GLoc) : Prop where
  size : l.size = sz
  block : ∀ b, l.block = some b → InO E X b ∧ ∃ cur el, w.heap[b]? = some (.cells cur el (0, 0)) ∧ cur.size = l.total ∧ ∀ o, l.off ≤ o → (E.frz X w).snap b o = none
  val : VR (E.frz X w) v (.slice ys .none)
  tag : ∀ a len cap, v = .slice a len cap → cap = len ∨ ∃ b off, a = some ⟨b, off, none⟩ ∧ l.block = some b ∧ l.off = off + len * l.size ∧ off + cap * l.size ≤ l.total

/-- the slice of a call that stood apart: its elements, their size -/
def spareX (X : List GObj) (g : GVal) : Option (List (List GVal) × Nat) :=
  match g with
  | .own o st off len => match X[o]? with
    | some (.row st' sz xs) => if st = st' ∧ off + len = xs.length then (match frzLL (frz X 64) ((xs.drop off).take len) with
      | some ys => some (ys, sz)
      | none => none) else none
    | _ => none
  | .slice xs (.tok o st) => match X[o]? with
    | some (.tok st' sz) => if st = st' then (match frzLL (frz X 64) xs with
      | some ys => some (ys, sz)
      | none => none) else none
    | _ => none
  | _ => none
end Gv
