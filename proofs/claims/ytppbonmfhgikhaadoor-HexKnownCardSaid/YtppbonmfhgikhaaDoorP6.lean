/- The calculation in small pieces: what the kernel unfolds stays small. -/
import Derived.Test.YtppbonmfhgikhaaDoorP5
set_option linter.unusedVariables false
namespace Gv
open Go

variable {P : Program} {T : Tabs}

/-! numbers -/
def leI (a b : Int) : Bool :=
  match a, b with
  | .ofNat m, .ofNat n => Nat.ble m n
  | .negSucc m, .negSucc n => Nat.ble n m
  | .negSucc _, .ofNat _ => true
  | .ofNat _, .negSucc _ => false
theorem leI_eq (a b : Int) : leI a b = decide (a ≤ b) := by
  unfold leI
  split
  · rename_i m n
    rw [Bool.eq_iff_iff, Nat.ble_eq, decide_eq_true_iff]
    simp
  · rename_i m n
    rw [Bool.eq_iff_iff, Nat.ble_eq, decide_eq_true_iff, Int.negSucc_eq, Int.negSucc_eq]
    omega
  · rename_i m n
    symm
    rw [decide_eq_true_iff, Int.negSucc_eq, Int.ofNat_eq_natCast]
    omega
  · rename_i m n
    symm
    rw [decide_eq_false_iff_not, Int.negSucc_eq, Int.ofNat_eq_natCast]
    omega
theorem not_le (a b : Int) : decide (a < b) = !decide (b ≤ a) := by
  rw [Bool.eq_iff_iff, decide_eq_true_iff]
  simp
def eqI (a b : Int) : Bool :=
  match a, b with
  | .ofNat m, .ofNat n => Nat.beq m n
  | .negSucc m, .negSucc n => Nat.beq m n
  | _, _ => false
theorem eqI_eq (a b : Int) : eqI a b = (a == b) := by
  unfold eqI
  split
  · rename_i m n
    rw [Bool.eq_iff_iff, Nat.beq_eq, beq_iff_eq]
    simp only [Int.ofNat_eq_natCast]
    omega
  · rename_i m n
    rw [Bool.eq_iff_iff, Nat.beq_eq, beq_iff_eq]
    simp only [Int.negSucc_eq]
    omega
  · rename_i h1 h2
    symm
    rw [beq_eq_false_iff_ne]
    intro e
    subst e
    cases a with
    | ofNat m => exact h1 m m rfl rfl
    | negSucc m => exact h2 m m rfl rfl
def subI (a b : Int) : Int :=
  match a, b with
  | .ofNat m, .ofNat n => match Nat.ble n m with
    | true => .ofNat (m - n)
    | false => a - b
  | _, _ => a - b
theorem subI_eq (a b : Int) : subI a b = a - b := by
  unfold subI
  split
  · rename_i m n
    split
    · rename_i h
      rw [Nat.ble_eq] at h
      simp only [Int.ofNat_eq_natCast]; omega
    · rfl
  · rfl
def normX (k : IntKind) (n : Int) : Int :=
  match k, n with
  | .i64, .ofNat m => match Nat.ble m 9223372036854775807 with
    | true => .ofNat m
    | false => norm .i64 (.ofNat m)
  | .i64, .negSucc m => match Nat.ble m 9223372036854775807 with
    | true => .negSucc m
    | false => norm .i64 (.negSucc m)
  | k, n => norm k n
theorem normX_eq (k : IntKind) (n : Int) : normX k n = norm k n := by
  unfold normX
  split
  · split
    · rename_i h; rw [Nat.ble_eq] at h; rw [norm_i64 (by simp only [Int.ofNat_eq_natCast]; omega)]
    · rfl
  · split
    · rename_i h; rw [Nat.ble_eq] at h; rw [norm_i64 (by rw [Int.negSucc_eq]; omega)]
    · rfl
  · rfl
def kEq (a b : IntKind) : Bool :=
  match a, b with
  | .i64, .i64 => true
  | .u8, .u8 => true
  | a, b => decide (a = b)
theorem kEq_eq (a b : IntKind) : kEq a b = decide (a = b) := by
  unfold kEq; split <;> rfl

/-! two operands -/
def bInt (f : IntKind → Int → Int → Option GVal) (x y : GVal) : Option GVal :=
  match x, y with
  | .int k a, .int k' b => match kEq k k' with
    | true => f k a b
    | false => none
  | _, _ => none
def fAdd (k : IntKind) (a b : Int) : Option GVal := some (.int k (normX k (a + b)))
def fSub (k : IntKind) (a b : Int) : Option GVal := some (.int k (normX k (subI a b)))
def fEql (k : IntKind) (a b : Int) : Option GVal := some (.bool (eqI a b))
def fNeq (k : IntKind) (a b : Int) : Option GVal := some (.bool (!eqI a b))
def fLss (k : IntKind) (a b : Int) : Option GVal := some (.bool (!leI b a))
def fLeq (k : IntKind) (a b : Int) : Option GVal := some (.bool (leI a b))
def fGtr (k : IntKind) (a b : Int) : Option GVal := some (.bool (!leI a b))
def fGeq (k : IntKind) (a b : Int) : Option GVal := some (.bool (leI b a))
def orX (a b : Option GVal) : Option GVal := match a with
  | some v => some v
  | none => b
def binD (op : BinOp) : Tabs → TypeId → GVal → GVal → Option GVal :=
  match op with
  | .add => fun T t x y => orX (bInt fAdd x y) (binX T .add t x y)
  | .sub => fun T t x y => orX (bInt fSub x y) (binX T .sub t x y)
  | .eql => fun T t x y => orX (bInt fEql x y) (binX T .eql t x y)
  | .neq => fun T t x y => orX (bInt fNeq x y) (binX T .neq t x y)
  | .lss => fun T t x y => orX (bInt fLss x y) (binX T .lss t x y)
  | .leq => fun T t x y => orX (bInt fLeq x y) (binX T .leq t x y)
  | .gtr => fun T t x y => orX (bInt fGtr x y) (binX T .gtr t x y)
  | .geq => fun T t x y => orX (bInt fGeq x y) (binX T .geq t x y)
  | op => fun T t x y => binX T op t x y
theorem bInt_some {f : IntKind → Int → Int → Option GVal} {x y v : GVal} (h : bInt f x y = some v) : ∃ k a b, x = .int k a ∧ y = .int k b ∧ f k a b = some v := by
  unfold bInt at h
  split at h
  · rename_i k a k' b
    split at h
    · rename_i e; rw [kEq_eq, decide_eq_true_iff] at e; subst e; exact ⟨_, _, _, rfl, rfl, h⟩
    · cases h
  · cases h
theorem orX_some {a b : Option GVal} {v : GVal} (h : orX a b = some v) : a = some v ∨ b = some v := by
  unfold orX at h
  split at h
  · exact .inl h
  · exact .inr h
theorem binD_ok {op : BinOp} {t : TypeId} {x y v : GVal} (h : binD op T t x y = some v) : binX T op t x y = some v := by
  unfold binD at h
  split at h <;> first
    | exact h
    | (rcases orX_some h with h | h
       · obtain ⟨k, a, b, rfl, rfl, h9⟩ := bInt_some h
         rw [← h9]
         simp [binX, bne, fAdd, fSub, fEql, fNeq, fLss, fLeq, fGtr, fGeq, normX_eq, subI_eq, eqI_eq, leI_eq, not_le]
       · exact h)

/-! slots -/
noncomputable def nthR (s : List GVal) : Nat → GVal := List.rec (motive := fun _ => Nat → GVal) (fun _ => .any) (fun x _ ih n => Nat.rec (motive := fun _ => GVal) x (fun m _ => ih m) n) s
theorem nthR_eq (s : List GVal) (n : Nat) : nthR s n = sget s n := by
  induction s generalizing n with
  | nil => rfl
  | cons x r ih =>
    cases n with
    | zero => rfl
    | succ m => rw [sget_succ]; exact ih m
noncomputable def evR (st : GSt) (x : Operand) : GVal :=
  match x with
  | .tmp t => nthR st.s t
  | .const v => .ofConst v
  | .global g => .lit (.pointer (some ⟨g, 0, none⟩))
  | .func f => .func (.func f) [] []
theorem evR_eq (st : GSt) (x : Operand) : evR st x = st.ev x := by
  cases x <;> first | rfl | exact nthR_eq _ _
noncomputable def setR {β : Type} (s : List GVal) (d : Nat) (g : GVal) (k : List GVal → β) : β :=
  List.rec (motive := fun _ => Nat → (List GVal → β) → β) (fun _ k => k []) (fun x r ih n k => Nat.rec (motive := fun _ => β) (k (g :: r)) (fun m _ => ih m fun r' => k (x :: r')) n) s d k
theorem setR_eq {β : Type} (s : List GVal) (d : Nat) (g : GVal) (k : List GVal → β) : setR s d g k = k (s.set d g) := by
  induction s generalizing d k with
  | nil => rfl
  | cons x r ih =>
    cases d with
    | zero => rfl
    | succ m => exact ih m fun r' => k (x :: r')

/-! memory -/
noncomputable def nthO {α : Type} (s : List α) : Nat → Option α := List.rec (motive := fun _ => Nat → Option α) (fun _ => none) (fun x _ ih n => Nat.rec (motive := fun _ => Option α) (some x) (fun m _ => ih m) n) s
theorem nthO_eq {α : Type} (s : List α) (n : Nat) : nthO s n = s[n]? := by
  induction s generalizing n with
  | nil => rfl
  | cons x r ih =>
    cases n with
    | zero => rfl
    | succ m => rw [List.getElem?_cons_succ]; exact ih m
noncomputable def dropR {α : Type} (s : List α) : Nat → List α := List.rec (motive := fun _ => Nat → List α) (fun _ => []) (fun x r ih n => Nat.rec (motive := fun _ => List α) (x :: r) (fun m _ => ih m) n) s
theorem dropR_eq {α : Type} (s : List α) (n : Nat) : dropR s n = s.drop n := by
  induction s generalizing n with
  | nil => simp [dropR]
  | cons x r ih =>
    cases n with
    | zero => rfl
    | succ m => rw [List.drop_succ_cons]; exact ih m
noncomputable def takeR {α : Type} (s : List α) : Nat → List α := List.rec (motive := fun _ => Nat → List α) (fun _ => []) (fun x r ih n => Nat.rec (motive := fun _ => List α) [] (fun m _ => x :: ih m) n) s
theorem takeR_eq {α : Type} (s : List α) (n : Nat) : takeR s n = s.take n := by
  induction s generalizing n with
  | nil => simp [takeR]
  | cons x r ih =>
    cases n with
    | zero => rfl
    | succ m => rw [List.take_succ_cons]; exact congrArg (x :: ·) (ih m)
noncomputable def lenR {α : Type} (s : List α) : Nat := List.rec (motive := fun _ => Nat) 0 (fun _ _ ih => Nat.succ ih) s
theorem lenR_eq {α : Type} (s : List α) : lenR s = s.length := by
  induction s with
  | nil => rfl
  | cons x r ih => rw [List.length_cons, ← ih]; rfl
def grpR (ag : Bool) (cs : List GVal) : Option GVal := match ag, cs with
  | true, cs => some (.agg cs)
  | false, [c] => some c
  | _, _ => none
theorem grpR_some {ag : Bool} {cs : List GVal} {v : GVal} (h : grpR ag cs = some v) : v = grp ag cs ∧ (ag = true ∨ cs.length = 1) := by
  unfold grpR at h
  split at h
  · cases h; exact ⟨rfl, .inl rfl⟩
  · cases h; exact ⟨rfl, .inr rfl⟩
  · cases h
/-- n cells from a place on -/
noncomputable def cellsR (ag : Bool) (n : Nat) (cs : List GVal) : Option GVal := match Nat.beq (lenR (takeR cs n)) n, Nat.ble 1 n with
  | true, true => grpR ag (takeR cs n)
  | _, _ => none
theorem cellsR_some {ag : Bool} {n : Nat} {cs : List GVal} {v : GVal} (h : cellsR ag n cs = some v) : n ≤ cs.length ∧ (ag = true ∨ n = 1) ∧ v = grp ag (cs.take n) ∧ 1 ≤ n := by
  unfold cellsR at h
  rw [lenR_eq, takeR_eq] at h
  split at h
  · rename_i e e2
    rw [Nat.beq_eq, List.length_take] at e
    rw [Nat.ble_eq] at e2
    obtain ⟨h1, h2⟩ := grpR_some h
    refine ⟨by omega, ?_, h1, e2⟩
    rcases h2 with h2 | h2
    · exact .inl h2
    · right; rw [List.length_take] at h2; omega
  · cases h
noncomputable def loadRow (n : Nat) (ag : Bool) (st i j : Nat) : GObj → Option GVal
  | .row st' _ xs => match Nat.beq st st', nthO xs i with
    | true, some r => cellsR ag n (dropR r j)
    | _, _ => none
  | _ => none
noncomputable def loadF (n : Nat) (ag : Bool) (O : List GObj) : GVal → Option GVal
  | .ref cs => cellsR ag n cs
  | .ptr o st i j => match nthO O o with
    | some x => loadRow n ag st i j x
    | none => none
  | _ => none
noncomputable def loadY (T : Tabs) (t : TypeId) (g : GVal) (O : List GObj) : Option GVal := match T.tab t with
  | some (n, ag) => loadF n ag O g
  | none => none
theorem loadY_ok {t : TypeId} {g : GVal} {O : List GObj} {v : GVal} (h : loadY T t g O = some v) : loadX T t g O = some v := by
  unfold loadY at h
  unfold loadX
  split at h
  · rename_i n ag ht
    simp only [ht]
    unfold loadF at h
    split at h
    · obtain ⟨h1, h2, rfl, _⟩ := cellsR_some h
      rw [if_pos h2]
      simp only [if_pos h1]
    · rename_i o st i j
      rw [nthO_eq] at h
      split at h
      · rename_i x hx
        unfold loadRow at h
        split at h
        · rename_i st' sz xs
          rw [nthO_eq] at h
          split at h
          · rename_i r e1 e2
            rw [Nat.beq_eq] at e1
            subst e1
            rw [dropR_eq] at h
            obtain ⟨h1, h2, rfl, h3⟩ := cellsR_some h
            rw [if_pos h2]
            have hi := (List.getElem?_eq_some_iff.1 e2).1
            have hg : xs.getD i [] = r := by simp [List.getD, e2]
            simp only [hx, hg]
            rw [List.length_drop] at h1
            rw [if_pos ⟨trivial, hi, by omega⟩]
          · cases h
        · cases h
      · cases h
    · cases h
  · cases h

/-- an element's place -/
noncomputable def idxRow (sz : Nat) (r : Option (List GVal)) : Option GVal := match r with
  | some r => match Nat.beq (lenR r) sz with
    | true => some (.ref r)
    | false => none
  | none => none
noncomputable def idxOwn (o st off m sz : Nat) : Option GObj → Option GVal
  | some (.row st' sz' xs) => match Nat.beq st st', Nat.beq sz sz', nthO xs (off + m) with
    | true, true, some _ => some (.ptr o st (off + m) 0)
    | _, _, _ => none
  | _ => none
noncomputable def idxF (T : Tabs) (t : TypeId) (m : Nat) (O : List GObj) : GVal → Option GVal
  | .slice xs _ => match T.els t with
    | some (sz, _) => idxRow sz (nthO xs m)
    | none => none
  | .own o st off len => match T.els t, Nat.ble (m + 1) len with
    | some (sz, _), true => idxOwn o st off m sz (nthO O o)
    | _, _ => none
  | _ => none
noncomputable def idxY (T : Tabs) (t : TypeId) (g : GVal) (O : List GObj) : GVal → Option GVal
  | .int _ (.ofNat m) => idxF T t m O g
  | _ => none
theorem idxY_ok {t : TypeId} {g i : GVal} {O : List GObj} {v : GVal} (h : idxY T t g O i = some v) : indexAddrX T t g i O = some v := by
  unfold idxY at h
  split at h
  · rename_i k m
    unfold idxF at h
    split at h
    · rename_i xs tag
      split at h
      · rename_i sz ag e
        unfold idxRow at h
        split at h
        · rename_i r hr
          rw [nthO_eq] at hr
          split at h
          · rename_i e2
            rw [Nat.beq_eq, lenR_eq] at e2
            cases h
            have hi := (List.getElem?_eq_some_iff.1 hr).1
            have hg : xs.getD m [] = r := by simp [List.getD, hr]
            simp only [indexAddrX, e, Int.ofNat_eq_natCast, Int.toNat_natCast, hg]
            rw [if_pos ⟨by omega, by omega, e2⟩]
          · cases h
        · cases h
      · cases h
    · rename_i o st off len
      split at h
      · rename_i sz ag e e2
        rw [Nat.ble_eq] at e2
        unfold idxOwn at h
        split at h
        · rename_i st' sz' xs hO
          rw [nthO_eq] at hO
          split at h
          · rename_i x e3 e4 e5
            rw [Nat.beq_eq] at e3 e4
            rw [nthO_eq] at e5
            cases h
            have hi := (List.getElem?_eq_some_iff.1 e5).1
            simp only [indexAddrX, e, hO, Int.ofNat_eq_natCast, Int.toNat_natCast]
            rw [if_pos ⟨e3, e4, by omega, by omega, hi⟩]
          · cases h
        · cases h
      · cases h
    · cases h
  · cases h

/-- written out on the outside alone -/
noncomputable def headG {β : Type} (g : GVal) (k : GVal → β) : β :=
  match g with
  | .int q n => forceI n fun n => k (.int q n)
  | .bool true => k (.bool true)
  | .bool false => k (.bool false)
  | .slice xs t => k (.slice xs t)
  | .own o st i len => k (.own o st i len)
  | .ptr o st i j => k (.ptr o st i j)
  | .agg cs => k (.agg cs)
  | .tuple cs => k (.tuple cs)
  | .ref cs => k (.ref cs)
  | .str s => k (.str s)
  | .any => k .any
  | .lit v => k (.lit v)
  | .map o st => k (.map o st)
  | .func f a b => k (.func f a b)
  | .iface t v => k (.iface t v)
  | g => k g
theorem headG_eq {β : Type} (g : GVal) (k : GVal → β) : headG g k = k g := by
  unfold headG
  split <;> simp only [forceI_eq]
noncomputable def forceR (r : Option (GVal × List GObj)) : Option (GVal × List GObj) := match r with
  | some (g, O') => forceG g fun g => some (g, O')
  | none => none
theorem forceR_eq (r : Option (GVal × List GObj)) : forceR r = r := by
  unfold forceR
  split
  · rw [forceG_eq]
  · rfl

/-! one operation -/
abbrev OpF := Tabs → CallX → List Nat → GSt → Option Nat → Option (GVal × List GObj)
noncomputable def oMove (x : Operand) : OpF := fun _ _ _ st _ => some (evR st x, st.o)
def pickX (a b : GVal) (O : List GObj) (c : GVal) : Option (GVal × List GObj) := match c with
  | .bool true => some (a, O)
  | .bool false => some (b, O)
  | _ => none
noncomputable def oPick (c a b : Operand) : OpF := fun _ _ _ st _ => pickX (evR st a) (evR st b) st.o (evR st c)
noncomputable def oBin (op : BinOp) (t : TypeId) (x y : Operand) : OpF := fun T _ _ st _ => withO st.o (binD op T t (evR st x) (evR st y))
noncomputable def oUn (op : UnOp) (x : Operand) : OpF := fun _ _ _ st _ => withO st.o (unX op (evR st x))
noncomputable def oConv (s d : TypeId) (x : Operand) : OpF := fun T _ _ st _ => withO st.o (convX T s d (evR st x))
noncomputable def oLoad (t : TypeId) (x : Operand) : OpF := fun T _ _ st _ => forceR (withO st.o (orX (loadY T t (evR st x) st.o) (loadX T t (evR st x) st.o)))
def anyO (x : Option (List GObj)) : Option (GVal × List GObj) := match x with
  | some O' => some (.any, O')
  | none => none
noncomputable def oStore (t : TypeId) (x y : Operand) : OpF := fun T _ _ st _ => anyO (storeX T t (evR st x) (evR st y) st.o)
noncomputable def oFieldAddr (s : TypeId) (x : Operand) (f : Nat) : OpF := fun T _ _ st _ => withO st.o (fieldAddrX T s (evR st x) f)
noncomputable def oField (s : TypeId) (x : Operand) (f : Nat) : OpF := fun T _ _ st _ => withO st.o (fieldX T s (evR st x) f)
noncomputable def oIndexAddr (t : TypeId) (x i : Operand) : OpF := fun T _ _ st _ => withO st.o (orX (idxY T t (evR st x) st.o (evR st i)) (indexAddrX T t (evR st x) (evR st i) st.o))
noncomputable def oIndex (t : TypeId) (x i : Operand) : OpF := fun T _ _ st _ => withO st.o (indexX T t (evR st x) (evR st i))
noncomputable def oExtract (x : Operand) (i : Nat) : OpF := fun _ _ _ st _ => withO st.o (extractX (evR st x) i)
noncomputable def oLookup (t : TypeId) (x y : Operand) (ok : Bool) : OpF := fun T _ _ st _ => withO st.o (lookupX T t (evR st x) (evR st y) ok st.o)
noncomputable def oCall (c : Call) : OpF := fun T call R st d => forceR (callX T call (match d with | some d => R.contains d | none => false) st c)
noncomputable def oRest (o : Op) : OpF := fun T call R st d => forceR (opx T call R st ⟨d, o, 0, default, #[], none⟩)
noncomputable def opxD (o : Op) : OpF :=
  match o with
  | .move x => oMove x
  | .assign x => oMove x
  | .pick c a b => oPick c a b
  | .binOp op t x y _ => oBin op t x y
  | .unOp op _ x => oUn op x
  | .convert s d x => oConv s d x
  | .load t x => oLoad t x
  | .store t x y => oStore t x y
  | .fieldAddr s x f => oFieldAddr s x f
  | .field s x f => oField s x f
  | .indexAddr t x i => oIndexAddr t x i
  | .index t x i => oIndex t x i
  | .extract x i => oExtract x i
  | .lookup t x y ok => oLookup t x y ok
  | .call c => oCall c
  | o => oRest o
theorem withO_mono {O : List GObj} {a b : Option GVal} (h : ∀ v, a = some v → b = some v) {p : GVal × List GObj} (hp : withO O a = some p) : withO O b = some p := by
  cases a with
  | none => cases hp
  | some v => rw [h v rfl]; exact hp
theorem opxD_ok {call : CallX} {R : List Nat} {st : GSt} {o : Oper} {p : GVal × List GObj} (h : opxD o.op T call R st o.dst = some p) : opx T call R st o = some p := by
  obtain ⟨dst, op, ty, pos, after, guard⟩ := o
  unfold opxD at h
  simp only at h
  split at h
  · simp only [oMove, evR_eq] at h; exact h
  · simp only [oMove, evR_eq] at h; exact h
  · simp only [oPick, pickX, evR_eq] at h; exact h
  · simp only [oBin, evR_eq] at h; exact withO_mono (fun v hv => binD_ok hv) h
  · simp only [oUn, evR_eq] at h; exact h
  · simp only [oConv, evR_eq] at h; exact h
  · simp only [oLoad, evR_eq, forceR_eq] at h; exact withO_mono (fun v hv => (orX_some hv).elim loadY_ok id) h
  · simp only [oStore, anyO, evR_eq] at h; exact h
  · simp only [oFieldAddr, evR_eq] at h; exact h
  · simp only [oField, evR_eq] at h; exact h
  · simp only [oIndexAddr, evR_eq] at h; exact withO_mono (fun v hv => (orX_some hv).elim idxY_ok id) h
  · simp only [oIndex, evR_eq] at h; exact h
  · simp only [oExtract, evR_eq] at h; exact h
  · simp only [oLookup, evR_eq] at h; exact h
  · unfold oCall at h; rw [forceR_eq] at h; exact h
  · unfold oRest at h; rw [forceR_eq] at h
    unfold opx at h ⊢
    exact h

end Gv
/- A call that stands apart, of which a slice is left that may be appended to. -/
set_option linter.unusedVariables false
namespace Gv
open Go

variable {P : Program}

/-- what is known of a slice's spare room behind a call that stood apart -/
structure Spare (E : Env) (X : List GObj) (w : World) (v : Value) (sz : Nat) (ys : List (List GVal)) (l : GLoc) : Prop where
  size : l.size = sz
  block : ∀ b, l.block = some b → InO E X b ∧ ∃ cur el, w.heap[b]? = some (.cells cur el (0, 0)) ∧ cur.size = l.total ∧ ∀ o, l.off ≤ o → (E.frz X w).snap b o = none
  val : VR (E.frz X w) v (.slice ys .none)
  tag : ∀ a len cap, v = .slice a len cap → cap = len ∨ ∃ b off, a = some ⟨b, off, none⟩ ∧ l.block = some b ∧ l.off = off + len * l.size ∧ off + cap * l.size ≤ l.total

theorem GCalls.apartSpare {f : FuncId} {args : List GVal} {g : GVal} {X : List GObj} {sz : Nat} {ys : List (List GVal)} (h : GCalls P f args [.clock 0] (fun g' O' => g' = g ∧ O' = X)) (ha : noStL args = true)
    (hsp : ∀ E w v, HSim E X w → VR E v g → ∃ l, Spare E X w v sz ys l) (hn : noStL2 ys = true) {O : List GObj} {K : GVal → List GObj → Prop}
    (hk : stamp O fun c => K (.slice ys (.tok O.length c)) (tickO O ++ [.tok c sz])) : GCalls P f args O K := by
  refine ⟨h.1, fun E w vs hs0 hv => ?_⟩
  obtain ⟨c, hkc, hc, hnx, hs, hkeep⟩ := hs0.stamp hk
  rw [← tickO_len O] at hkc
  let E0 : Env := ⟨E.snap, fun _ => none⟩
  have hno : ∀ b, ¬ InO E0 [.clock 0] b := fun b ⟨i, x, hx, hb⟩ => by
    cases i with
    | zero => simp at hx; subst hx; cases hb
    | succ i => simp at hx
  have h0 : HSim E0 [.clock 0] w := ⟨⟨0, fun c _ => Nat.zero_le _, fun _ _ => rfl⟩, hs.sealed, hs.one, fun i x hx => by
    cases i with
    | zero => simp at hx; subst hx; trivial
    | succ i => simp at hx, fun i j oi oj b hij hi hj => by
    cases i with
    | zero => simp at hi; subst hi; intro hb; cases hb
    | succ i => simp at hi, hs.glob⟩
  refine (h.2 E0 w vs h0 ⟨hv.1, fun i g hg => (hv.2 i g hg).places (E := E) (E' := E0) (fun _ _ _ e => e) (noStL_at ha hg)⟩).mono ?_
  rintro e w' ⟨v, E', O', g', rfl, h1, h2, h3, rfl, rfl⟩
  obtain ⟨l, hS⟩ := hsp E' w' v h1 h3
  obtain ⟨hf, hfk⟩ := h1.frz
  have hold : ∀ b, b < w.heap.size → w'.heap[b]? = w.heap[b]? := fun b hb => h2.heap b hb (hno b)
  have hnew : ∀ b, InO E' O' b → w.heap.size ≤ b := fun b hb => (h2.objs b hb).resolve_left (hno b)
  have hsn : ∀ b o v, (E'.frz O' w').snap b o = some v → E.snap b o = some v ∨ w.heap.size ≤ b := fun b o v hv => by
    rcases hfk.snap b o v hv with q | q | q
    · rcases h2.snap b o v q with q | q | q
      · exact .inl q
      · exact .inr q
      · exact absurd q (hno b)
    · exact .inr (Nat.le_trans h2.size q)
    · exact .inr (hnew b q)
  let E1 : Env := ⟨(E'.frz O' w').snap, fun s => if s = c then some l else E.loc s⟩
  have hle : E.le E1 := ⟨fun b o v hv => hfk.ext.snap b o v (h2.ext.snap b o v hv), fun s l' hl => by
    show (if s = c then some l else E.loc s) = some l'
    rw [if_neg (fun e => by subst e; rw [hc] at hl; cases hl)]; exact hl⟩
  have hself : E1.loc c = some l := by show (if c = c then some l else E.loc c) = some l; rw [if_pos rfl]
  have hreal : ∀ (i : Nat) x, (tickO O)[i]? = some x → Realized E1 w' x := fun i x hx =>
    (hs.real i x hx).keep hle (fun b hb => hold b ((hs.real i x hx).blk_lt hb)) (fun b o v hb hv => (hsn b o v hv).elim id (fun q => by have := (hs.real i x hx).blk_lt hb; omega))
  have hb : ∀ (i : Nat) x, (tickO O)[i]? = some x → x.blk E1 = x.blk E := fun i x hx => GObj.blk_mono hle (hs.real i x hx)
  have htok : (GObj.tok c sz).blk E1 = l.block := by simp [GObj.blk, hself]
  have split : ∀ (i : Nat) x, (tickO O ++ [.tok c sz])[i]? = some x → (tickO O)[i]? = some x ∨ (i = (tickO O).length ∧ x = .tok c sz) := fun i x hx => by
    by_cases hi : i < (tickO O).length
    · rw [List.getElem?_append_left hi] at hx; exact .inl hx
    · rw [List.getElem?_append_right (by omega)] at hx
      have : i - (tickO O).length = 0 := by
        have := (List.getElem?_eq_some_iff.1 hx).1
        simp at this; omega
      rw [this] at hx; simp at hx
      exact .inr ⟨by omega, hx.symm⟩
  have hfin : Fin' E1 (tickO O ++ [.tok c sz]) := by
    obtain ⟨n, q1, q2⟩ := hs.fin
    refine ⟨max n (c + 1), fun c' hc' => ?_, fun s hsm => ?_⟩
    · rw [clockOf_app rfl] at hc'
      have := q1 c' hc'
      have := hnx c' hc'
      omega
    · show (if s = c then some l else E.loc s) = none
      rw [if_neg (by omega)]; exact q2 s (by omega)
  refine ⟨v, E1, tickO O ++ [.tok c sz], .slice ys (.tok (tickO O).length c), rfl, ⟨hfin, hf.sealed, hf.one, fun i x hx => ?_, fun i j oi oj b hij hi hj hbi hbj => ?_, hf.glob⟩,
    hkeep.trans ⟨hle, h2.os, h2.out, h2.size, fun b hb _ => hold b hb, fun b o v hv => (hsn b o v hv).elim .inl (fun q => .inr (.inl q)), fun b ⟨i, x, hx, hbx⟩ => ?_, trivial⟩, ?_, hkc⟩
  · rcases split i x hx with h4 | ⟨_, rfl⟩
    · exact hreal i x h4
    · refine ⟨l, hself, hS.size, ?_⟩
      cases hlb : l.block with
      | none => trivial
      | some b => exact (hS.block b hlb).2
  · rcases split i oi hi with h4 | ⟨e4, rfl⟩
    · rw [hb i oi h4] at hbi
      have hlt := (hs.real i oi h4).blk_lt hbi
      rcases split j oj hj with h5 | ⟨_, rfl⟩
      · rw [hb j oj h5] at hbj
        exact hs.sep i j oi oj b hij h4 h5 hbi hbj
      · rw [htok] at hbj
        have := hnew b (hS.block b hbj).1
        omega
    · rw [htok] at hbi
      have := hnew b (hS.block b hbi).1
      rcases split j oj hj with h5 | ⟨e5, rfl⟩
      · rw [hb j oj h5] at hbj
        have := (hs.real j oj h5).blk_lt hbj
        omega
      · omega
  · rcases split i x hx with h4 | ⟨_, rfl⟩
    · exact .inl ⟨i, x, h4, by rw [← hb i x h4]; exact hbx⟩
    · rw [htok] at hbx
      exact .inr (hnew b (hS.block b hbx).1)
  · have hp : VR E1 v (.slice ys .none) := VR.places (E := E'.frz O' w') (E' := E1) (fun _ _ _ e => e) hS.val (by rw [GVal.noSt, hn]; rfl)
    have htg := hS.tag
    cases hp with
    | slice a len cap xs tag sz' cc hlen hcap hsz ha' hcc ht =>
      exact .slice a len cap ys _ sz' cc hlen hcap hsz ha' hcc ⟨l, hself, htg a len cap rfl⟩

theorem spareOwn {X : List GObj} {o st off len sz n : Nat} {xs ys : List (List GVal)} (hX : X[o]? = some (.row st sz xs)) (hl : off + len = xs.length) (hys : frzLL (frz X n) ((xs.drop off).take len) = some ys) :
    ∀ E w v, HSim E X w → VR E v (.own o st off len) → ∃ l, Spare E X w v sz ys l := by
  intro E w v h hv
  have hv2 : VR (E.frz X w) v (.slice ys .none) := frz_sound h (n + 1) v _ _ hv (by unfold frz; simp only [hX]; rw [if_pos ⟨by trivial, by omega⟩, hys])
  cases hv with
  | own a len cap o st i l hll hcap ha =>
    obtain ⟨l', hl', hsz', hsz, hr⟩ := h.real _ _ hX
    rw [hll] at hl'; cases hl'
    refine ⟨{ l with off := l.off + xs.length * sz }, hsz', fun b hb => ?_, hv2, fun a' len' cap' e => ?_⟩
    · have hb' : l.block = some b := hb
      rw [hb'] at hr
      obtain ⟨cur, el, hw, h1, h2, h3, h4⟩ := hr
      refine ⟨⟨o, _, hX, by simp [GObj.blk, hll, hb']⟩, cur, el, hw, h1, fun p hp => ?_⟩
      have hp' : l.off + xs.length * sz ≤ p := hp
      simp only [Env.frz, h4]
      split
      · rename_i hin
        obtain ⟨i', st', sz', xs', l', hO, hl', hb2, q1, q2⟩ := hin
        by_cases hio : i' = o
        · subst hio
          rw [hX] at hO; cases hO
          rw [hll] at hl'; cases hl'
          omega
        · exact absurd (by simp [GObj.blk, hll, hb']) (h.sep i' o _ _ b hio hO hX (by simp [GObj.blk, hl', hb2]))
      · rfl
    · cases e
      rcases ha with h0 | ⟨b, hb, rfl, hle⟩
      · left; omega
      · right
        refine ⟨b, _, rfl, hb, ?_, ?_⟩
        · show l.off + xs.length * sz = l.off + off * l.size + len * l.size
          rw [← hl, hsz', Nat.add_mul]; omega
        · exact hle

theorem spareTok {X : List GObj} {o st sz n : Nat} {xs ys : List (List GVal)} (hX : X[o]? = some (.tok st sz)) (hys : frzLL (frz X n) xs = some ys) :
    ∀ E w v, HSim E X w → VR E v (.slice xs (.tok o st)) → ∃ l, Spare E X w v sz ys l := by
  intro E w v h hv
  have hv2 : VR (E.frz X w) v (.slice ys .none) := frz_sound h (n + 1) v _ _ hv (by unfold frz; simp only [hys]; rfl)
  cases hv with
  | slice a len cap xs tag sz2 c hlen hcap hsz ha hc ht =>
    obtain ⟨l, hll, htag⟩ := ht
    obtain ⟨l', hl', hsz', hr⟩ := h.real _ _ hX
    rw [hll] at hl'; cases hl'
    refine ⟨l, hsz', fun b hb => ?_, hv2, fun a' len' cap' e => by cases e; exact htag⟩
    rw [hb] at hr
    obtain ⟨cur, el, hw, h1, h4⟩ := hr
    refine ⟨⟨o, _, hX, by simp [GObj.blk, hll, hb]⟩, cur, el, hw, h1, fun p hp => ?_⟩
    simp only [Env.frz, h4 p hp]
    split
    · rename_i hin
      obtain ⟨i', st', sz', xs', l', hO, hl', hb2, q1, q2⟩ := hin
      have hio : i' ≠ o := fun e => by subst e; rw [hX] at hO; cases hO
      exact absurd (by simp [GObj.blk, hll, hb]) (h.sep i' o _ _ b hio hO hX (by simp [GObj.blk, hl', hb2]))
    · rfl

/-- the slice of a call that stood apart: its elements, their size -/
def spareX (X : List GObj) (g : GVal) : Option (List (List GVal) × Nat) :=
  match g with
  | .own o st off len => match X[o]? with
    | some (.row st' sz xs) => if st = st' ∧ off + len = xs.length then (match frzLL (frz X 64) ((xs.drop off).take len) with
      | some ys => some (ys, sz)
      | none => none) else none
    | _ => none
  | .slice xs (.tok o st) => match X[o]? with
    | some (.tok st' sz) => if st = st' then (match frzLL (frz X 64) xs with
      | some ys => some (ys, sz)
      | none => none) else none
    | _ => none
  | _ => none
theorem spareX_ok {X : List GObj} {g : GVal} {ys : List (List GVal)} {sz : Nat} (h : spareX X g = some (ys, sz)) : ∀ E w v, HSim E X w → VR E v g → ∃ l, Spare E X w v sz ys l := by
  unfold spareX at h
  split at h
  · split at h
    · rename_i hX
      split at h
      · rename_i hc
        obtain ⟨rfl, hc⟩ := hc
        split at h
        · rename_i e; cases h; exact spareOwn hX hc e
        · cases h
      · cases h
    · cases h
  · split at h
    · rename_i hX
      split at h
      · rename_i hc
        subst hc
        split at h
        · rename_i e; cases h; exact spareTok hX e
        · cases h
      · cases h
    · cases h
  · cases h

end Gv
