/- Values without memory: what a Go value reads as, for memory that is never written again, and names for the few blocks that are. -/
import Derived.Calls
import Derived.Laws.Sem
import Derived.Laws.Entries
import Derived.Orders
set_option linter.unusedVariables false
namespace Gv
open Go

inductive Tag where
  | none
  | full
  | nil
  | tok (o st : Nat)
  deriving DecidableEq

inductive GVal where
  | any
  | bool (b : Bool)
  | ubool
  | int (k : IntKind) (n : Int)
  | str (s : List UInt8)
  | lit (v : Value)
  | slice (xs : List (List GVal)) (tag : Tag)
  | own (o st off len : Nat)
  | agg (cs : List GVal)
  | tuple (vs : List GVal)
  | ref (cs : List GVal)
  | ptr (o st idx off : Nat)
  | map (o st : Nat)
  | func (fn : Fn) (first caps : List GVal)
  | iface (t : TypeId) (v : GVal)
  | cond (c : Bool) (v : GVal)
  deriving Inhabited

inductive GObj where
  | dead
  | clock (n : Nat)
  | row (st sz : Nat) (xs : List (List GVal))
  | tok (st sz : Nat)
  | map (st : Nat) (kv : List (GVal × GVal))

structure GLoc where
  block : Option Nat
  off : Nat
  size : Nat
  total : Nat

structure Env where
  snap : Nat → Nat → Option Value
  loc : Nat → Option GLoc

structure Env.le (E E' : Env) : Prop where
  snap : ∀ b o v, E.snap b o = some v → E'.snap b o = some v
  loc : ∀ s l, E.loc s = some l → E'.loc s = some l

theorem Env.le.refl (E : Env) : E.le E := ⟨fun _ _ _ h => h, fun _ _ h => h⟩
theorem Env.le.trans {E F G : Env} (h : E.le F) (k : F.le G) : E.le G := ⟨fun _ _ _ x => k.snap _ _ _ (h.snap _ _ _ x), fun _ _ x => k.loc _ _ (h.loc _ _ x)⟩

/-- what a slice's capacity is known to be -/
def TagOK (E : Env) (a : Option Addr) (len cap : Nat) : Tag → Prop
  | .none => True
  | .full => cap = len
  | .nil => a = Option.none ∧ cap = 0
  | .tok _ st => ∃ l, E.loc st = some l ∧ (cap = len ∨ ∃ b off, a = some ⟨b, off, Option.none⟩ ∧ l.block = some b ∧ l.off = off + len * l.size ∧ off + cap * l.size ≤ l.total)

theorem TagOK.mono {E E' : Env} (h : E.le E') {a : Option Addr} {len cap : Nat} {t : Tag} (k : TagOK E a len cap t) : TagOK E' a len cap t := by
  cases t with
  | none => trivial
  | full => exact k
  | nil => exact k
  | tok o st => obtain ⟨l, hl, r⟩ := k; exact ⟨l, h.loc _ _ hl, r⟩

/-- a nil slice has no spare room -/
def Tag.cap : Tag → Tag
  | .nil => .full
  | t => t
theorem TagOK.cap {E : Env} {a : Option Addr} {len cap : Nat} {t : Tag} (k : TagOK E a len cap t) (h : len ≤ cap) : TagOK E a len cap t.cap := by
  cases t with
  | nil => obtain ⟨_, h2⟩ := k; show cap = len; omega
  | _ => exact k

inductive VR (E : Env) : Value → GVal → Prop where
  | any (v : Value) : VR E v .any
  | bool (b : Bool) : VR E (.bool b) (.bool b)
  | ubool (b : Bool) : VR E (.bool b) .ubool
  | int (k : IntKind) (n : Int) : VR E (.int k n) (.int k n)
  | str (s : List UInt8) : VR E (.string ⟨s.toArray⟩) (.str s)
  | lit (v : Value) : VR E v (.lit v)
  | slice (a : Option Addr) (len cap : Nat) (xs : List (List GVal)) (tag : Tag) (sz : Nat) (c : Nat → Value)
      (hlen : len = xs.length) (hcap : len ≤ cap) (hsz : ∀ x ∈ xs, x.length = sz)
      (ha : xs ≠ [] → ∃ b off, a = some ⟨b, off, none⟩ ∧ ∀ j, j < len * sz → E.snap b (off + j) = some (c j))
      (hc : ∀ j g, xs.flatten[j]? = some g → VR E (c j) g)
      (ht : TagOK E a len cap tag) : VR E (.slice a len cap) (.slice xs tag)
  | own (a : Option Addr) (len cap : Nat) (o st i : Nat) (l : GLoc) (hl : E.loc st = some l) (hcap : len ≤ cap)
      (ha : cap = 0 ∨ ∃ b, l.block = some b ∧ a = some ⟨b, l.off + i * l.size, none⟩ ∧ l.off + i * l.size + cap * l.size ≤ l.total) : VR E (.slice a len cap) (.own o st i len)
  | agg (vs : Array Value) (cs : List GVal) (hs : vs.size = cs.length) (hc : ∀ j g, cs[j]? = some g → VR E (vs.getD j (.tuple #[])) g) : VR E (.agg vs) (.agg cs)
  | tuple (vs : Array Value) (cs : List GVal) (hs : vs.size = cs.length) (hc : ∀ j g, cs[j]? = some g → VR E (vs.getD j (.tuple #[])) g) : VR E (.tuple vs) (.tuple cs)
  | ref (b off : Nat) (cs : List GVal) (c : Nat → Value) (ha : ∀ j, j < cs.length → E.snap b (off + j) = some (c j))
      (hc : ∀ j g, cs[j]? = some g → VR E (c j) g) : VR E (.pointer (some ⟨b, off, none⟩)) (.ref cs)
  | ptr (b off o st i j : Nat) (l : GLoc) (hl : E.loc st = some l) (hb : l.block = some b) (ho : off = l.off + i * l.size + j) :
      VR E (.pointer (some ⟨b, off, none⟩)) (.ptr o st i j)
  | map (r o st : Nat) (l : GLoc) (hl : E.loc st = some l) (hb : l.block = some r) : VR E (.map (some r)) (.map o st)
  | func (fn : Fn) (fs cs : Array Value) (gs ks : List GVal) (hf : fs.size = gs.length) (hk : cs.size = ks.length)
      (hfs : ∀ j g, gs[j]? = some g → VR E (fs.getD j (.tuple #[])) g) (hcs : ∀ j g, ks[j]? = some g → VR E (cs.getD j (.tuple #[])) g) :
      VR E (.func fn fs cs) (.func fn gs ks)
  | iface (t : TypeId) (v : Value) (g : GVal) (h : VR E v g) : VR E (.iface t v) (.iface t g)
  | cond (c : Bool) (v : Value) (g : GVal) (h : c = true → VR E v g) : VR E v (.cond c g)

theorem VR.mono {E E' : Env} (h : E.le E') {v : Value} {g : GVal} (k : VR E v g) : VR E' v g := by
  induction k with
  | any v => exact .any v
  | bool b => exact .bool b
  | ubool b => exact .ubool b
  | int k n => exact .int k n
  | str s => exact .str s
  | lit v => exact .lit v
  | slice a len cap xs tag sz c hlen hcap hsz ha hc ht ih =>
    refine .slice a len cap xs tag sz c hlen hcap hsz (fun hx => ?_) ih (ht.mono h)
    obtain ⟨b, off, e, hs⟩ := ha hx
    exact ⟨b, off, e, fun j hj => h.snap _ _ _ (hs j hj)⟩
  | own a len cap o st i l hl hcap ha => exact .own a len cap o st i l (h.loc _ _ hl) hcap ha
  | agg vs cs hs hc ih => exact .agg vs cs hs ih
  | tuple vs cs hs hc ih => exact .tuple vs cs hs ih
  | ref b off cs c ha hc ih => exact .ref b off cs c (fun j hj => h.snap _ _ _ (ha j hj)) ih
  | ptr b off o st i j l hl hb ho => exact .ptr b off o st i j l (h.loc _ _ hl) hb ho
  | map r o st l hl hb => exact .map r o st l (h.loc _ _ hl) hb
  | func fn fs cs gs ks hf hk hfs hcs ih1 ih2 => exact .func fn fs cs gs ks hf hk ih1 ih2
  | iface t v g hv ih => exact .iface t v g ih
  | cond c v g hv ih => exact .cond c v g ih

/-- the cells of a value -/
def GVal.cells : GVal → List GVal
  | .agg cs => cs
  | g => [g]

def GObj.isClock : GObj → Bool
  | .clock _ => true
  | _ => false

/-- the list's clock, if its first object is one -/
def clockOf : List GObj → Option Nat
  | .clock n :: _ => some n
  | _ => none

/-- no place is kept under a stamp from some number on; where there is a clock: from the clock on -/
def Fin' (E : Env) (O : List GObj) : Prop := ∃ n, (∀ c, clockOf O = some c → n ≤ c) ∧ ∀ s, n ≤ s → E.loc s = none

def GObj.blk (E : Env) : GObj → Option Nat
  | .dead => none
  | .clock _ => none
  | .row st _ _ => (E.loc st).bind (·.block)
  | .tok st _ => (E.loc st).bind (·.block)
  | .map st _ => (E.loc st).bind (·.block)

def RowsAt (E : Env) (l : GLoc) (cur : Array Value) (xs : List (List GVal)) : Prop :=
  ∀ j g, xs.flatten[j]? = some g → ∃ v, cur[l.off + j]? = some v ∧ v.oneCell' = true ∧ VR E v g

def EntryOK (E : Env) (e : MapEntry) (kv : GVal × GVal) : Prop := VR E e.key kv.1 ∧ VR E e.val kv.2

def Realized (E : Env) (w : World) : GObj → Prop
  | .dead => True
  | .clock _ => True
  | .row st sz xs => ∃ l, E.loc st = some l ∧ l.size = sz ∧ (∀ x ∈ xs, x.length = sz) ∧
      match l.block with
      | none => xs = []
      | some b => ∃ cur el, w.heap[b]? = some (.cells cur el (0, 0)) ∧ cur.size = l.total ∧ l.off + xs.length * sz ≤ l.total ∧ RowsAt E l cur xs ∧ ∀ o, E.snap b o = none
  | .tok st sz => ∃ l, E.loc st = some l ∧ l.size = sz ∧
      match l.block with
      | none => True
      | some b => ∃ cur el, w.heap[b]? = some (.cells cur el (0, 0)) ∧ cur.size = l.total ∧ ∀ o, l.off ≤ o → E.snap b o = none
  | .map st kv => ∃ l b es clock, E.loc st = some l ∧ l.block = some b ∧ w.heap[b]? = some (.map es clock) ∧ es.size = kv.length ∧
      (∀ (i : Nat) e p, es[i]? = some e → kv[i]? = some p → EntryOK E e p) ∧ (∀ o, E.snap b o = none)

structure HSim (E : Env) (O : List GObj) (w : World) : Prop where
  fin : Fin' E O
  sealed : ∀ b o v, E.snap b o = some v → w.cell? ⟨b, o, none⟩ = some v
  one : ∀ b o v, E.snap b o = some v → v.oneCell' = true
  real : ∀ (i : Nat) obj, O[i]? = some obj → Realized E w obj
  sep : ∀ (i j : Nat) oi oj b, i ≠ j → O[i]? = some oi → O[j]? = some oj → oi.blk E = some b → oj.blk E ≠ some b

def InO (E : Env) (O : List GObj) (b : Nat) : Prop := ∃ (i : Nat) (obj : GObj), O[i]? = some obj ∧ obj.blk E = some b

structure Keep (E : Env) (O : List GObj) (w : World) (E' : Env) (O' : List GObj) (w' : World) : Prop where
  ext : E.le E'
  os : w'.os = w.os
  out : w'.output = w.output
  size : w.heap.size ≤ w'.heap.size
  heap : ∀ b, b < w.heap.size → ¬ InO E O b → w'.heap[b]? = w.heap[b]?
  snap : ∀ b o v, E'.snap b o = some v → E.snap b o = some v ∨ w.heap.size ≤ b ∨ InO E O b
  objs : ∀ b, InO E' O' b → InO E O b ∨ w.heap.size ≤ b
  frz : True

theorem Keep.refl (E : Env) (O : List GObj) (w : World) : Keep E O w E O w :=
  ⟨.refl E, rfl, rfl, Nat.le_refl _, fun _ _ _ => rfl, fun _ _ _ h => .inl h, fun _ h => .inl h, trivial⟩

theorem Keep.trans {E O w E1 O1 w1 E2 O2 w2} (h : Keep E O w E1 O1 w1) (k : Keep E1 O1 w1 E2 O2 w2) : Keep E O w E2 O2 w2 where
  ext := h.ext.trans k.ext
  os := k.os.trans h.os
  out := k.out.trans h.out
  size := Nat.le_trans h.size k.size
  heap := fun b hb hn => by
    rw [k.heap b (Nat.lt_of_lt_of_le hb h.size) (fun hi => (h.objs b hi).elim hn (fun h' => by omega)), h.heap b hb hn]
  snap := fun b o v hv => by
    rcases k.snap b o v hv with h1 | h1 | h1
    · exact h.snap b o v h1
    · exact .inr (.inl (Nat.le_trans h.size h1))
    · rcases h.objs b h1 with h2 | h2
      · exact .inr (.inr h2)
      · exact .inr (.inl h2)
  objs := fun b hb => by
    rcases k.objs b hb with h1 | h1
    · exact h.objs b h1
    · exact .inr (Nat.le_trans h.size h1)
  frz := trivial

theorem HSim.lt {E O w} (h : HSim E O w) {b o v} (hs : E.snap b o = some v) : b < w.heap.size := by
  have := h.sealed b o v hs
  unfold World.cell? at this
  cases hb : w.heap[b]? with
  | none => simp [hb] at this
  | some x => exact (Array.getElem?_eq_some_iff.1 hb).1

theorem Realized.blk_lt {E w obj} (h : Realized E w obj) {b} (hb : obj.blk E = some b) : b < w.heap.size := by
  cases obj with
  | dead => cases hb
  | clock n => cases hb
  | row st sz xs =>
    obtain ⟨l, hl, _, _, hr⟩ := h
    simp only [GObj.blk, hl, Option.bind_some] at hb
    simp only [hb] at hr
    obtain ⟨cur, el, hw, _⟩ := hr
    exact (Array.getElem?_eq_some_iff.1 hw).1
  | tok st sz =>
    obtain ⟨l, hl, _, hr⟩ := h
    simp only [GObj.blk, hl, Option.bind_some] at hb
    simp only [hb] at hr
    obtain ⟨cur, el, hw, _⟩ := hr
    exact (Array.getElem?_eq_some_iff.1 hw).1
  | map st kv =>
    obtain ⟨l, b', es, clock, hl, hb', hw, _⟩ := h
    simp only [GObj.blk, hl, Option.bind_some] at hb
    rw [hb'] at hb; cases hb
    exact (Array.getElem?_eq_some_iff.1 hw).1

theorem HSim.inO_lt {E O w} (h : HSim E O w) {b} (hb : InO E O b) : b < w.heap.size := by
  obtain ⟨i, obj, ho, hb⟩ := hb
  exact (h.real i obj ho).blk_lt hb

theorem GObj.blk_mono {E E' : Env} (hE : E.le E') {obj : GObj} {w} (h : Realized E w obj) : obj.blk E' = obj.blk E := by
  cases obj with
  | dead => rfl
  | clock n => rfl
  | row st sz xs => obtain ⟨l, hl, _⟩ := h; simp [GObj.blk, hl, hE.loc _ _ hl]
  | tok st sz => obtain ⟨l, hl, _⟩ := h; simp [GObj.blk, hl, hE.loc _ _ hl]
  | map st kv => obtain ⟨l, _, _, _, hl, _⟩ := h; simp [GObj.blk, hl, hE.loc _ _ hl]

/-- an object stays what it is where its block stays and nothing in it is sealed -/
theorem Realized.keep {E E' : Env} {w w' : World} {obj : GObj} (hE : E.le E') (h : Realized E w obj)
    (hw : ∀ b, obj.blk E = some b → w'.heap[b]? = w.heap[b]?) (hs : ∀ b o v, obj.blk E = some b → E'.snap b o = some v → E.snap b o = some v) : Realized E' w' obj := by
  cases obj with
  | dead => trivial
  | clock n => trivial
  | row st sz xs =>
    obtain ⟨l, hl, h1, h2, h3⟩ := h
    refine ⟨l, hE.loc _ _ hl, h1, h2, ?_⟩
    cases hb : l.block with
    | none => simp only [hb] at h3; exact h3
    | some b =>
      simp only [hb] at h3 ⊢
      obtain ⟨cur, el, a1, a2, a3, a4, a5⟩ := h3
      have hbl : (GObj.row st sz xs).blk E = some b := by simp [GObj.blk, hl, hb]
      refine ⟨cur, el, (hw b hbl).trans a1, a2, a3, fun j g hj => ?_, fun o => ?_⟩
      · obtain ⟨v, hv, h1, hr⟩ := a4 j g hj; exact ⟨v, hv, h1, hr.mono hE⟩
      · cases hx : E'.snap b o with
        | none => rfl
        | some v => have := hs b o v hbl hx; rw [a5 o] at this; cases this
  | tok st sz =>
    obtain ⟨l, hl, h1, h3⟩ := h
    refine ⟨l, hE.loc _ _ hl, h1, ?_⟩
    cases hb : l.block with
    | none => trivial
    | some b =>
      simp only [hb] at h3 ⊢
      obtain ⟨cur, el, a1, a2, a5⟩ := h3
      have hbl : (GObj.tok st sz).blk E = some b := by simp [GObj.blk, hl, hb]
      refine ⟨cur, el, (hw b hbl).trans a1, a2, fun o ho => ?_⟩
      cases hx : E'.snap b o with
      | none => rfl
      | some v => have := hs b o v hbl hx; rw [a5 o ho] at this; cases this
  | map st kv =>
    obtain ⟨l, b, es, clock, hl, hb, a1, a2, a3, a5⟩ := h
    have hbl : (GObj.map st kv).blk E = some b := by simp [GObj.blk, hl, hb]
    refine ⟨l, b, es, clock, hE.loc _ _ hl, hb, (hw b hbl).trans a1, a2, fun i e p he hp => ⟨(a3 i e p he hp).1.mono hE, (a3 i e p he hp).2.mono hE⟩, fun o => ?_⟩
    cases hx : E'.snap b o with
    | none => rfl
    | some v => have := hs b o v hbl hx; rw [a5 o] at this; cases this

/-! clocks -/
theorem clockOf_zero {O : List GObj} {c : Nat} : clockOf O = some c ↔ O[0]? = some (.clock c) := by
  cases O with
  | nil => simp [clockOf]
  | cons x r => cases x <;> simp [clockOf]
theorem clockOf_set {O : List GObj} {o : Nat} {obj obj' : GObj} (hO : O[o]? = some obj) (h1 : obj.isClock = false) (h2 : obj'.isClock = false) : clockOf (O.set o obj') = clockOf O := by
  cases O with
  | nil => simp at hO
  | cons x r =>
    cases o with
    | zero => simp at hO; subst hO; cases x <;> cases obj' <;> simp_all [clockOf, GObj.isClock]
    | succ o => cases x <;> simp [clockOf]
theorem clockOf_app {O : List GObj} {obj : GObj} (h2 : obj.isClock = false) : clockOf (O ++ [obj]) = clockOf O := by
  cases O with
  | nil => cases obj <;> simp_all [clockOf, GObj.isClock]
  | cons x r => cases x <;> simp [clockOf]
def tickO : List GObj → List GObj
  | .clock n :: r => .clock (n + 1) :: r
  | l => l
theorem tickO_len (O : List GObj) : (tickO O).length = O.length := by
  cases O with
  | nil => rfl
  | cons x r => cases x <;> rfl
theorem tickO_get {O : List GObj} {o : Nat} {obj : GObj} (h : O[o]? = some obj) (hc : obj.isClock = false) : (tickO O)[o]? = some obj := by
  cases O with
  | nil => simp at h
  | cons x r =>
    cases o with
    | zero => simp at h; subst h; cases x <;> simp_all [tickO, GObj.isClock]
    | succ o => cases x <;> simpa [tickO] using h
theorem tickO_get' {O : List GObj} {o : Nat} {obj : GObj} (h : (tickO O)[o]? = some obj) : O[o]? = some obj ∨ obj.isClock = true := by
  cases O with
  | nil => simp [tickO] at h
  | cons x r =>
    cases o with
    | zero => cases x <;> simp [tickO] at h <;> subst h <;> simp [GObj.isClock]
    | succ o => left; cases x <;> simpa [tickO] using h
/-- the next stamp: the clock's, or any one -/
def stamp (O : List GObj) (K : Nat → Prop) : Prop :=
  match clockOf O with
  | some n => K n
  | none => ∀ st, K st
theorem stamp_mono {O : List GObj} {K K' : Nat → Prop} (hk : ∀ n, K n → K' n) (h : stamp O K) : stamp O K' := by
  unfold stamp at h ⊢
  cases hc : clockOf O with
  | none => rw [hc] at h; exact fun st => hk _ (h st)
  | some n => rw [hc] at h; exact hk _ h
theorem Fin'.of_loc {E E' : Env} {O O' : List GObj} (h : Fin' E O) (hl : E'.loc = E.loc) (hc : clockOf O' = clockOf O) : Fin' E' O' := by
  obtain ⟨n, h1, h2⟩ := h; exact ⟨n, fun c hc' => h1 c (hc ▸ hc'), fun s hs => by rw [hl]; exact h2 s hs⟩

end Gv
