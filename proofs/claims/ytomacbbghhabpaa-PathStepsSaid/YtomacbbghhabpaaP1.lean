/- The package's variables that a statement lists, with what they hold: none. (For a seat whose rows list one, this text is another.) -/
import Derived.Calls
import Derived.Laws.Sem
import Derived.Laws.Entries
import Derived.Orders
import Derived.Laws.Cells
import Derived.Laws.CopyRow
import Derived.Laws.Tables
import Derived.Laws.Append
import GoSem.Builtin.Clear
import Derived.Laws.MakeOwn
set_option linter.unusedVariables false
namespace Gv
open Go
def globs : List (Nat × Nat × Value) := []
inductive Tag where
 | none
 | full
 | nil
 | tok (o st : Nat)
 deriving DecidableEq
inductive GVal where
 | any
 | bool (b : Bool)
 | ubool
 | int (k : IntKind) (n : Int)
 | str (s : List UInt8)
 | lit (v : Value)
 | slice (xs : List (List GVal)) (tag : Tag)
 | own (o st off len : Nat)
 | agg (cs : List GVal)
 | tuple (vs : List GVal)
 | ref (cs : List GVal)
 | ptr (o st idx off : Nat)
 | map (o st : Nat)
 | func (fn : Fn) (first caps : List GVal)
 | iface (t : TypeId) (v : GVal)
 | cond (c : Bool) (v : GVal)
 deriving Inhabited
inductive GObj where
 | dead
 | clock (n : Nat)
 | row (st sz : Nat) (xs : List (List GVal))
 | tok (st sz : Nat)
 | map (st : Nat) (kv : List (GVal × GVal))
structure GLoc where
 block : Option Nat
 off : Nat
 size : Nat
 total : Nat
structure Env where
 snap : Nat → Nat → Option Value
 loc : Nat → Option GLoc
structure Env.le (E E' : Env) : Prop where
 snap : ∀ b o v, E.snap b o = some v → E'.snap b o = some v
 loc : ∀ s l, E.loc s = some l → E'.loc s = some l
theorem Env.le.refl (E : Env) : E.le E := ⟨fun _ _ _ h => h, fun _ _ h => h⟩
theorem Env.le.trans {E F G : Env} (h : E.le F) (k : F.le G) : E.le G := ⟨fun _ _ _ x => k.snap _ _ _ (h.snap _ _ _ x), fun _ _ x => k.loc _ _ (h.loc _ _ x)⟩
def TagOK (E : Env) (a : Option Addr) (len cap : Nat) : Tag → Prop
 | .none => True
 | .full => cap = len
 | .nil => a = Option.none ∧ cap = 0
 | .tok _ st => ∃ l, E.loc st = some l ∧ (cap = len ∨ ∃ b off, a = some ⟨b, off, Option.none⟩ ∧ l.block = some b ∧ l.off = off + len * l.size ∧ off + cap * l.size ≤ l.total)
theorem TagOK.mono {E E' : Env} (h : E.le E') {a : Option Addr} {len cap : Nat} {t : Tag} (k : TagOK E a len cap t) : TagOK E' a len cap t := by
 cases t with
 | none => trivial
 | full => exact k
 | nil => exact k
 | tok o st => obtain ⟨l, hl, r⟩ := k; exact ⟨l, h.loc _ _ hl, r⟩
def Tag.cap : Tag → Tag
 | .nil => .full
 | t => t
theorem TagOK.cap {E : Env} {a : Option Addr} {len cap : Nat} {t : Tag} (k : TagOK E a len cap t) (h : len ≤ cap) : TagOK E a len cap t.cap := by
 cases t with
 | nil => obtain ⟨_, h2⟩ := k; show cap = len; omega
 | _ => exact k
inductive VR (E : Env) : Value → GVal → Prop where
 | any (v : Value) : VR E v .any
 | bool (b : Bool) : VR E (.bool b) (.bool b)
 | ubool (b : Bool) : VR E (.bool b) .ubool
 | int (k : IntKind) (n : Int) : VR E (.int k n) (.int k n)
 | str (s : List UInt8) : VR E (.string ⟨s.toArray⟩) (.str s)
 | lit (v : Value) : VR E v (.lit v)
 | slice (a : Option Addr) (len cap : Nat) (xs : List (List GVal)) (tag : Tag) (sz : Nat) (c : Nat → Value)
  (hlen : len = xs.length) (hcap : len ≤ cap) (hsz : ∀ x ∈ xs, x.length = sz)
  (ha : xs ≠ [] → ∃ b off, a = some ⟨b, off, none⟩ ∧ ∀ j, j < len * sz → E.snap b (off + j) = some (c j))
  (hc : ∀ j g, xs.flatten[j]? = some g → VR E (c j) g)
  (ht : TagOK E a len cap tag) : VR E (.slice a len cap) (.slice xs tag)
 | own (a : Option Addr) (len cap : Nat) (o st i : Nat) (l : GLoc) (hl : E.loc st = some l) (hcap : len ≤ cap)
  (ha : cap = 0 ∨ ∃ b, l.block = some b ∧ a = some ⟨b, l.off + i * l.size, none⟩ ∧ l.off + i * l.size + cap * l.size ≤ l.total) : VR E (.slice a len cap) (.own o st i len)
 | agg (vs : Array Value) (cs : List GVal) (hs : vs.size = cs.length) (hc : ∀ j g, cs[j]? = some g → VR E (vs.getD j (.tuple #[])) g) : VR E (.agg vs) (.agg cs)
 | tuple (vs : Array Value) (cs : List GVal) (hs : vs.size = cs.length) (hc : ∀ j g, cs[j]? = some g → VR E (vs.getD j (.tuple #[])) g) : VR E (.tuple vs) (.tuple cs)
 | ref (b off : Nat) (cs : List GVal) (c : Nat → Value) (ha : ∀ j, j < cs.length → E.snap b (off + j) = some (c j))
  (hc : ∀ j g, cs[j]? = some g → VR E (c j) g) : VR E (.pointer (some ⟨b, off, none⟩)) (.ref cs)
 | ptr (b off o st i j : Nat) (l : GLoc) (hl : E.loc st = some l) (hb : l.block = some b) (ho : off = l.off + i * l.size + j) :
  VR E (.pointer (some ⟨b, off, none⟩)) (.ptr o st i j)
 | map (r o st : Nat) (l : GLoc) (hl : E.loc st = some l) (hb : l.block = some r) : VR E (.map (some r)) (.map o st)
 | func (fn : Fn) (fs cs : Array Value) (gs ks : List GVal) (hf : fs.size = gs.length) (hk : cs.size = ks.length)
  (hfs : ∀ j g, gs[j]? = some g → VR E (fs.getD j (.tuple #[])) g) (hcs : ∀ j g, ks[j]? = some g → VR E (cs.getD j (.tuple #[])) g) :
  VR E (.func fn fs cs) (.func fn gs ks)
 | iface (t : TypeId) (v : Value) (g : GVal) (h : VR E v g) : VR E (.iface t v) (.iface t g)
 | cond (c : Bool) (v : Value) (g : GVal) (h : c = true → VR E v g) : VR E v (.cond c g)
theorem VR.mono {E E' : Env} (h : E.le E') {v : Value} {g : GVal} (k : VR E v g) : VR E' v g := by
 induction k with
 | any v => exact .any v
 | bool b => exact .bool b
 | ubool b => exact .ubool b
 | int k n => exact .int k n
 | str s => exact .str s
 | lit v => exact .lit v
 | slice a len cap xs tag sz c hlen hcap hsz ha hc ht ih =>
  refine .slice a len cap xs tag sz c hlen hcap hsz (fun hx => ?_) ih (ht.mono h);obtain ⟨b, off, e, hs⟩ := ha hx;exact ⟨b, off, e, fun j hj => h.snap _ _ _ (hs j hj)⟩
 | own a len cap o st i l hl hcap ha => exact .own a len cap o st i l (h.loc _ _ hl) hcap ha
 | agg vs cs hs hc ih => exact .agg vs cs hs ih
 | tuple vs cs hs hc ih => exact .tuple vs cs hs ih
 | ref b off cs c ha hc ih => exact .ref b off cs c (fun j hj => h.snap _ _ _ (ha j hj)) ih
 | ptr b off o st i j l hl hb ho => exact .ptr b off o st i j l (h.loc _ _ hl) hb ho
 | map r o st l hl hb => exact .map r o st l (h.loc _ _ hl) hb
 | func fn fs cs gs ks hf hk hfs hcs ih1 ih2 => exact .func fn fs cs gs ks hf hk ih1 ih2
 | iface t v g hv ih => exact .iface t v g ih
 | cond c v g hv ih => exact .cond c v g ih
def GVal.cells : GVal → List GVal
 | .agg cs => cs
 | g => [g]
def GObj.isClock : GObj → Bool
 | .clock _ => true
 | _ => false
def clockOf : List GObj → Option Nat
 | .clock n :: _ => some n
 | _ => none
def Fin' (E : Env) (O : List GObj) : Prop := ∃ n, (∀ c, clockOf O = some c → n ≤ c) ∧ ∀ s, n ≤ s → E.loc s = none
def GObj.blk (E : Env) : GObj → Option Nat
 | .dead => none
 | .clock _ => none
 | .row st _ _ => (E.loc st).bind (·.block)
 | .tok st _ => (E.loc st).bind (·.block)
 | .map st _ => (E.loc st).bind (·.block)
def RowsAt (E : Env) (l : GLoc) (cur : Array Value) (xs : List (List GVal)) : Prop :=
 ∀ j g, xs.flatten[j]? = some g → ∃ v, cur[l.off + j]? = some v ∧ v.oneCell' = true ∧ VR E v g
def EntryOK (E : Env) (e : MapEntry) (kv : GVal × GVal) : Prop := VR E e.key kv.1 ∧ VR E e.val kv.2
def BornOK (es : Array MapEntry) (clock : Nat) : Prop := (∀ e ∈ es.toList, e.born < clock) ∧ es.toList.Pairwise (fun x y => x.born ≠ y.born)
def Realized (E : Env) (w : World) : GObj → Prop
 | .dead => True
 | .clock _ => True
 | .row st sz xs => ∃ l, E.loc st = some l ∧ l.size = sz ∧ (∀ x ∈ xs, x.length = sz) ∧
  match l.block with
  | none => xs = []
  | some b => ∃ cur el, w.heap[b]? = some (.cells cur el (0, 0)) ∧ cur.size = l.total ∧ l.off + xs.length * sz ≤ l.total ∧ RowsAt E l cur xs ∧ ∀ o, E.snap b o = none
 | .tok st sz => ∃ l, E.loc st = some l ∧ l.size = sz ∧
  match l.block with
  | none => True
  | some b => ∃ cur el, w.heap[b]? = some (.cells cur el (0, 0)) ∧ cur.size = l.total ∧ ∀ o, l.off ≤ o → E.snap b o = none
 | .map st kv => ∃ l b es clock, E.loc st = some l ∧ l.block = some b ∧ w.heap[b]? = some (.map es clock) ∧ es.size = kv.length ∧
  (∀ (i : Nat) e p, es[i]? = some e → kv[i]? = some p → EntryOK E e p) ∧ BornOK es clock ∧ (∀ o, E.snap b o = none)
structure HSim (E : Env) (O : List GObj) (w : World) : Prop where
 fin : Fin' E O
 sealed : ∀ b o v, E.snap b o = some v → w.cell? ⟨b, o, none⟩ = some v
 one : ∀ b o v, E.snap b o = some v → v.oneCell' = true
 real : ∀ (i : Nat) obj, O[i]? = some obj → Realized E w obj
 sep : ∀ (i j : Nat) oi oj b, i ≠ j → O[i]? = some oi → O[j]? = some oj → oi.blk E = some b → oj.blk E ≠ some b
 glob : ∀ p ∈ globs, E.snap p.1 p.2.1 = some p.2.2
def InO (E : Env) (O : List GObj) (b : Nat) : Prop := ∃ (i : Nat) (obj : GObj), O[i]? = some obj ∧ obj.blk E = some b
structure Keep (E : Env) (O : List GObj) (w : World) (E' : Env) (O' : List GObj) (w' : World) : Prop where
 ext : E.le E'
 os : w'.os = w.os
 out : w'.output = w.output
 size : w.heap.size ≤ w'.heap.size
 heap : ∀ b, b < w.heap.size → ¬ InO E O b → w'.heap[b]? = w.heap[b]?
 snap : ∀ b o v, E'.snap b o = some v → E.snap b o = some v ∨ w.heap.size ≤ b ∨ InO E O b
 objs : ∀ b, InO E' O' b → InO E O b ∨ w.heap.size ≤ b
 frz : True
theorem HSim.globLe {E E' : Env} {O : List GObj} {w : World} (h : HSim E O w) (hE : E.le E') : ∀ p ∈ globs, E'.snap p.1 p.2.1 = some p.2.2 := fun p hp => hE.snap _ _ _ (h.glob p hp)
theorem Keep.refl (E : Env) (O : List GObj) (w : World) : Keep E O w E O w :=
 ⟨.refl E, rfl, rfl, Nat.le_refl _, fun _ _ _ => rfl, fun _ _ _ h => .inl h, fun _ h => .inl h, trivial⟩
theorem Keep.trans {E O w E1 O1 w1 E2 O2 w2} (h : Keep E O w E1 O1 w1) (k : Keep E1 O1 w1 E2 O2 w2) : Keep E O w E2 O2 w2 where
 ext := h.ext.trans k.ext
 os := k.os.trans h.os
 out := k.out.trans h.out
 size := Nat.le_trans h.size k.size
 heap := fun b hb hn => by
  rw [k.heap b (Nat.lt_of_lt_of_le hb h.size) (fun hi => (h.objs b hi).elim hn (fun h' => by omega)), h.heap b hb hn]
 snap := fun b o v hv => by
  rcases k.snap b o v hv with h1 | h1 | h1
  · exact h.snap b o v h1
  · exact .inr (.inl (Nat.le_trans h.size h1))
  · rcases h.objs b h1 with h2 | h2
    · exact .inr (.inr h2)
    · exact .inr (.inl h2)
 objs := fun b hb => by
  rcases k.objs b hb with h1 | h1
  · exact h.objs b h1
  · exact .inr (Nat.le_trans h.size h1)
 frz := trivial
theorem HSim.lt {E O w} (h : HSim E O w) {b o v} (hs : E.snap b o = some v) : b < w.heap.size := by
 have := h.sealed b o v hs
 unfold World.cell? at this
 cases hb : w.heap[b]? with
 | none => simp [hb] at this
 | some x => exact (Array.getElem?_eq_some_iff.1 hb).1
theorem Realized.blk_lt {E w obj} (h : Realized E w obj) {b} (hb : obj.blk E = some b) : b < w.heap.size := by
 cases obj with
 | dead => cases hb
 | clock n => cases hb
 | row st sz xs =>
  obtain ⟨l, hl, _, _, hr⟩ := h;simp only [GObj.blk, hl, Option.bind_some] at hb;simp only [hb] at hr;obtain ⟨cur, el, hw, _⟩ := hr;exact (Array.getElem?_eq_some_iff.1 hw).1
 | tok st sz =>
  obtain ⟨l, hl, _, hr⟩ := h;simp only [GObj.blk, hl, Option.bind_some] at hb;simp only [hb] at hr;obtain ⟨cur, el, hw, _⟩ := hr;exact (Array.getElem?_eq_some_iff.1 hw).1
 | map st kv =>
  obtain ⟨l, b', es, clock, hl, hb', hw, _⟩ := h;simp only [GObj.blk, hl, Option.bind_some] at hb;rw [hb'] at hb; cases hb;exact (Array.getElem?_eq_some_iff.1 hw).1
theorem GObj.blk_mono {E E' : Env} (hE : E.le E') {obj : GObj} {w} (h : Realized E w obj) : obj.blk E' = obj.blk E := by
 cases obj with
 | dead => rfl
 | clock n => rfl
 | row st sz xs => obtain ⟨l, hl, _⟩ := h; simp [GObj.blk, hl, hE.loc _ _ hl]
 | tok st sz => obtain ⟨l, hl, _⟩ := h; simp [GObj.blk, hl, hE.loc _ _ hl]
 | map st kv => obtain ⟨l, _, _, _, hl, _⟩ := h; simp [GObj.blk, hl, hE.loc _ _ hl]
theorem Realized.keep {E E' : Env} {w w' : World} {obj : GObj} (hE : E.le E') (h : Realized E w obj)
 (hw : ∀ b, obj.blk E = some b → w'.heap[b]? = w.heap[b]?) (hs : ∀ b o v, obj.blk E = some b → E'.snap b o = some v → E.snap b o = some v) : Realized E' w' obj := by
 cases obj with
 | dead => trivial
 | clock n => trivial
 | row st sz xs =>
  obtain ⟨l, hl, h1, h2, h3⟩ := h;refine ⟨l, hE.loc _ _ hl, h1, h2, ?_⟩;cases hb : l.block with
  | none => simp only [hb] at h3; exact h3
  | some b =>
   simp only [hb] at h3 ⊢;obtain ⟨cur, el, a1, a2, a3, a4, a5⟩ := h3;have hbl : (GObj.row st sz xs).blk E = some b := by simp [GObj.blk, hl, hb]
   refine ⟨cur, el, (hw b hbl).trans a1, a2, a3, fun j g hj => ?_, fun o => ?_⟩
   · obtain ⟨v, hv, h1, hr⟩ := a4 j g hj; exact ⟨v, hv, h1, hr.mono hE⟩
   · cases hx : E'.snap b o with
     | none => rfl
     | some v => have := hs b o v hbl hx; rw [a5 o] at this; cases this
 | tok st sz =>
  obtain ⟨l, hl, h1, h3⟩ := h;refine ⟨l, hE.loc _ _ hl, h1, ?_⟩;cases hb : l.block with
  | none => trivial
  | some b =>
   simp only [hb] at h3 ⊢;obtain ⟨cur, el, a1, a2, a5⟩ := h3;have hbl : (GObj.tok st sz).blk E = some b := by simp [GObj.blk, hl, hb]
   refine ⟨cur, el, (hw b hbl).trans a1, a2, fun o ho => ?_⟩;cases hx : E'.snap b o with
   | none => rfl
   | some v => have := hs b o v hbl hx; rw [a5 o ho] at this; cases this
 | map st kv =>
  obtain ⟨l, b, es, clock, hl, hb, a1, a2, a3, a4, a5⟩ := h;have hbl : (GObj.map st kv).blk E = some b := by simp [GObj.blk, hl, hb]
  refine ⟨l, b, es, clock, hE.loc _ _ hl, hb, (hw b hbl).trans a1, a2, fun i e p he hp => ⟨(a3 i e p he hp).1.mono hE, (a3 i e p he hp).2.mono hE⟩, a4, fun o => ?_⟩;cases hx : E'.snap b o with
  | none => rfl
  | some v => have := hs b o v hbl hx; rw [a5 o] at this; cases this
theorem clockOf_zero {O : List GObj} {c : Nat} : clockOf O = some c ↔ O[0]? = some (.clock c) := by
 cases O with
 | nil => simp [clockOf]
 | cons x r => cases x <;> simp [clockOf]
theorem clockOf_set {O : List GObj} {o : Nat} {obj obj' : GObj} (hO : O[o]? = some obj) (h1 : obj.isClock = false) (h2 : obj'.isClock = false) : clockOf (O.set o obj') = clockOf O := by
 cases O with
 | nil => simp at hO
 | cons x r =>
  cases o with
  | zero => simp at hO; subst hO; cases x <;> cases obj' <;> simp_all [clockOf, GObj.isClock]
  | succ o => cases x <;> simp [clockOf]
theorem clockOf_app {O : List GObj} {obj : GObj} (h2 : obj.isClock = false) : clockOf (O ++ [obj]) = clockOf O := by
 cases O with
 | nil => cases obj <;> simp_all [clockOf, GObj.isClock]
 | cons x r => cases x <;> simp [clockOf]
def tickO : List GObj → List GObj
 | .clock n :: r => .clock (n + 1) :: r
 | l => l
theorem tickO_len (O : List GObj) : (tickO O).length = O.length := by
 cases O with
 | nil => rfl
 | cons x r => cases x <;> rfl
theorem tickO_get {O : List GObj} {o : Nat} {obj : GObj} (h : O[o]? = some obj) (hc : obj.isClock = false) : (tickO O)[o]? = some obj := by
 cases O with
 | nil => simp at h
 | cons x r =>
  cases o with
  | zero => simp at h; subst h; cases x <;> simp_all [tickO, GObj.isClock]
  | succ o => cases x <;> simpa [tickO] using h
theorem tickO_get' {O : List GObj} {o : Nat} {obj : GObj} (h : (tickO O)[o]? = some obj) : O[o]? = some obj ∨ obj.isClock = true := by
 cases O with
 | nil => simp [tickO] at h
 | cons x r =>
  cases o with
  | zero => cases x <;> simp [tickO] at h <;> subst h <;> simp [GObj.isClock]
  | succ o => left; cases x <;> simpa [tickO] using h
def stamp (O : List GObj) (K : Nat → Prop) : Prop :=
 match clockOf O with
 | some n => K n
 | none => ∀ st, K st
theorem stamp_mono {O : List GObj} {K K' : Nat → Prop} (hk : ∀ n, K n → K' n) (h : stamp O K) : stamp O K' := by
 unfold stamp at h ⊢
 cases hc : clockOf O with
 | none => rw [hc] at h; exact fun st => hk _ (h st)
 | some n => rw [hc] at h; exact hk _ h
theorem Fin'.of_loc {E E' : Env} {O O' : List GObj} (h : Fin' E O) (hl : E'.loc = E.loc) (hc : clockOf O' = clockOf O) : Fin' E' O' := by
 obtain ⟨n, h1, h2⟩ := h; exact ⟨n, fun c hc' => h1 c (hc ▸ hc'), fun s hs => by rw [hl]; exact h2 s hs⟩
theorem ai {a b : Prop} (x : a) (y : b) : a ∧ b := ⟨x, y⟩
def SOK (P : Program) (s : Sem Value) (E : Env) (O : List GObj) (w : World) (K : GVal → List GObj → Prop) : Prop :=
 ∃ v w' E' O' g, s.run P w = .ok v w' ∧ HSim E' O' w' ∧ Keep E O w E' O' w' ∧ VR E' v g ∧ K g O'
section
variable {P : Program} {E : Env} {O : List GObj} {w : World} {K : GVal → List GObj → Prop}
theorem SOK.same {s : Sem Value} {v : Value} {g : GVal} (hs : s.run P w = .ok v w) (h : HSim E O w) (hv : VR E v g) (hk : K g O) : SOK P s E O w K :=
 ⟨v, w, E, O, g, hs, h, .refl E O w, hv, hk⟩
def tab (P : Program) (t : TypeId) : Option (Nat × Bool) :=
 match P.info? t, P.underlying t with
 | some i, some (.struct _) => some (i.size, true)
 | some i, some (.array _ _) => some (i.size, true)
 | some i, some _ => some (i.size, false)
 | _, _ => none
theorem tab_spec {t : TypeId} {n : Nat} {ag : Bool} (h : tab P t = some (n, ag)) (w : World) :
 (Go.sizeOf t).run P w = .ok n w ∧ (isAgg t).run P w = .ok ag w := by
 unfold tab at h
 cases hi : P.info? t with
 | none => simp [hi] at h
 | some i =>
  cases hu : P.underlying t with
  | none => simp [hi, hu] at h
  | some d =>
   have e : i.size = n := by cases d <;> simp [hi, hu] at h <;> exact h.1
   constructor
   · simp [Go.sizeOf, typeInfo, hi, e]
   · cases d <;> simp [hi, hu] at h <;> simp [isAgg, run_underlying hu, h.2]
def fld (P : Program) (s : TypeId) (f : Nat) : Option (Nat × Nat × Bool) :=
 match P.underlying s with
 | some (.struct fs) => match fs[f]? with
  | some x => match tab P x.type with
   | some (n, ag) => if n = 0 then none else some (x.offset, n, ag)
   | none => none
  | none => none
 | _ => none
theorem fld_spec {s : TypeId} {f off n : Nat} {ag : Bool} (h : fld P s f = some (off, n, ag)) :
 ∃ fs x, P.underlying s = some (.struct fs) ∧ fs[f]? = some x ∧ x.offset = off ∧ tab P x.type = some (n, ag) ∧ n ≠ 0 := by
 unfold fld at h
 split at h
 · rename_i fs hu;split at h
   · rename_i x hx;split at h
     · rename_i n' ag' ht;split at h
       · cases h
       · rename_i hn;cases h;exact ⟨fs, x, hu, hx, rfl, ht, hn⟩
     · cases h
   · cases h
 · cases h
def els (P : Program) (t : TypeId) : Option (Nat × Bool) :=
 match P.underlying t with
 | some (.slice e) => tab P e
 | _ => none
theorem els_spec {t : TypeId} {n : Nat} {ag : Bool} (h : els P t = some (n, ag)) : ∃ e, P.underlying t = some (.slice e) ∧ tab P e = some (n, ag) := by
 unfold els at h
 split at h
 · rename_i e hu; exact ⟨e, hu, h⟩
 · cases h
def arr (P : Program) (t : TypeId) : Option (Nat × Nat × Bool) :=
 match P.underlying t with
 | some (.array len e) => match tab P e with
  | some (n, ag) => some (len, n, ag)
  | none => none
 | _ => none
theorem arr_spec {t : TypeId} {len n : Nat} {ag : Bool} (h : arr P t = some (len, n, ag)) : ∃ e, P.underlying t = some (.array len e) ∧ tab P e = some (n, ag) := by
 unfold arr at h
 split at h
 · rename_i l e hu;split at h
   · rename_i n' ag' ht; cases h; exact ⟨e, hu, ht⟩
   · cases h
 · cases h
def grp (ag : Bool) (cs : List GVal) : GVal := match ag with
 | true => .agg cs
 | false => cs.headD .any
theorem add_at (b off n : Nat) : (⟨b, off, none⟩ : Addr).add n = ⟨b, off + n, none⟩ := by
 unfold Addr.add; split <;> simp_all
theorem load_run {t : TypeId} {n : Nat} {ag : Bool} (ht : tab P t = some (n, ag)) (hn : ag = false → n = 1) {b off : Nat} {cs : List GVal} (c : Nat → Value)
 (hl : n ≤ cs.length) (hcell : ∀ j, j < n → w.cell? ⟨b, off + j, none⟩ = some (c j)) (hc : ∀ j g, cs[j]? = some g → j < n → VR E (c j) g) :
 ∃ v, (Instr.loadAt t (.pointer (some ⟨b, off, none⟩))).run P w = .ok v w ∧ VR E v (grp ag (cs.take n)) := by
 obtain ⟨h1, h2⟩ := tab_spec ht w
 cases ag with
 | true =>
  refine ⟨.agg ((List.range n).map c).toArray, ?_, .agg _ _ ?_ ?_⟩
  · simp only [Instr.loadAt, Instr.sureAddr, loadVar, Sem.run_bind, Sem.run_pure, Result.andThen_ok, h2, h1, if_true];rw [run_loadCells w _ n c (fun j hj => by rw [add_at]; exact hcell j hj)];simp
  · simp; omega
  · intro j g hj;rw [List.getElem?_take] at hj;split at hj
    · rename_i hjn;have := hc j g hj hjn
      simpa [Array.getD, hjn] using this
    · cases hj
 | false =>
  have hn1 := hn rfl;subst hn1;refine ⟨c 0, ?_, ?_⟩
  · simp only [Instr.loadAt, Instr.sureAddr, loadVar, Sem.run_bind, Sem.run_pure, Result.andThen_ok, h2];have := hcell 0 (by omega);simp only [Nat.add_zero] at this;simp [this]
  · cases cs with
    | nil => simp at hl
    | cons x r => exact hc 0 x rfl (by omega)
def loadV (P : Program) (t : TypeId) (g : GVal) (O : List GObj) (K : GVal → Prop) : Prop :=
 match tab P t with
 | some (n, ag) => (ag = false → n = 1) ∧ match g with
  | .ref cs => n ≤ cs.length ∧ K (grp ag (cs.take n))
  | .ptr o st i j => match O[o]? with
   | some (.row st' _ xs) => st = st' ∧ i < xs.length ∧ j + n ≤ (xs.getD i []).length ∧ K (grp ag (((xs.getD i []).drop j).take n))
   | _ => False
  | _ => False
 | none => False
theorem flatten_at {α : Type} {sz : Nat} : ∀ (xs : List (List α)), (∀ x ∈ xs, x.length = sz) → ∀ (i j : Nat) (x : List α), xs[i]? = some x → j < sz → xs.flatten[i * sz + j]? = x[j]?
 | [], _, i, j, x, h, _ => by simp at h
 | y :: r, hs, i, j, x, h, hj => by
  have hy : y.length = sz := hs y (by simp);cases i with
  | zero =>
   simp at h; subst h;simp only [List.flatten_cons, Nat.zero_mul, Nat.zero_add];rw [List.getElem?_append_left (by omega)]
  | succ i =>
   simp only [List.getElem?_cons_succ] at h;have e : (i + 1) * sz + j = y.length + (i * sz + j) := by rw [hy, Nat.succ_mul]; omega
   simp only [List.flatten_cons];rw [e, List.getElem?_append_right (by omega), Nat.add_sub_cancel_left];exact flatten_at r (fun x hx => hs x (by simp [hx])) i j x h hj
theorem flatten_len {α : Type} {sz : Nat} : ∀ (xs : List (List α)), (∀ x ∈ xs, x.length = sz) → xs.flatten.length = xs.length * sz
 | [], _ => by simp
 | y :: r, h => by
  have := flatten_len r (fun x hx => h x (by simp [hx]));simp only [List.flatten_cons, List.length_append, List.length_cons, this, h y (by simp), Nat.succ_mul]; omega
theorem getD_of {α : Type} {xs : List α} {i : Nat} {d : α} (h : i < xs.length) : xs[i]? = some (xs.getD i d) := by
 simp [List.getD, List.getElem?_eq_getElem h]
theorem mem_getD {α : Type} {xs : List α} {i : Nat} {d : α} (h : i < xs.length) : xs.getD i d ∈ xs :=
 List.mem_of_getElem? (getD_of h)
theorem row_cell {l : GLoc} {cur : Array Value} {xs : List (List GVal)} {sz : Nat} (hr : RowsAt E l cur xs) (hsz : ∀ x ∈ xs, x.length = sz) {i j : Nat} (hi : i < xs.length)
 {g : GVal} (hj : (xs.getD i [])[j]? = some g) : ∃ v, cur[l.off + (i * sz + j)]? = some v ∧ v.oneCell' = true ∧ VR E v g := by
 have hx : (xs.getD i []).length = sz := hsz _ (mem_getD hi)
 have hjs : j < sz := by rw [← hx]; exact (List.getElem?_eq_some_iff.1 hj).1
 exact hr (i * sz + j) g (by rw [flatten_at xs hsz i j _ (getD_of hi) hjs]; exact hj)
theorem load_val {t : TypeId} {r : Value} {g : GVal} {K : GVal → Prop} (h : HSim E O w) (hr : VR E r g) (hk : loadV P t g O K) :
 ∃ v g', (Instr.loadAt t r).run P w = .ok v w ∧ VR E v g' ∧ K g' := by
 unfold loadV at hk
 cases ht : tab P t with
 | none => simp [ht] at hk
 | some p =>
  obtain ⟨n, ag⟩ := p;simp only [ht] at hk;obtain ⟨hn, hk⟩ := hk;cases hr with
  | ref b off cs c ha hc =>
   simp only at hk
   obtain ⟨hl, hk⟩ := hk;obtain ⟨v, hrun, hv⟩ := load_run (P := P) (w := w) (E := E) ht hn (b := b) (off := off) (cs := cs) c hl (fun j hj => h.sealed _ _ _ (ha j (by omega))) (fun j g hj _ => hc j g hj);exact ⟨_, _, hrun, hv, hk⟩
  | ptr b off o st i j l hl hb ho =>
   simp only at hk
   split at hk
   · rename_i st' sz xs hO;obtain ⟨rfl, hi, hjn, hk⟩ := hk;obtain ⟨l', hl', hls, hsz, hreal⟩ := h.real _ _ hO;rw [hl] at hl'; cases hl';simp only [hb] at hreal;obtain ⟨cur, el, hw, hcs, htot, hrows, hseal⟩ := hreal;have hx : (xs.getD i []).length = sz := hsz _ (mem_getD hi);have key : ∀ k, k < n → ∃ v, cur[l.off + (i * sz + (j + k))]? = some v ∧ ∀ g, (xs.getD i [])[j + k]? = some g → VR E v g := by
      intro k hk;have hlt : j + k < (xs.getD i []).length := by omega
      obtain ⟨v, hv, _, hr⟩ := row_cell hrows hsz hi (getD_of (d := GVal.any) hlt);refine ⟨v, hv, fun g hg => ?_⟩;rw [getD_of (d := GVal.any) hlt] at hg; cases hg; exact hr
     have hcell : ∀ k, k < n → w.cell? ⟨b, off + k, none⟩ = some (cur.getD (l.off + (i * sz + (j + k))) undef) := by
      intro k hk;obtain ⟨v, hv, _⟩ := key k hk;have e : off + k = l.off + (i * sz + (j + k)) := by rw [ho, ← hls]; omega
      simp only [World.cell?, hw, Option.isSome_none, Bool.false_eq_true, if_false, e];simp [Array.getD_eq_getD_getElem?, hv]
     obtain ⟨v, hrun, hv⟩ := load_run (P := P) (w := w) (E := E) ht hn (b := b) (off := off) (cs := (xs.getD i []).drop j) (fun k => cur.getD (l.off + (i * sz + (j + k))) undef)
      (by simp only [List.length_drop]; omega) hcell (fun k g hg hkn => by
       rw [List.getElem?_drop] at hg;obtain ⟨v, hv, hr⟩ := key k hkn;have e : cur.getD (l.off + (i * sz + (j + k))) undef = v := by simp [Array.getD_eq_getD_getElem?, hv]
       rw [e];exact hr g hg)
     exact ⟨_, _, hrun, hv, hk⟩
   · exact hk.elim
  | _ => exact hk.elim
theorem load_sound {t : TypeId} {r : Value} {g : GVal} (h : HSim E O w) (hr : VR E r g) (hk : loadV P t g O (fun g => K g O)) :
 SOK P (Instr.loadAt t r) E O w K := by
 obtain ⟨v, g', h1, h2, h3⟩ := load_val h hr hk
 exact .same h1 h h2 h3
def fieldAddrV (P : Program) (s : TypeId) (g : GVal) (f : Nat) (K : GVal → Prop) : Prop :=
 match fld P s f with
 | some (off, _, _) => match g with
  | .ref cs => off ≤ cs.length ∧ K (.ref (cs.drop off))
  | .ptr o st i j => K (.ptr o st i (j + off))
  | _ => False
 | none => False
theorem VR.ref_drop {b off : Nat} {cs : List GVal} (h : VR E (.pointer (some ⟨b, off, none⟩)) (.ref cs)) (n : Nat) (hn : n ≤ cs.length) : VR E (.pointer (some ⟨b, off + n, none⟩)) (.ref (cs.drop n)) := by
 cases h with
 | ref b off cs c ha hc =>
  refine .ref _ _ _ (fun j => c (n + j)) (fun j hj => ?_) (fun j g hj => ?_)
  · simp only [List.length_drop] at hj;rw [Nat.add_assoc]; exact ha (n + j) (by omega)
  · rw [List.getElem?_drop] at hj;exact hc (n + j) g hj
theorem fieldAddr_sound {s : TypeId} {r : Value} {g : GVal} {f : Nat} (h : HSim E O w) (hr : VR E r g) (hk : fieldAddrV P s g f (fun g => K g O)) :
 SOK P (Instr.fieldAt s r f) E O w K := by
 unfold fieldAddrV at hk
 cases hf : fld P s f with
 | none => simp [hf] at hk
 | some p =>
  obtain ⟨off, n, ag⟩ := p;simp only [hf] at hk;obtain ⟨fs, x, hu, hx, rfl, ht, hn⟩ := fld_spec hf;have hrun : ∀ b o, (Instr.fieldAt s (.pointer (some ⟨b, o, none⟩)) f).run P w = .ok (.pointer (some ⟨b, o + x.offset, none⟩)) w := by
   intro b o;simp [Instr.fieldAt, run_underlying hu, hx, Instr.sureAddr, fieldPlace, (tab_spec ht w).1, hn, add_at]
  cases hr with
  | ref b o cs c ha hc =>
   simp only at hk
   exact .same (hrun b o) h (VR.ref_drop (.ref b o cs c ha hc) _ hk.1) hk.2
  | ptr b o oi st i j l hl hb ho =>
   simp only at hk
   exact .same (hrun b o) h (.ptr b _ oi st i _ l hl hb (by rw [ho]; omega)) hk
  | _ => exact hk.elim
def indexAddrV (P : Program) (t : TypeId) (g i : GVal) (O : List GObj) (K : GVal → Prop) : Prop :=
 match i with
 | .int _ n => match g with
  | .slice xs _ => match els P t with
   | some (sz, _) => 0 ≤ n ∧ n < xs.length ∧ (xs.getD n.toNat []).length = sz ∧ K (.ref (xs.getD n.toNat []))
   | none => False
  | .own o st off len => match els P t with
   | some (sz, _) => match O[o]? with
    | some (.row st' sz' xs) => st = st' ∧ sz = sz' ∧ 0 ≤ n ∧ n < len ∧ off + n.toNat < xs.length ∧ K (.ptr o st (off + n.toNat) 0)
    | _ => False
   | none => False
  | .ref cs => match arr P t with
   | some (len, sz, _) => 0 ≤ n ∧ n < len ∧ n.toNat * sz ≤ cs.length ∧ K (.ref (cs.drop (n.toNat * sz)))
   | none => False
  | .ptr o st i j => match arr P t with
   | some (len, sz, _) => 0 ≤ n ∧ n < len ∧ K (.ptr o st i (j + n.toNat * sz))
   | none => False
  | _ => False
 | _ => False
theorem indexAddr_sound {t : TypeId} {r ri : Value} {g i : GVal} (h : HSim E O w) (hr : VR E r g) (hi : VR E ri i) (hk : indexAddrV P t g i O (fun g => K g O)) :
 SOK P (Instr.indexAt t r ri) E O w K := by
 unfold indexAddrV at hk
 cases hi with
 | int k n =>
  simp only at hk
  cases hr with
  | slice a len cap xs tag sz c hlen hcap hsz ha hc htag =>
   simp only at hk
   cases he : els P t with
   | none => simp [he] at hk
   | some p =>
    obtain ⟨sz', ag⟩ := p;simp only [he] at hk;obtain ⟨e, hu, ht⟩ := els_spec he;obtain ⟨h0, h1, h2, hk⟩ := hk;have hlt : n.toNat < xs.length := by omega
    have hszz : sz = sz' := by rw [← h2]; exact (hsz _ (mem_getD hlt)).symm
    subst hszz;obtain ⟨b, off, rfl, hs⟩ := ha (by intro e; simp [e] at hlt);have hrun : (Instr.indexAt t (.slice (some ⟨b, off, none⟩) len cap) (.int k n)).run P w = .ok (.pointer (some ⟨b, off + n.toNat * sz, none⟩)) w := by
     have hlt2 : n < (len : Int) := by omega
     simp [Instr.indexAt, run_underlying hu, asIntOf, h0, hlt2, (tab_spec ht w).1, add_at]
    refine .same hrun h (.ref b _ _ (fun j => c (n.toNat * sz + j)) (fun j hj => ?_) (fun j g hj => ?_)) hk
    · rw [Nat.add_assoc];refine hs _ ?_;rw [h2] at hj;have : (n.toNat + 1) * sz ≤ len * sz := Nat.mul_le_mul_right _ (by omega);rw [Nat.succ_mul] at this; omega
    · have hj2 : j < sz := by rw [← h2]; exact (List.getElem?_eq_some_iff.1 hj).1
      exact hc _ g (by rw [flatten_at xs hsz n.toNat j _ (getD_of hlt) hj2]; exact hj)
  | own a len cap o st i l hl hcap ha =>
   simp only at hk
   cases he : els P t with
   | none => simp [he] at hk
   | some p =>
    obtain ⟨sz', ag⟩ := p;simp only [he] at hk;obtain ⟨e, hu, ht⟩ := els_spec he;split at hk
    · rename_i st' sz xs hO;obtain ⟨rfl, rfl, h0, h1, h2, hk⟩ := hk;obtain ⟨l', hl', hls, hsz, hreal⟩ := h.real _ _ hO;rw [hl] at hl'; cases hl';rcases ha with hc0 | ⟨b, hb, rfl, _⟩
      · omega
      · have hrun : (Instr.indexAt t (.slice (some ⟨b, l.off + i * l.size, none⟩) len cap) (.int k n)).run P w = .ok (.pointer (some ⟨b, l.off + i * l.size + n.toNat * sz', none⟩)) w := by
         have hlt2 : n < (len : Int) := by omega
         simp [Instr.indexAt, run_underlying hu, asIntOf, h0, hlt2, (tab_spec ht w).1, add_at]
        refine .same hrun h (.ptr b _ o st _ 0 l hl hb ?_) hk;rw [hls, Nat.add_mul]; omega
    · exact hk.elim
  | ref b off cs c ha hc =>
   simp only at hk
   cases he : arr P t with
   | none => simp [he] at hk
   | some p =>
    obtain ⟨len, sz, ag⟩ := p;simp only [he] at hk;obtain ⟨e, hu, ht⟩ := arr_spec he;obtain ⟨h0, h1, h2, hk⟩ := hk;have hrun : (Instr.indexAt t (.pointer (some ⟨b, off, none⟩)) (.int k n)).run P w = .ok (.pointer (some ⟨b, off + n.toNat * sz, none⟩)) w := by
     simp [Instr.indexAt, run_underlying hu, asIntOf, h0, h1, (tab_spec ht w).1, add_at, Instr.sureAddr]
    exact .same hrun h (VR.ref_drop (.ref b off cs c ha hc) _ h2) hk
  | ptr b off o st i j l hl hb ho =>
   simp only at hk
   cases he : arr P t with
   | none => simp [he] at hk
   | some p =>
    obtain ⟨len, sz, ag⟩ := p;simp only [he] at hk;obtain ⟨e, hu, ht⟩ := arr_spec he;obtain ⟨h0, h1, hk⟩ := hk;have hrun : (Instr.indexAt t (.pointer (some ⟨b, off, none⟩)) (.int k n)).run P w = .ok (.pointer (some ⟨b, off + n.toNat * sz, none⟩)) w := by
     simp [Instr.indexAt, run_underlying hu, asIntOf, h0, h1, (tab_spec ht w).1, add_at, Instr.sureAddr]
    exact .same hrun h (.ptr b _ o st i _ l hl hb (by rw [ho]; omega)) hk
  | _ => exact hk.elim
 | _ => exact hk.elim
theorem part_run {t : TypeId} {n : Nat} {ag : Bool} (ht : tab P t = some (n, ag)) (hn : ag = false → n = 1) {vs : Array Value} {cs : List GVal} (hr : VR E (.agg vs) (.agg cs)) {off : Nat}
 (hl : off + n ≤ cs.length) : ∃ v, (part t vs off).run P w = .ok v w ∧ VR E v (grp ag ((cs.drop off).take n)) := by
 cases hr with
 | agg vs cs hs hc =>
  obtain ⟨h1, h2⟩ := tab_spec ht w;cases ag with
  | true =>
   refine ⟨.agg (vs.extract off (off + n)), by simp [part, h2, h1], .agg _ _ (by simp; omega) (fun j g hj => ?_)⟩;rw [List.getElem?_take] at hj;split at hj
   · rename_i hjn;rw [List.getElem?_drop] at hj;have := hc _ g hj;have e : (vs.extract off (off + n)).getD j (.tuple #[]) = vs.getD (off + j) (.tuple #[]) := by
      simp only [Array.getD_eq_getD_getElem?, Array.getElem?_extract];rw [if_pos (by omega)]
     rw [e]; exact this
   · cases hj
  | false =>
   have hn1 := hn rfl;subst hn1;have hlt : off < vs.size := by omega
   refine ⟨vs[off], by simp [part, h2, hlt], ?_⟩;have hlt2 : off < cs.length := by omega
   have := hc off cs[off] (by simp [hlt2]);have e : grp false ((cs.drop off).take 1) = cs[off] := by
    simp only [grp];rw [List.take_one];simp [hlt2]
   rw [e]
   simpa [Array.getD, hlt] using this
def fieldV (P : Program) (s : TypeId) (g : GVal) (f : Nat) (K : GVal → Prop) : Prop :=
 match fld P s f with
 | some (off, n, ag) => match g with
  | .agg cs => (ag = false → n = 1) ∧ off + n ≤ cs.length ∧ K (grp ag ((cs.drop off).take n))
  | _ => False
 | none => False
theorem field_sound {s : TypeId} {r : Value} {g : GVal} {f : Nat} (h : HSim E O w) (hr : VR E r g) (hk : fieldV P s g f (fun g => K g O)) :
 SOK P (Instr.field s r f) E O w K := by
 unfold fieldV at hk
 cases hf : fld P s f with
 | none => simp [hf] at hk
 | some p =>
  obtain ⟨off, n, ag⟩ := p;simp only [hf] at hk;obtain ⟨fs, x, hu, hx, rfl, ht, hn⟩ := fld_spec hf;cases hr with
  | agg vs cs hs hc =>
   simp only at hk
   obtain ⟨h1, h2, hk⟩ := hk;obtain ⟨v, hrun, hv⟩ := part_run (P := P) (w := w) ht h1 (.agg vs cs hs hc) h2;refine .same ?_ h hv hk;simp [Instr.field, run_underlying hu, hx, asAgg, hrun]
  | _ => exact hk.elim
def indexV (P : Program) (t : TypeId) (g i : GVal) (K : GVal → Prop) : Prop :=
 match i with
 | .int _ n => match g with
  | .agg cs => match arr P t with
   | some (len, sz, ag) => (ag = false → sz = 1) ∧ 0 ≤ n ∧ n < len ∧ n.toNat * sz + sz ≤ cs.length ∧ K (grp ag ((cs.drop (n.toNat * sz)).take sz))
   | none => False
  | .str s => P.underlying t = some .string ∧ 0 ≤ n ∧ n < s.length ∧ K (.int .u8 (s.getD n.toNat 0).toNat)
  | _ => False
 | _ => False
theorem index_sound {t : TypeId} {r ri : Value} {g i : GVal} (h : HSim E O w) (hr : VR E r g) (hi : VR E ri i) (hk : indexV P t g i (fun g => K g O)) :
 SOK P (Instr.index t r ri) E O w K := by
 unfold indexV at hk
 cases hi with
 | int k n =>
  simp only at hk
  cases hr with
  | agg vs cs hs hc =>
   simp only at hk
   cases he : arr P t with
   | none => simp [he] at hk
   | some p =>
    obtain ⟨len, sz, ag⟩ := p;simp only [he] at hk;obtain ⟨e, hu, ht⟩ := arr_spec he;obtain ⟨h1, h2, h3, h4, hk⟩ := hk;obtain ⟨v, hrun, hv⟩ := part_run (P := P) (w := w) ht h1 (.agg vs cs hs hc) h4;refine .same ?_ h hv hk;simp [Instr.index, run_underlying hu, asIntOf, h2, h3, (tab_spec ht w).1, hrun]
  | str s =>
   simp only at hk
   obtain ⟨hu, h2, h3, hk⟩ := hk;have hlt : n.toNat < s.length := by omega
   have e : (⟨s.toArray⟩ : ByteArray)[n.toNat]? = some (s.getD n.toNat 0) := by
    have hsz : n.toNat < (⟨s.toArray⟩ : ByteArray).size := by show n.toNat < s.toArray.size; simpa using hlt
    rw [getElem?_pos (⟨s.toArray⟩ : ByteArray) n.toNat hsz];simp [List.getD, hlt, ByteArray.getElem_eq_getElem_data]
   refine .same ?_ h (.int .u8 _) hk;simp [Instr.index, run_underlying hu, asIntOf, h2, e]
  | _ => exact hk.elim
 | _ => exact hk.elim
def extractV (g : GVal) (i : Nat) (K : GVal → Prop) : Prop :=
 match g with
 | .tuple vs => match vs[i]? with
  | some v => K v
  | none => False
 | _ => False
theorem extract_sound {r : Value} {g : GVal} {i : Nat} (h : HSim E O w) (hr : VR E r g) (hk : extractV g i (fun g => K g O)) :
 SOK P (Instr.extract r i) E O w K := by
 unfold extractV at hk
 cases hr with
 | tuple vs cs hs hc =>
  simp only at hk
  split at hk
  · rename_i v hv;have hlt : i < vs.size := by rw [hs]; exact (List.getElem?_eq_some_iff.1 hv).1
    have := hc i v hv;refine .same (v := vs[i]) ?_ h ?_ hk
    · simp [Instr.extract, hlt]
    · simpa [Array.getD, hlt] using this
  · exact hk.elim
 | _ => exact hk.elim
end
end Gv
namespace Gv
open Go
theorem alloc_new (w : World) (o : Obj) : (w.alloc o).heap[w.heap.size]? = some o := by show (w.heap.push o)[w.heap.size]? = _; simp
theorem alloc_old (w : World) (o : Obj) (k : Nat) (h : k < w.heap.size) : (w.alloc o).heap[k]? = w.heap[k]? := by
 show (w.heap.push o)[k]? = _; rw [Array.getElem?_push, if_neg (Nat.ne_of_lt h)]
theorem HSim.gen {E E' : Env} {O O' : List GObj} {w w' : World} (h : HSim E O w) (hE : E.le E') (hfin : Fin' E' O')
 (hos : w'.os = w.os) (hout : w'.output = w.output ∧ True) (hsz : w.heap.size ≤ w'.heap.size) (T : Nat → Prop)
 (hT : ∀ b, T b → InO E O b ∨ w.heap.size ≤ b)
 (hheap : ∀ k, k < w.heap.size → ¬ T k → w'.heap[k]? = w.heap[k]?)
 (hsnap : ∀ k o v, E'.snap k o = some v → E.snap k o = some v ∨ T k)
 (hcell : ∀ k o v, T k → E'.snap k o = some v → w'.cell? ⟨k, o, none⟩ = some v ∧ v.oneCell' = true)
 (hobj : ∀ (i : Nat) obj, O'[i]? = some obj → (O[i]? = some obj ∧ ∀ b, obj.blk E = some b → ¬ T b) ∨ (Realized E' w' obj ∧ ∀ b, obj.blk E' = some b → T b))
 (hone : ∀ (i j : Nat) oi oj b, i ≠ j → O'[i]? = some oi → O'[j]? = some oj → oi.blk E' = some b → oj.blk E' = some b → ¬ T b) :
 HSim E' O' w' ∧ Keep E O w E' O' w' := by
 have hold : ∀ k o v, E.snap k o = some v → w'.cell? ⟨k, o, none⟩ = some v := by
  intro k o v hv;by_cases hk : T k
  · exact (hcell k o v hk (hE.snap _ _ _ hv)).1
  · rw [World.cell?_of_block' (hheap k (h.lt hv) hk)]; exact h.sealed _ _ _ hv
 have hblkE : ∀ (i : Nat) obj, O[i]? = some obj → obj.blk E' = obj.blk E := fun i obj ho => GObj.blk_mono hE (h.real i obj ho)
 refine ⟨⟨hfin, fun b o v hv => ?_, fun b o v hv => ?_, fun i obj ho => ?_, fun i j oi oj b hij hi hj hbi hbj => ?_, h.globLe hE⟩, ⟨hE, hos, hout.1, hsz, fun b hb hn => hheap b hb (fun ht => (hT b ht).elim hn (fun h' => by omega)), fun b o v hv => ?_, fun b hb => ?_, hout.2⟩⟩
 · rcases hsnap b o v hv with h1 | h1
   · exact hold b o v h1
   · exact (hcell b o v h1 hv).1
 · rcases hsnap b o v hv with h1 | h1
   · exact h.one b o v h1
   · exact (hcell b o v h1 hv).2
 · rcases hobj i obj ho with ⟨h1, h2⟩ | ⟨h1, _⟩
   · refine (h.real i obj h1).keep hE (fun b hb => hheap b ((h.real i obj h1).blk_lt hb) (h2 b hb)) (fun b o v hb hv => ?_);rcases hsnap b o v hv with h3 | h3
     · exact h3
     · exact absurd h3 (h2 b hb)
   · exact h1
 · have hnT := hone i j oi oj b hij hi hj hbi hbj;rcases hobj i oi hi with ⟨h1, h2⟩ | ⟨_, h2⟩
   · rcases hobj j oj hj with ⟨h3, h4⟩ | ⟨_, h4⟩
     · rw [hblkE i oi h1] at hbi;rw [hblkE j oj h3] at hbj;exact h.sep i j oi oj b hij h1 h3 hbi hbj
     · exact hnT (h4 b hbj)
   · exact hnT (h2 b hbi)
 · rcases hsnap b o v hv with h1 | h1
   · exact .inl h1
   · exact .inr ((hT b h1).elim .inr .inl)
 · obtain ⟨i, obj, ho, hb⟩ := hb;rcases hobj i obj ho with ⟨h1, _⟩ | ⟨_, h2⟩
   · rw [hblkE i obj h1] at hb; exact .inl ⟨i, obj, h1, hb⟩
   · exact hT b (h2 b hb)
where
 World.cell?_of_block' {w w' : World} {k o : Nat} (h : w'.heap[k]? = w.heap[k]?) : w'.cell? ⟨k, o, none⟩ = w.cell? ⟨k, o, none⟩ := by simp [World.cell?, h]
theorem HSim.of_heap {E : Env} {O : List GObj} {w w' : World} (h : HSim E O w) (hh : w'.heap = w.heap) : HSim E O w' := by
 refine ⟨h.fin, fun b o v hv => ?_, h.one, fun i obj ho => (h.real i obj ho).keep (.refl E) (fun b _ => by rw [hh]) (fun _ _ _ _ x => x), h.sep, h.glob⟩
 have := h.sealed b o v hv
 simpa [World.cell?, hh] using this
theorem Keep.of_heap {E : Env} {O : List GObj} {w w' : World} (hh : w'.heap = w.heap) (ho : w'.os = w.os) (hp : w'.output = w.output) : Keep E O w E O w' :=
 ⟨.refl E, ho, hp, by rw [hh]; exact Nat.le_refl _, fun b _ _ => by rw [hh], fun _ _ _ h => .inl h, fun _ h => .inl h, trivial⟩
def Env.sealNew (E : Env) (b : Nat) (cur : Array Value) : Env := { E with snap := fun k o => if k = b then cur[o]? else E.snap k o }
def Env.sealTo (E : Env) (b n : Nat) (cur : Array Value) : Env := { E with snap := fun k o => if k = b then (if o < n then cur[o]? else none) else E.snap k o }
def Env.addLoc (E : Env) (st : Nat) (l : GLoc) : Env := { E with loc := fun s => if s = st then some l else E.loc s }
theorem Env.addLoc_self (E : Env) (st : Nat) (l : GLoc) : (E.addLoc st l).loc st = some l := by simp [Env.addLoc]
theorem Env.addLoc_le {E : Env} {st : Nat} (l : GLoc) (h : E.loc st = none) : E.le (E.addLoc st l) :=
 ⟨fun _ _ _ h => h, fun s l' hs => by
  simp only [Env.addLoc]; split
  · rename_i e; subst e; rw [h] at hs; cases hs
  · exact hs⟩
def Next' (O : List GObj) (st : Nat) : Prop := ∀ c, clockOf O = some c → st < c
theorem Env.addLoc_fin {E : Env} {O : List GObj} {st : Nat} {l : GLoc} (h : Fin' E O) (hn : Next' O st) : Fin' (E.addLoc st l) O := by
 obtain ⟨n, h1, h2⟩ := h
 exact ⟨max n (st + 1), fun c hc => by have := h1 c hc; have := hn c hc; omega, fun s hs => by simp only [Env.addLoc]; rw [if_neg (by omega)]; exact h2 s (by omega)⟩
theorem Fin'.app {E : Env} {O : List GObj} {obj : GObj} (h : Fin' E O) (hc : obj.isClock = false) : Fin' E (O ++ [obj]) := h.of_loc rfl (clockOf_app hc)
theorem Fin'.set {E : Env} {O : List GObj} {o : Nat} {obj obj' : GObj} (h : Fin' E O) (hO : O[o]? = some obj) (h1 : obj.isClock = false) (h2 : obj'.isClock = false) : Fin' E (O.set o obj') := h.of_loc rfl (clockOf_set hO h1 h2)
theorem HSim.stamp {E : Env} {O : List GObj} {w : World} {K : Nat → Prop} (h : HSim E O w) (hk : Gv.stamp O K) :
    ∃ st, K st ∧ E.loc st = none ∧ Next' (tickO O) st ∧ HSim E (tickO O) w ∧ Keep E O w E (tickO O) w := by
  obtain ⟨n, h1, h2⟩ := h.fin;have hblk : ∀ (i : Nat) x b, (tickO O)[i]? = some x → x.blk E = some b → O[i]? = some x := by
    intro i x b hx hb;rcases tickO_get' hx with h3 | h3
    · exact h3
    · cases x <;> simp_all [GObj.isClock, GObj.blk]
  have hs : ∀ (i : Nat) x, (tickO O)[i]? = some x → Realized E w x := by
    intro i x hx;rcases tickO_get' hx with h3 | h3
    · exact h.real i x h3
    · cases x <;> simp_all [GObj.isClock, Realized]
  have base : Fin' E (tickO O) → HSim E (tickO O) w ∧ Keep E O w E (tickO O) w := fun hf =>
    ⟨⟨hf, h.sealed, h.one, hs, fun i j oi oj b hij hi hj hbi hbj => h.sep i j oi oj b hij (hblk i oi b hi hbi) (hblk j oj b hj hbj) hbi hbj, h.glob⟩,
     ⟨.refl E, rfl, rfl, Nat.le_refl _, fun _ _ _ => rfl, fun _ _ _ hv => .inl hv, fun b ⟨i, x, hx, hb⟩ => .inl ⟨i, x, hblk i x b hx hb, hb⟩, trivial⟩⟩
  unfold Gv.stamp at hk;cases hc : clockOf O with
  | none =>
    rw [hc] at hk;have ht : tickO O = O := by
      cases O with
      | nil => rfl
      | cons x r => cases x <;> simp_all [tickO, clockOf]
    refine ⟨n, hk n, h2 n (Nat.le_refl _), (fun c e => by rw [ht, hc] at e; cases e), base (by rw [ht]; exact h.fin)⟩
  | some c =>
    rw [hc] at hk;have ht : clockOf (tickO O) = some (c + 1) := by
      cases O with
      | nil => simp [clockOf] at hc
      | cons x r => cases x <;> simp_all [tickO, clockOf]
    have hn := h1 c hc;exact ⟨c, hk, h2 c hn, fun c' e => by rw [ht] at e; cases e; omega, base ⟨n, fun c' e => by rw [ht] at e; cases e; omega, h2⟩⟩
theorem HSim.snap_new {E : Env} {O : List GObj} {w : World} (h : HSim E O w) {b o : Nat} (hb : w.heap.size ≤ b) : E.snap b o = none := by
 cases hs : E.snap b o with
 | none => rfl
 | some v => have := h.lt hs; omega
theorem HSim.sealNew {E : Env} {O : List GObj} {w : World} (h : HSim E O w) (cur : Array Value) (el : TypeId) (h1 : ∀ (j : Nat) v, cur[j]? = some v → v.oneCell' = true) :
 HSim (E.sealNew w.heap.size cur) O (w.alloc (.cells cur el)) ∧ Keep E O w (E.sealNew w.heap.size cur) O (w.alloc (.cells cur el)) := by
 refine h.gen ⟨fun b o v hv => ?_, fun _ _ hs => hs⟩ h.fin rfl ⟨rfl, trivial⟩ (by simp) (fun b => b = w.heap.size) (fun b hb => .inr (by omega))
  (fun k hk _ => alloc_old w _ k hk) (fun k o v hv => ?_) (fun k o v hk hv => ?_) (fun i obj ho => .inl ⟨ho, fun b hb e => ?_⟩) (fun i j oi oj b hij hi hj hbi hbj e => ?_)
 · show (if b = w.heap.size then cur[o]? else E.snap b o) = some v;rw [if_neg (by have := h.lt hv; omega)]; exact hv
 · by_cases e : k = w.heap.size
   · exact .inr e
   · left; simpa [Env.sealNew, e] using hv
 · subst hk;have : cur[o]? = some v := by simpa [Env.sealNew] using hv
   exact ⟨by simp only [World.cell?, alloc_new]; simpa using this, h1 _ _ this⟩
 · have := (h.real i obj ho).blk_lt hb; omega
 · have e2 : oi.blk (E.sealNew w.heap.size cur) = oi.blk E := by cases oi <;> rfl
   rw [e2] at hbi;have := (h.real i oi hi).blk_lt hbi; omega
theorem HSim.objNew {E : Env} {O : List GObj} {w : World} (h : HSim E O w) (ob : Obj) (obj : GObj) {st : Nat} {l : GLoc} (hst : E.loc st = none) (hnx : Next' O st) (hnc : obj.isClock = false) (hfz : True) (hb : l.block = some w.heap.size)
 (hr : Realized (E.addLoc st l) (w.alloc ob) obj) (hblk : obj.blk (E.addLoc st l) = some w.heap.size) :
 HSim (E.addLoc st l) (O ++ [obj]) (w.alloc ob) ∧ Keep E O w (E.addLoc st l) (O ++ [obj]) (w.alloc ob) := by
 have hle := Env.addLoc_le l hst
 refine h.gen hle ((Env.addLoc_fin h.fin hnx).app hnc) rfl ⟨rfl, hfz⟩ (by simp) (fun b => b = w.heap.size) (fun b hb => .inr (by omega))
  (fun k hk _ => alloc_old w _ k hk) (fun k o v hv => .inl hv) (fun k o v hk hv => ?_) (fun i ob' ho => ?_) (fun i j oi oj b hij hi hj hbi hbj e => ?_)
 · subst hk;have := h.snap_new (b := w.heap.size) (o := o) (Nat.le_refl _);have hv' : E.snap w.heap.size o = some v := hv;rw [this] at hv'; cases hv'
 · by_cases hi : i < O.length
   · rw [List.getElem?_append_left hi] at ho;exact .inl ⟨ho, fun b hb e => by have := (h.real i ob' ho).blk_lt hb; omega⟩
   · rw [List.getElem?_append_right (by omega)] at ho;have : ob' = obj := by
      cases hk : i - O.length with
      | zero => rw [hk] at ho; simpa using ho.symm
      | succ k => rw [hk] at ho; simp at ho
     subst this;exact .inr ⟨hr, fun b hb => by rw [hblk] at hb; exact (Option.some.inj hb).symm⟩
 · subst e;have low : ∀ (i : Nat) oi, i < O.length → (O ++ [obj])[i]? = some oi → oi.blk (E.addLoc st l) ≠ some w.heap.size := by
    intro i oi hi hoi hb;rw [List.getElem?_append_left hi] at hoi;rw [GObj.blk_mono hle (h.real i oi hoi)] at hb;have := (h.real i oi hoi).blk_lt hb; omega
   by_cases h1 : i < O.length
   · exact low i oi h1 hi hbi
   · by_cases h2 : j < O.length
     · exact low j oj h2 hj hbj
     · have hli : i < (O ++ [obj]).length := (List.getElem?_eq_some_iff.1 hi).1;have hlj : j < (O ++ [obj]).length := (List.getElem?_eq_some_iff.1 hj).1;simp at hli hlj;omega
theorem HSim.upd {E E' : Env} {O : List GObj} {w w' : World} {o : Nat} {obj obj' : GObj} {b t : Nat} (h : HSim E O w) (hO : O[o]? = some obj) (hb : obj.blk E = some b ∨ w.heap.size ≤ t)
 (ht : t = b ∨ w.heap.size ≤ t) (hE : E.le E') (hfin : Fin' E' O) (hnc : obj.isClock = false ∧ obj'.isClock = false)
 (hos : w'.os = w.os) (hout : w'.output = w.output ∧ True) (hsz : w.heap.size ≤ w'.heap.size)
 (hheap : ∀ k, k < w.heap.size → k ≠ t → w'.heap[k]? = w.heap[k]?)
 (hsnap : ∀ k o v, k ≠ t → E'.snap k o = some v → E.snap k o = some v)
 (hcell : ∀ o v, E'.snap t o = some v → w'.cell? ⟨t, o, none⟩ = some v ∧ v.oneCell' = true)
 (hreal : Realized E' w' obj') (hblk : ∀ k, obj'.blk E' = some k → k = t) :
 HSim E' (O.set o obj') w' ∧ Keep E O w E' (O.set o obj') w' := by
 have hlt : o < O.length := (List.getElem?_eq_some_iff.1 hO).1
 have hset : ∀ (i : Nat) x, (O.set o obj')[i]? = some x → (i = o ∧ x = obj') ∨ (i ≠ o ∧ O[i]? = some x) := by
  intro i x hx;rw [List.getElem?_set] at hx;split at hx
  · rename_i e; subst e;simp at hx;exact .inl ⟨rfl, hx.symm⟩
  · rename_i e; exact .inr ⟨fun e' => e e'.symm, hx⟩
 have hoth : ∀ (i : Nat) x, i ≠ o → O[i]? = some x → x.blk E ≠ some t := by
  intro i x hi hx hbx;rcases ht with e | e
  · subst e;rcases hb with hb | hb
    · exact h.sep i o x obj t hi hx hO hbx hb
    · have := (h.real i x hx).blk_lt hbx; omega
  · have := (h.real i x hx).blk_lt hbx; omega
 refine h.gen hE (hfin.set hO hnc.1 hnc.2) hos hout hsz (fun k => k = t) (fun k hk => ?_) hheap (fun k o v hv => ?_) (fun k o v hk hv => by subst hk; exact hcell o v hv) (fun i x hx => ?_) (fun i j oi oj k hij hi hj hbi hbj hk => ?_)
 · subst hk;rcases hb with hb | hb
   · rcases ht with e | e
     · subst e; exact .inl ⟨o, obj, hO, hb⟩
     · exact .inr e
   · exact .inr hb
 · by_cases e : k = t
   · exact .inr e
   · exact .inl (hsnap k o v e hv)
 · rcases hset i x hx with ⟨_, rfl⟩ | ⟨hi, hx⟩
   · exact .inr ⟨hreal, hblk⟩
   · exact .inl ⟨hx, fun b hb e => hoth i x hi hx (e ▸ hb)⟩
 · subst hk;rcases hset i oi hi with ⟨hi1, rfl⟩ | ⟨hi1, hi2⟩
   · rcases hset j oj hj with ⟨hj1, rfl⟩ | ⟨hj1, hj2⟩
     · omega
     · rw [GObj.blk_mono hE (h.real j oj hj2)] at hbj;exact hoth j oj hj1 hj2 hbj
   · rw [GObj.blk_mono hE (h.real i oi hi2)] at hbi;exact hoth i oi hi1 hi2 hbi
def GVal.ofConst : Value → GVal
 | .bool b => .bool b
 | .int k n => .int k n
 | .string s => .str s.data.toList
 | .slice none 0 0 => .slice [] .nil
 | v => .lit v
theorem VR.ofConst (E : Env) (v : Value) : VR E v (.ofConst v) := by
 unfold GVal.ofConst
 split
 · exact .bool _
 · exact .int _ _
 · rename_i s;have : (Value.string s) = .string ⟨s.data.toList.toArray⟩ := by simp
   rw [this]; exact .str _
 · exact .slice none 0 0 [] .nil 0 (fun _ => .tuple #[]) rfl (Nat.le_refl _) (by simp) (by simp) (by simp) ⟨rfl, rfl⟩
 · exact .lit _
def GVal.solid : GVal → Bool
 | .bool _ | .ubool | .int _ _ | .str _ | .slice _ _ | .own _ _ _ _ | .ref _ | .ptr _ _ _ _ | .map _ _ | .func _ _ _ | .iface _ _ => true
 | .lit v => v.oneCell'
 | _ => false
theorem VR.one {E : Env} {v : Value} {g : GVal} (h : VR E v g) (hs : g.solid = true) : v.oneCell' = true := by
 cases h <;> first | rfl | exact hs | cases hs
def GVal.okCells (g : GVal) : Prop := ∀ c ∈ g.cells, c.solid = true
theorem VR.cells {E : Env} {v : Value} {g : GVal} (h : VR E v g) (hs : g.okCells) :
 v.cells.size = g.cells.length ∧ ∀ (j : Nat) c, g.cells[j]? = some c → ∃ x, v.cells[j]? = some x ∧ x.oneCell' = true ∧ VR E x c := by
 have single : g.solid = true → g.cells = [g] → v.cells = #[v] → v.cells.size = g.cells.length ∧ ∀ (j : Nat) c, g.cells[j]? = some c → ∃ x, v.cells[j]? = some x ∧ x.oneCell' = true ∧ VR E x c := by
  intro h1 h2 h3;rw [h2, h3];refine ⟨rfl, fun j c hj => ?_⟩;cases j with
  | zero => simp at hj; subst hj; exact ⟨v, rfl, h.one h1, h⟩
  | succ j => simp at hj
 cases h with
 | agg vs cs hsz hc =>
  refine ⟨hsz, fun j c hj => ?_⟩;have hlt : j < vs.size := by rw [hsz]; exact (List.getElem?_eq_some_iff.1 hj).1
  have hv := hc j c hj;have e : vs.getD j (.tuple #[]) = vs[j] := by simp [Array.getD, hlt]
  rw [e] at hv;exact ⟨vs[j], by simp [Value.cells, hlt], hv.one (hs c (List.mem_of_getElem? hj)), hv⟩
 | any v => exact absurd (hs .any (by simp [GVal.cells])) (by simp [GVal.solid])
 | tuple vs cs a b => exact absurd (hs (.tuple cs) (by simp [GVal.cells])) (by simp [GVal.solid])
 | cond c v g a => exact absurd (hs (.cond c g) (by simp [GVal.cells])) (by simp [GVal.solid])
 | lit v =>
  have h1 := hs (.lit v) (by simp [GVal.cells]);refine single h1 rfl ?_;cases v <;> first | rfl | (simp [GVal.solid, Value.oneCell'] at h1; done)
 | _ => exact single rfl rfl rfl
section
variable {P : Program} {E : Env} {O : List GObj} {w : World} {K : GVal → List GObj → Prop}
def zer (P : Program) (t : TypeId) : Option (List GVal) :=
 match P.info? t with
 | some i => i.zero.map fun z => z.cells.toList.map .ofConst
 | none => none
theorem zer_spec {t : TypeId} {cs : List GVal} (h : zer P t = some cs) : ∃ i z, P.info? t = some i ∧ i.zero = some z ∧ cs = z.cells.toList.map .ofConst := by
 unfold zer at h
 split at h
 · rename_i i hi;cases hz : i.zero with
   | none => simp [hz] at h
   | some z => simp [hz] at h; exact ⟨i, z, hi, hz, h.symm⟩
 · cases h
theorem zeros_at (E : Env) (z : Value) (j : Nat) (c : GVal) (h : (z.cells.toList.map GVal.ofConst)[j]? = some c) : ∃ x, z.cells[j]? = some x ∧ VR E x c ∧ c = .ofConst x := by
 rw [List.getElem?_map] at h
 cases hx : z.cells.toList[j]? with
 | none => simp [hx] at h
 | some x => simp [hx] at h; exact ⟨x, by simpa using hx, h ▸ VR.ofConst E x, h.symm⟩
theorem newVar_sound {t : TypeId} {v : Value} {cs : List GVal} (h : HSim E O w) (hs : v.cells.size = cs.length)
 (hc : ∀ (j : Nat) c, cs[j]? = some c → ∃ x, v.cells[j]? = some x ∧ x.oneCell' = true ∧ VR E x c)
 (hk : stamp O fun st => K (.ptr O.length st 0 0) (tickO O ++ [.row st cs.length [cs]])) :
 ∃ w' E' O' g, (newVar t v).run P w = .ok ⟨w.heap.size, 0, none⟩ w' ∧ HSim E' O' w' ∧ Keep E O w E' O' w' ∧ VR E' (.pointer (some ⟨w.heap.size, 0, none⟩)) g ∧ K g O' := by
 obtain ⟨st, hk, hst, hnx, h, hkeep⟩ := h.stamp hk
 rw [← tickO_len O] at hk
 have hle := Env.addLoc_le ⟨some w.heap.size, 0, cs.length, cs.length⟩ hst
 obtain ⟨h1, h2⟩ := h.objNew (.cells v.cells t) (.row st cs.length [cs]) (l := ⟨some w.heap.size, 0, cs.length, cs.length⟩) hst hnx rfl trivial rfl
  ⟨_, Env.addLoc_self _ _ _, rfl, by simp, v.cells, t, alloc_new _ _, hs, by simp, fun j g hj => (by
   simp only [List.flatten_cons, List.flatten_nil, List.append_nil] at hj;obtain ⟨x, hx, ho, hr⟩ := hc j g hj;exact ⟨x, by simpa using hx, ho, hr.mono hle⟩), fun o => h.snap_new (Nat.le_refl _)⟩
  (by simp [GObj.blk, Env.addLoc_self])
 exact ⟨_, _, _, _, rfl, h1, hkeep.trans h2, .ptr _ _ _ st 0 0 _ (Env.addLoc_self _ _ _) rfl (by simp), hk⟩
theorem newVar_sealed {t : TypeId} {v : Value} {cs : List GVal} (h : HSim E O w) (hs : v.cells.size = cs.length)
 (hc : ∀ (j : Nat) c, cs[j]? = some c → ∃ x, v.cells[j]? = some x ∧ x.oneCell' = true ∧ VR E x c) (hk : K (.ref cs) O) :
 ∃ w' E' O' g, (newVar t v).run P w = .ok ⟨w.heap.size, 0, none⟩ w' ∧ HSim E' O' w' ∧ Keep E O w E' O' w' ∧ VR E' (.pointer (some ⟨w.heap.size, 0, none⟩)) g ∧ K g O' := by
 obtain ⟨h1, h2⟩ := h.sealNew v.cells t (fun j x hx => by
  have hlt : j < cs.length := by rw [← hs]; exact (Array.getElem?_eq_some_iff.1 hx).1
  obtain ⟨x', hx', ho, _⟩ := hc j cs[j] (by simp [hlt]);rw [hx] at hx'; cases hx'; exact ho)
 refine ⟨_, _, _, _, rfl, h1, h2, .ref _ _ _ (fun j => v.cells.getD j (.tuple #[])) (fun j hj => ?_) (fun j g hj => ?_), hk⟩
 · obtain ⟨x, hx, _⟩ := hc j cs[j] (by simp [hj]);simp [Env.sealNew, Array.getD_eq_getD_getElem?, hx]
 · obtain ⟨x, hx, _, hr⟩ := hc j g hj;have e : v.cells.getD j (.tuple #[]) = x := by simp [Array.getD_eq_getD_getElem?, hx]
   rw [e]; exact hr.mono h2.ext
def allocV (P : Program) (t : TypeId) (O : List GObj) (K : GVal → List GObj → Prop) : Prop :=
 match zer P t with
 | some cs => (∀ c ∈ cs, c.solid = true) ∧ stamp O fun st => K (.ptr O.length st 0 0) (tickO O ++ [.row st cs.length [cs]])
 | none => False
theorem alloc_sound {t : TypeId} {old : Value} (h : HSim E O w) (hk : allocV P t O K) : SOK P (Instr.alloc t true old) E O w K := by
 unfold allocV at hk
 cases hz : zer P t with
 | none => simp [hz] at hk
 | some cs =>
  simp only [hz] at hk;obtain ⟨i, z, hi, hzz, rfl⟩ := zer_spec hz;obtain ⟨w', E', O', g, hrun, h1, h2, h3, h4⟩ := newVar_sound (P := P) (t := t) (v := z) (K := K) h (by simp) (fun j c hj => by
   obtain ⟨x, hx, hr, he⟩ := zeros_at E z j c hj;exact ⟨x, hx, hr.one (hk.1 c (List.mem_of_getElem? hj)), hr⟩) hk.2
  refine ⟨_, w', E', O', g, ?_, h1, h2, h3, h4⟩;simp [Instr.alloc, zeroValue, typeInfo, hi, hzz, hrun]
def boxV (ro : Bool) (g : GVal) (O : List GObj) (K : GVal → List GObj → Prop) : Prop :=
 g.okCells ∧ match ro with
 | true => K (.ref g.cells) O
 | false => stamp O fun st => K (.ptr O.length st 0 0) (tickO O ++ [.row st g.cells.length [g.cells]])
theorem box_sound {t : TypeId} {v : Value} {g : GVal} {ro : Bool} (h : HSim E O w) (hr : VR E v g) (hk : boxV ro g O K) : SOK P (Instr.box t v) E O w K := by
 obtain ⟨hok, hk⟩ := hk
 obtain ⟨hs, hc⟩ := hr.cells hok
 cases ro with
 | true =>
  obtain ⟨w', E', O', g', hrun, h1, h2, h3, h4⟩ := newVar_sealed (P := P) (t := t) (v := v) (K := K) h hs hc hk;exact ⟨_, w', E', O', g', by simp [Instr.box, hrun], h1, h2, h3, h4⟩
 | false =>
  obtain ⟨w', E', O', g', hrun, h1, h2, h3, h4⟩ := newVar_sound (P := P) (t := t) (v := v) (K := K) h hs hc hk;exact ⟨_, w', E', O', g', by simp [Instr.box, hrun], h1, h2, h3, h4⟩
def splice (cs : List GVal) (off : Nat) (xs : List GVal) : List GVal := cs.take off ++ xs ++ cs.drop (off + xs.length)
theorem foldl_set (off : Nat) : ∀ (vs : List Value) (k : Nat) (cells : Array Value),
 ((vs.zipIdx k).foldl (fun cs (c, j) => cs.setIfInBounds (off + j) c) cells).size = cells.size ∧
 ∀ j, ((vs.zipIdx k).foldl (fun cs (c, j) => cs.setIfInBounds (off + j) c) cells)[j]? =
  if off + k ≤ j ∧ j < off + k + vs.length ∧ j < cells.size then vs[j - (off + k)]? else cells[j]?
 | [], k, cells => by simp; intro j h1 h2; omega
 | v :: r, k, cells => by
  obtain ⟨h1, h2⟩ := foldl_set off r (k + 1) (cells.setIfInBounds (off + k) v);simp only [List.zipIdx_cons, List.foldl_cons];refine ⟨by simpa using h1, fun j => ?_⟩;rw [h2 j];simp only [Array.size_setIfInBounds, List.length_cons];by_cases hj : j = off + k
  · subst hj;by_cases hlt : off + k < cells.size
    · rw [if_neg (by omega), if_pos ⟨by omega, by omega, hlt⟩];simp [hlt]
    · rw [if_neg (by omega), if_neg (by omega)];rw [Array.getElem?_setIfInBounds];rw [if_pos rfl, if_neg hlt, Array.getElem?_eq_none (by omega)]
  · have e : (cells.setIfInBounds (off + k) v)[j]? = cells[j]? := Array.getElem?_setIfInBounds_ne (by omega);rw [e];by_cases hin : off + (k + 1) ≤ j ∧ j < off + (k + 1) + r.length ∧ j < cells.size
    · rw [if_pos hin, if_pos ⟨by omega, by omega, hin.2.2⟩];have : j - (off + k) = (j - (off + (k + 1))) + 1 := by omega
      rw [this, List.getElem?_cons_succ]
    · rw [if_neg hin, if_neg (by omega)]
def CellsR (E : Env) (a : Array Value) (cs : List GVal) : Prop := a.size = cs.length ∧ ∀ (j : Nat) c, cs[j]? = some c → ∃ x, a[j]? = some x ∧ x.oneCell' = true ∧ VR E x c
theorem CellsR.splice {a : Array Value} {cs xs : List GVal} {vs : Array Value} {off : Nat} (h : CellsR E a cs) (hv : CellsR E vs xs) (hl : off + xs.length ≤ cs.length) :
 CellsR E (vs.zipIdx.foldl (fun cs (c, j) => cs.setIfInBounds (off + j) c) a) (splice cs off xs) := by
 obtain ⟨h1, h2⟩ := foldl_set off vs.toList 0 a
 have e : (vs.zipIdx.foldl (fun cs (c, j) => cs.setIfInBounds (off + j) c) a) = ((vs.toList.zipIdx 0).foldl (fun cs (c, j) => cs.setIfInBounds (off + j) c) a) := by
  rw [← Array.foldl_toList, Array.toList_zipIdx]
 rw [e]
 refine ⟨by rw [h1, h.1]; simp only [Gv.splice, List.length_append, List.length_take, List.length_drop]; omega, fun j c hj => ?_⟩
 rw [h2 j]
 have hvs : vs.toList.length = xs.length := by simpa using hv.1
 have ha := h.1
 by_cases hin : off ≤ j ∧ j < off + xs.length
 · rw [if_pos ⟨by omega, by omega, by omega⟩];have hj' : xs[j - off]? = some c := by
    unfold Gv.splice at hj;rw [List.append_assoc, List.getElem?_append_right (by simp; omega), List.getElem?_append_left (by simp; omega)] at hj;have : j - (List.take off cs).length = j - off := by simp; omega
    rwa [this] at hj
   obtain ⟨x, hx, ho, hr⟩ := hv.2 _ c hj';exact ⟨x, by simpa using hx, ho, hr⟩
 · rw [if_neg (by omega)];have hj' : cs[j]? = some c := by
    unfold Gv.splice at hj;by_cases hlt : j < off
    · rw [List.append_assoc, List.getElem?_append_left (by simp; omega), List.getElem?_take_of_lt hlt] at hj;exact hj
    · rw [List.getElem?_append_right (by simp; omega), List.getElem?_drop] at hj;have e2 : off + xs.length + (j - (List.take off cs ++ xs).length) = j := by simp; omega
      rwa [e2] at hj
   exact h.2 j c hj'
def fillG (place : Nat → Option (Nat × Nat)) : List GVal → List (Nat × GVal) → Option (List GVal)
 | cs, [] => some cs
 | cs, (i, g) :: r => match place i with
  | some (off, n) => if g.cells.length = n ∧ off + n ≤ cs.length then fillG place (splice cs off g.cells) r else none
  | none => none
theorem fill_sound (place : Nat → Option (Nat × Nat)) : ∀ (gs : List (Nat × GVal)) (vs : List (Nat × Value)) (cs : List GVal) (a : Array Value) (out : List GVal),
 CellsR E a cs → gs.map (·.1) = vs.map (·.1) → (∀ p ∈ gs, p.2.okCells) → (∀ (i : Nat) g v, gs[i]? = some g → vs[i]? = some v → VR E v.2 g.2) → fillG place cs gs = some out →
 ∃ b, Instr.fill place a vs = some b ∧ CellsR E b out
 | [], vs, cs, a, out, h, hm, _, _, hf => by
  cases vs with
  | nil => simp [fillG] at hf; subst hf; exact ⟨a, rfl, h⟩
  | cons _ _ => simp at hm
 | (i, g) :: r, vs, cs, a, out, h, hm, hok, hr, hf => by
  cases vs with
  | nil => simp at hm
  | cons p vr =>
   obtain ⟨i', v⟩ := p;simp only [List.map_cons, List.cons.injEq] at hm;obtain ⟨rfl, hm⟩ := hm;simp only [fillG] at hf;cases hp : place i with
   | none => simp [hp] at hf
   | some q =>
    obtain ⟨off, n⟩ := q;simp only [hp] at hf;split at hf
    · rename_i hc;have hv : VR E v g := hr 0 _ _ rfl rfl;have hcr : CellsR E v.cells g.cells := hv.cells (hok (i, g) (by simp));have h' := h.splice hcr (off := off) (by omega);obtain ⟨b, hb, hb2⟩ := fill_sound place r vr _ _ out h' hm (fun p hp => hok p (by simp [hp])) (fun k g v hg hv => hr (k + 1) g v (by simpa using hg) (by simpa using hv)) hf;refine ⟨b, ?_, hb2⟩;simp only [Instr.fill, hp];have hs1 := hcr.1;have ha := h.1;rw [if_neg (by simp; omega)];exact hb
    · cases hf
def plc (P : Program) (t : TypeId) : Option (List (Nat × Nat) ⊕ Nat) :=
 match P.underlying t with
 | some (.struct fs) => if (fs.toList.all fun f => (P.info? f.type).isSome) = true then some (.inl (fs.toList.map fun f => (f.offset, ((P.info? f.type).map (·.size)).getD 0))) else none
 | some (.array _ e) => (P.info? e).map fun x => .inr x.size
 | _ => none
def place : List (Nat × Nat) ⊕ Nat → Nat → Option (Nat × Nat)
 | .inl l, i => l[i]?
 | .inr n, i => some (i * n, n)
def buildV (P : Program) (t : TypeId) (gs : List (Nat × GVal)) (K : GVal → Prop) : Prop :=
 match zer P t, plc P t with
 | some cs, some pl => (∀ c ∈ cs, c.solid = true) ∧ (∀ p ∈ gs, p.2.okCells) ∧ match fillG (place pl) cs gs with
  | some out => K (.agg out)
  | none => False
 | _, _ => False
theorem mapM_fields : ∀ (l : List Field), (∀ f ∈ l, (P.info? f.type).isSome = true) →
 (l.mapM (fun (f : Field) => (do pure (f.offset, ← Go.sizeOf f.type) : Sem (Nat × Nat)))).run P w = .ok (l.map fun f => (f.offset, ((P.info? f.type).map (·.size)).getD 0)) w
 | [], _ => by simp
 | f :: r, h => by
  obtain ⟨i, hi⟩ := Option.isSome_iff_exists.1 (h f (by simp));have ih := mapM_fields r (fun g hg => h g (by simp [hg]));simp only [List.mapM_cons, Sem.run_bind, Go.sizeOf, typeInfo, run_program, Result.andThen_ok, hi, Sem.run_pure, List.map_cons, Option.map_some, Option.getD_some];have ih' := ih;simp only [Go.sizeOf, typeInfo] at ih';rw [ih'];simp
theorem build_sound {t : TypeId} {gs : List (Nat × GVal)} {vs : Array (Nat × Value)} (h : HSim E O w) (hm : gs.map (·.1) = vs.toList.map (·.1))
 (hr : ∀ (i : Nat) g v, gs[i]? = some g → vs.toList[i]? = some v → VR E v.2 g.2)
 (hk : buildV P t gs (fun g => K g O)) : SOK P (Instr.build t vs) E O w K := by
 unfold buildV at hk
 cases hz : zer P t with
 | none => simp [hz] at hk
 | some cs =>
  cases hp : plc P t with
  | none => simp [hz, hp] at hk
  | some pl =>
   simp only [hz, hp] at hk;obtain ⟨hs, hok, hk⟩ := hk;split at hk
   · rename_i out hf;obtain ⟨i, z, hi, hzz, rfl⟩ := zer_spec hz;have hcr : CellsR E z.cells (z.cells.toList.map .ofConst) := ⟨by simp, fun j c hj => by
      obtain ⟨x, hx, hr, he⟩ := zeros_at E z j c hj;exact ⟨x, hx, hr.one (hs c (List.mem_of_getElem? hj)), hr⟩⟩
     obtain ⟨b, hb, hbr⟩ := fill_sound (place pl) gs vs.toList _ _ out hcr hm hok hr hf;refine .same (v := .agg b) ?_ h (.agg _ _ hbr.1 (fun j g hj => ?_)) hk
     · unfold plc at hp;split at hp
       · rename_i fs hu;split at hp
         · rename_i hall;cases hp;have htot : ∀ f ∈ fs.toList, (P.info? f.type).isSome = true := List.all_eq_true.1 hall;have hmm := mapM_fields (P := P) (w := w) fs.toList htot;have hmm2 : (fs.mapM (fun (f : Field) => (do pure (f.offset, ← Go.sizeOf f.type) : Sem (Nat × Nat)))).run P w = .ok (fs.map fun f => (f.offset, ((P.info? f.type).map (·.size)).getD 0)) w := by
            rw [Array.mapM_eq_mapM_toList];simp only [Sem.run_map, hmm, Result.andThen_ok]
            congr 1
            apply Array.ext';simp
           have hpl : (fun i => (fs.map fun f => (f.offset, ((P.info? f.type).map (·.size)).getD 0))[i]?) = place (.inl (fs.toList.map fun f => (f.offset, ((P.info? f.type).map (·.size)).getD 0))) := by
            funext k
            simp [place]
           simp only [Instr.build, Sem.run_bind, zeroValue, typeInfo, run_program, Result.andThen_ok, hi, hzz, Sem.run_pure, run_underlying hu];simp only [Go.sizeOf, typeInfo] at hmm2;simp only [Go.sizeOf, typeInfo, hmm2, Result.andThen_ok, hpl, hb, Sem.run_pure]
         · cases hp
       · rename_i n e hu;cases he : P.info? e with
         | none => simp [he] at hp
         | some x =>
          simp only [he, Option.map_some, Option.some.injEq] at hp;subst hp;simp only [Instr.build, Sem.run_bind, zeroValue, typeInfo, run_program, Result.andThen_ok, hi, hzz, Sem.run_pure, run_underlying hu, Go.sizeOf, he];have e2 : (fun i => some (i * x.size, x.size)) = place (.inr x.size) := rfl;simp only [e2, hb, Sem.run_pure]
       · cases hp
     · obtain ⟨x, hx, _, hv⟩ := hbr.2 j g hj;have e : b.getD j (.tuple #[]) = x := by simp [Array.getD_eq_getD_getElem?, hx]
       rw [e]; exact hv
   · exact hk.elim
end
end Gv
namespace Gv
open Go
section
variable {P : Program} {E : Env} {O : List GObj} {w : World} {K : GVal → List GObj → Prop}
theorem splice_flatten {sz : Nat} : ∀ (xs : List (List GVal)) (i : Nat) (y : List GVal), (∀ x ∈ xs, x.length = sz) → i < xs.length → y.length = sz →
 splice xs.flatten (i * sz) y = (xs.set i y).flatten
 | [], i, y, _, hi, _ => by simp at hi
 | x :: r, 0, y, h, _, hy => by
  have hx : x.length = sz := h x (by simp);simp only [splice, List.flatten_cons, Nat.zero_mul, List.take_zero, List.nil_append, Nat.zero_add, List.set_cons_zero];rw [List.drop_append_of_le_length (by omega), List.drop_of_length_le (by omega)]; simp
 | x :: r, i + 1, y, h, hi, hy => by
  have hx : x.length = sz := h x (by simp);have ih := splice_flatten r i y (fun z hz => h z (by simp [hz])) (by simpa using hi) hy;simp only [List.flatten_cons, List.set_cons_succ, ← ih, splice];have e : (i + 1) * sz = x.length + i * sz := by rw [hx, Nat.succ_mul]; omega
  rw [e, List.take_length_add_append];have e2 : x.length + i * sz + y.length = x.length + (i * sz + y.length) := by omega
  rw [e2, List.drop_length_add_append];simp [List.append_assoc]
theorem flat_replicate (n : Nat) (zs : Array Value) : ((Array.range (n * zs.size)).map (fun i => zs[i % zs.size]!)).toList = (List.replicate n zs.toList).flatten := by
 apply List.ext_getElem?
 intro j
 by_cases hj : j < n * zs.size
 · have hpos : 0 < zs.size := by
    rcases Nat.eq_zero_or_pos zs.size with h | h
    · rw [h] at hj; simp at hj
    · exact h
   have hm : j % zs.size < zs.size := Nat.mod_lt _ hpos;have hd : j / zs.size < n := (Nat.div_lt_iff_lt_mul hpos).2 hj;have e := flatten_at (sz := zs.size) (List.replicate n zs.toList) (fun x hx => by rw [List.eq_of_mem_replicate hx]; simp) (j / zs.size) (j % zs.size) zs.toList (by simp [hd]) hm;rw [Nat.mul_comm, Nat.div_add_mod] at e;rw [e];simp [hj, hm]
 · have l1 : ((Array.range (n * zs.size)).map (fun i => zs[i % zs.size]!)).toList.length = n * zs.size := by simp
   have l2 : (List.replicate n zs.toList).flatten.length = n * zs.size := by simp
   rw [List.getElem?_eq_none (by omega), List.getElem?_eq_none (by omega)]
def fillE (sz : Nat) : List (List GVal) → List (Nat × GVal) → Option (List (List GVal))
 | xs, [] => some xs
 | xs, (i, g) :: r => if g.cells.length = sz ∧ i < xs.length then fillE sz (xs.set i g.cells) r else none
theorem fillE_fillG {sz : Nat} : ∀ (gs : List (Nat × GVal)) (xs out : List (List GVal)), (∀ x ∈ xs, x.length = sz) → fillE sz xs gs = some out →
 fillG (place (.inr sz)) xs.flatten gs = some out.flatten ∧ out.length = xs.length ∧ ∀ x ∈ out, x.length = sz
 | [], xs, out, h, hf => by simp [fillE] at hf; subst hf; exact ⟨rfl, rfl, h⟩
 | (i, g) :: r, xs, out, h, hf => by
  simp only [fillE] at hf;split at hf
  · rename_i hc;have h' : ∀ x ∈ xs.set i g.cells, x.length = sz := fun x hx => by
     rcases List.mem_or_eq_of_mem_set hx with h1 | h1
     · exact h x h1
     · rw [h1]; exact hc.1
    obtain ⟨e1, e2, e3⟩ := fillE_fillG r _ out h' hf;refine ⟨?_, by rw [e2]; simp, e3⟩;simp only [fillG, place];have hl : xs.flatten.length = xs.length * sz := flatten_len xs h;have : i * sz + sz ≤ xs.length * sz := by rw [← Nat.succ_mul]; exact Nat.mul_le_mul_right _ hc.2
    rw [if_pos ⟨hc.1, by omega⟩, splice_flatten xs i _ h hc.2 hc.1];exact e1
  · cases hf
def elt (P : Program) (t : TypeId) : Option (Nat × Nat × List GVal) :=
 match P.underlying t with
 | some (.slice e) => match P.info? e, zer P e with
  | some i, some cs => if cs.length = i.size then some (i.size, i.bytes, cs) else none
  | _, _ => none
 | _ => none
theorem elt_spec {t : TypeId} {sz by_ : Nat} {cs : List GVal} (h : elt P t = some (sz, by_, cs)) :
 ∃ e i z, P.underlying t = some (.slice e) ∧ P.info? e = some i ∧ i.size = sz ∧ i.bytes = by_ ∧ i.zero = some z ∧ cs = z.cells.toList.map .ofConst ∧ z.cells.size = sz := by
 unfold elt at h
 split at h
 · rename_i e hu;split at h
   · rename_i i cs' hi hz;split at h
     · rename_i hl;cases h;obtain ⟨i', z, hi', hzz, hcs⟩ := zer_spec hz;rw [hi] at hi'; cases hi';refine ⟨e, i, z, hu, hi, rfl, rfl, hzz, hcs, ?_⟩;rw [hcs] at hl; simpa using hl
     · cases h
   · cases h
 · cases h
def buildSliceV (P : Program) (t : TypeId) (len : Nat) (gs : List (Nat × GVal)) (K : GVal → Prop) : Prop :=
 match elt P t with
 | some (sz, _, cs) => len * sz ≤ 16777216 ∧ (∀ c ∈ cs, c.solid = true) ∧ (∀ p ∈ gs, p.2.okCells) ∧ match fillE sz (List.replicate len cs) gs with
  | some out => K (.slice out .full)
  | none => False
 | none => False
theorem buildSlice_sound {t : TypeId} {len : Nat} {gs : List (Nat × GVal)} {vs : Array (Nat × Value)} (h : HSim E O w) (hm : gs.map (·.1) = vs.toList.map (·.1))
 (hr : ∀ (i : Nat) g v, gs[i]? = some g → vs.toList[i]? = some v → VR E v.2 g.2)
 (hk : buildSliceV P t len gs (fun g => K g O)) : SOK P (Instr.buildSlice t len vs) E O w K := by
 unfold buildSliceV at hk
 cases he : elt P t with
 | none => simp [he] at hk
 | some q =>
  obtain ⟨sz, by_, cs⟩ := q;simp only [he] at hk;obtain ⟨hbig, hs, hok, hk⟩ := hk;obtain ⟨e, i, z, hu, hi, hsz, _, hzz, rfl, hzs⟩ := elt_spec he;split at hk
  · rename_i out hf;have hrep : ∀ x ∈ List.replicate len (z.cells.toList.map GVal.ofConst), x.length = sz := fun x hx => by rw [List.eq_of_mem_replicate hx]; simp [hzs]
    obtain ⟨f1, f2, f3⟩ := fillE_fillG gs _ out hrep hf;let a0 : Array Value := (Array.range (len * sz)).map (fun i => z.cells[i % z.cells.size]!);have ha0 : a0.toList = (List.replicate len z.cells.toList).flatten := by
     have := flat_replicate len z.cells;rw [hzs] at this;show ((Array.range (len * sz)).map (fun i => z.cells[i % z.cells.size]!)).toList = _;rw [hzs]; exact this
    have hcr : CellsR E a0 (List.replicate len (z.cells.toList.map GVal.ofConst)).flatten := by
     have e1 : (List.replicate len (z.cells.toList.map GVal.ofConst)).flatten = a0.toList.map GVal.ofConst := by
      rw [ha0, List.map_flatten, List.map_replicate]
     rw [e1];refine ⟨by simp, fun j c hj => ?_⟩;rw [List.getElem?_map] at hj;cases hx : a0.toList[j]? with
     | none => simp [hx] at hj
     | some x =>
      simp [hx] at hj;refine ⟨x, by simpa using hx, ?_, hj ▸ VR.ofConst E x⟩;have hxm : x ∈ a0.toList := List.mem_of_getElem? hx;rw [ha0] at hxm;obtain ⟨l, hl, hxl⟩ := List.mem_flatten.1 hxm;rw [List.eq_of_mem_replicate hl] at hxl;exact (VR.ofConst E x).one (hs _ (List.mem_map.2 ⟨x, hxl, rfl⟩))
    obtain ⟨b, hb, hbr⟩ := fill_sound (place (.inr sz)) gs vs.toList _ _ _ hcr hm hok hr f1;obtain ⟨g1, g2⟩ := h.sealNew b e (fun j x hx => by
     have hlt : j < out.flatten.length := by rw [← hbr.1]; exact (Array.getElem?_eq_some_iff.1 hx).1
     obtain ⟨x', hx', ho, _⟩ := hbr.2 j out.flatten[j] (by simp);rw [hx] at hx'; cases hx'; exact ho)
    have hlen : out.length = len := by rw [f2]; simp
    have hout := flatten_len out f3;refine ⟨.slice (some ⟨w.heap.size, 0, none⟩) len len, _, _, _, _, ?_, g1, g2,
     .slice _ _ _ out .full sz (fun j => b.getD j (.tuple #[])) hlen.symm (Nat.le_refl _) f3 (fun _ => ⟨w.heap.size, 0, rfl, fun j hj => ?_⟩) (fun j g hj => ?_) rfl, hk⟩
    · have e2 : (fun i => some (i * sz, sz)) = place (.inr sz) := rfl;have hbig' : ¬ (len * sz > 2 ^ 24) := by omega
      have hsize : (Go.sizeOf e).run P w = .ok sz w := by simp [Go.sizeOf, typeInfo, hi, hsz]
      unfold Instr.buildSlice;simp only [Sem.run_bind, run_underlying hu, Result.andThen_ok, hsize, Sem.run_ite, if_neg hbig', Sem.run_pure];have hzv : (zeroValue e).run P w = .ok z w := by simp [zeroValue, typeInfo, hi, hzz]
      by_cases h0 : len * sz = 0
      · have hc0 : (Array.range (len * sz)).map (fun x => (#[] : Array Value)[x % (#[] : Array Value).size]!) = a0 := by
         show _ = (Array.range (len * sz)).map _;rw [h0]; simp
        rw [if_pos h0, hc0, e2, hb];simp [newRow]
      · have hc1 : (Array.range (len * sz)).map (fun x => z.cells[x % z.cells.size]!) = a0 := rfl;rw [if_neg h0, hzv, Result.andThen_ok, hc1, e2, hb];simp [newRow]
    · have hj' : j < out.flatten.length := by rw [hout, hlen]; exact hj
      obtain ⟨x, hx, _⟩ := hbr.2 j out.flatten[j] (by simp);simp [Env.sealNew, Array.getD_eq_getD_getElem?, hx]
    · obtain ⟨x, hx, _, hv⟩ := hbr.2 j g hj;have e : b.getD j (.tuple #[]) = x := by simp [Array.getD_eq_getD_getElem?, hx]
      rw [e]; exact hv.mono g2.ext
  · exact hk.elim
def storeV (P : Program) (t : TypeId) (g v : GVal) (O : List GObj) (K : List GObj → Prop) : Prop :=
 match tab P t with
 | some (n, _) => v.okCells ∧ v.cells.length = n ∧ match g with
  | .ptr o st i j => match O[o]? with
   | some (.row st' sz xs) => st = st' ∧ i < xs.length ∧ j + n ≤ (xs.getD i []).length ∧ K (O.set o (.row st sz (xs.set i (splice (xs.getD i []) j v.cells))))
   | _ => False
  | _ => False
 | none => False
theorem splice_len {cs xs : List GVal} {j : Nat} (h : j + xs.length ≤ cs.length) : (splice cs j xs).length = cs.length := by
 simp only [splice, List.length_append, List.length_take, List.length_drop]; omega
theorem splice_at {cs xs : List GVal} {j k : Nat} (h : j + xs.length ≤ cs.length) :
 (splice cs j xs)[k]? = if j ≤ k ∧ k < j + xs.length then xs[k - j]? else cs[k]? := by
 unfold splice
 by_cases h1 : k < j
 · rw [if_neg (by omega), List.append_assoc, List.getElem?_append_left (by simp; omega), List.getElem?_take_of_lt h1]
 · by_cases h2 : k < j + xs.length
   · rw [if_pos ⟨by omega, h2⟩, List.append_assoc, List.getElem?_append_right (by simp; omega), List.getElem?_append_left (by simp; omega)]
     congr 1
     simp; omega
   · rw [if_neg (by omega), List.getElem?_append_right (by simp; omega), List.getElem?_drop]
     congr 1
     simp; omega
theorem flatten_set_at {sz : Nat} (xs : List (List GVal)) (hs : ∀ x ∈ xs, x.length = sz) {i : Nat} (hi : i < xs.length) (y : List GVal) (hy : y.length = sz) (k : Nat) :
 (xs.set i y).flatten[k]? = if i * sz ≤ k ∧ k < i * sz + sz then y[k - i * sz]? else xs.flatten[k]? := by
 rw [← splice_flatten xs i y hs hi hy]
 have hl := flatten_len xs hs
 have : i * sz + sz ≤ xs.length * sz := by rw [← Nat.succ_mul]; exact Nat.mul_le_mul_right _ hi
 rw [splice_at (by omega), hy]
theorem store_sound {t : TypeId} {r rv : Value} {g v : GVal} {KU : List GObj → Prop} (h : HSim E O w) (hr : VR E r g) (hv : VR E rv v) (hk : storeV P t g v O KU) :
 ∃ w' E' O', (Instr.storeAt t r rv).run P w = .ok () w' ∧ HSim E' O' w' ∧ Keep E O w E' O' w' ∧ KU O' := by
 unfold storeV at hk
 cases ht : tab P t with
 | none => simp [ht] at hk
 | some p =>
  obtain ⟨n, ag⟩ := p;simp only [ht] at hk;obtain ⟨hok, hn, hk⟩ := hk;obtain ⟨hcs, hcell⟩ := hv.cells hok;cases hr with
  | ptr b off o st i j l hl hb ho =>
   simp only at hk
   split at hk
   · rename_i st' sz xs hO;obtain ⟨rfl, hi, hjn, hk⟩ := hk;obtain ⟨l', hl', hls, hsz, hreal⟩ := h.real _ _ hO;rw [hl] at hl'; cases hl';simp only [hb] at hreal;obtain ⟨cur, el, hw, hcur, htot, hrows, hsnap⟩ := hreal;have hx : (xs.getD i []).length = sz := hsz _ (mem_getD hi);have hfl := flatten_len xs hsz;have hib : i * sz + sz ≤ xs.length * sz := by rw [← Nat.succ_mul]; exact Nat.mul_le_mul_right _ hi
     have hvl : rv.cells.toList.length = n := by simp [hcs, hn]
     have eoff : off = l.off + (i * sz + j) := by rw [ho, ← hls]; omega
     have hone : ∀ x ∈ rv.cells.toList, x.oneCell' = true := by
      intro x hx;obtain ⟨k, hk, rfl⟩ := List.mem_iff_getElem.1 hx;obtain ⟨y, hy, h1, _⟩ := hcell k v.cells[k] (by rw [List.getElem?_eq_getElem]);have : rv.cells[k]? = some rv.cells.toList[k] := by simp
      rw [this] at hy; cases hy; exact h1
     have hst := run_storeCells_at P b off el rv.cells.toList 0 cur w hw (by rw [hvl]; omega) hone;simp only [Nat.add_zero] at hst;have hrun : (Instr.storeAt t (.pointer (some ⟨b, off, none⟩)) rv).run P w = .ok () (w.setRow b (cur.toList.take off ++ rv.cells.toList ++ cur.toList.drop (off + rv.cells.toList.length)).toArray) := by
      simp only [Instr.storeAt, Instr.sureAddr, storeVar, Sem.run_bind, Sem.run_pure, Result.andThen_ok, (tab_spec ht w).1];rw [if_neg (by simp [hcs, hn])];exact hst
     let cur' : Array Value := (cur.toList.take off ++ rv.cells.toList ++ cur.toList.drop (off + rv.cells.toList.length)).toArray;have hat : ∀ k, cur'[k]? = if off ≤ k ∧ k < off + n then rv.cells[k - off]? else cur[k]? := by
      intro k;have hoffn : off + n ≤ cur.toList.length := by simp; omega
      show (cur.toList.take off ++ rv.cells.toList ++ cur.toList.drop (off + rv.cells.toList.length)).toArray[k]? = _;rw [List.getElem?_toArray];by_cases h1 : k < off
      · rw [if_neg (by omega), List.append_assoc, List.getElem?_append_left (by simp at hoffn ⊢; omega), List.getElem?_take_of_lt h1]; simp
      · by_cases h2 : k < off + n
        · rw [if_pos ⟨by omega, h2⟩, List.append_assoc, List.getElem?_append_right (by simp; omega), List.getElem?_append_left (by simp at hoffn hvl ⊢; omega)];have e : k - (List.take off cur.toList).length = k - off := by simp at hoffn ⊢; omega
          rw [e]; simp
        · rw [if_neg (by omega), List.getElem?_append_right (by simp at hoffn hvl ⊢; omega), List.getElem?_drop];have e : off + rv.cells.toList.length + (k - (List.take off cur.toList ++ rv.cells.toList).length) = k := by simp at hoffn hvl ⊢; omega
          rw [e]; simp
     have hcur' : cur'.size = cur.size := by
      show (cur.toList.take off ++ rv.cells.toList ++ cur.toList.drop (off + rv.cells.toList.length)).toArray.size = _;have hoffn : off + n ≤ cur.toList.length := by simp; omega
      simp at hoffn hvl ⊢; omega
     have hw' := setRow_heap w b cur cur' el (0, 0) hw;have hblk : (GObj.row st sz xs).blk E = some b := by simp [GObj.blk, hl, hb]
     have hsp : (splice (xs.getD i []) j v.cells).length = sz := by rw [splice_len (by omega), hx]
     obtain ⟨h1, h2⟩ := h.upd (E' := E) (w' := w.setRow b cur') (obj' := .row st sz (xs.set i (splice (xs.getD i []) j v.cells))) hO (.inl hblk) (.inl rfl) (.refl E) h.fin ⟨rfl, rfl⟩ rfl ⟨rfl, trivial⟩ (by simp)
      (fun k _ hk => setRow_other w b k cur' hk) (fun _ _ _ _ hs => hs) (fun o v hs => by rw [hsnap o] at hs; cases hs)
      ⟨l, hl, hls, fun x hx' => (by
       rcases List.mem_or_eq_of_mem_set hx' with h1 | h1
       · exact hsz x h1
       · rw [h1]; exact hsp), by
       simp only [hb];refine ⟨cur', el, hw', by rw [hcur', hcur], by simpa using htot, fun k c hc => ?_, hsnap⟩;rw [flatten_set_at xs hsz hi _ hsp] at hc;rw [hat];by_cases hin : i * sz ≤ k ∧ k < i * sz + sz
       · rw [if_pos hin, splice_at (by omega)] at hc;by_cases hin2 : j ≤ k - i * sz ∧ k - i * sz < j + v.cells.length
         · rw [if_pos hin2] at hc;obtain ⟨x, hxx, h1, hxr⟩ := hcell _ c hc;rw [if_pos ⟨by omega, by omega⟩];have e : l.off + k - off = k - i * sz - j := by omega
           rw [e];exact ⟨x, hxx, h1, hxr⟩
         · rw [if_neg hin2] at hc;rw [if_neg (by omega)];obtain ⟨x, hxx, hxr⟩ := row_cell hrows hsz hi hc;have e : i * sz + (k - i * sz) = k := by omega
           rw [e] at hxx;exact ⟨x, hxx, hxr⟩
       · rw [if_neg hin] at hc;rw [if_neg (by omega)];exact hrows k c hc⟩
      (fun k hk => by simpa [GObj.blk, hl, hb] using hk.symm)
     exact ⟨_, _, _, hrun, h1, h2, hk⟩
   · exact hk.elim
  | _ => exact hk.elim
end
end Gv
namespace Gv
open Go
section
variable {P : Program} {E : Env} {O : List GObj} {w : World}
def clearV (P : Program) (t : TypeId) (x : GVal) (O : List GObj) (K : List GObj → Prop) : Prop :=
 match elt P t with
 | some (sz, _, cs) => (∀ c ∈ cs, c.solid = true) ∧ match x with
  | .own o st i len => match O[o]? with
   | some (.row st' s xs) => st = st' ∧ s = sz ∧ K (O.set o (.row st sz (xs.take i)))
   | _ => False
  | _ => False
 | none => False
theorem take_flat {sz : Nat} : ∀ {xs : List (List GVal)}, (∀ x ∈ xs, x.length = sz) → ∀ (i k : Nat) (c : GVal), (xs.take i).flatten[k]? = some c → k < i * sz ∧ xs.flatten[k]? = some c
 | [], _, i, k, c, h => by simp at h
 | x :: r, hs, 0, k, c, h => by simp at h
 | x :: r, hs, i + 1, k, c, h => by
  have hx : x.length = sz := hs x (by simp);simp only [List.take_succ_cons, List.flatten_cons] at h ⊢;rw [Nat.succ_mul];by_cases hk : k < x.length
  · rw [List.getElem?_append_left hk] at h ⊢;exact ⟨by omega, h⟩
  · rw [List.getElem?_append_right (by omega)] at h ⊢;obtain ⟨h1, h2⟩ := take_flat (fun y hy => hs y (by simp [hy])) i _ c h;exact ⟨by omega, h2⟩
theorem clear_sound {t ty : TypeId} {r : Value} {x : GVal} {KU : List GObj → Prop} (h : HSim E O w) (hr : VR E r x) (hk : clearV P t x O KU) :
 ∃ w' E' O', (Builtin.clear_ #[t] ty #[r]).run P w = .ok (.tuple #[]) w' ∧ HSim E' O' w' ∧ Keep E O w E' O' w' ∧ KU O' := by
 unfold clearV at hk
 cases he : elt P t with
 | none => simp [he] at hk
 | some q =>
  obtain ⟨sz, by_, cs⟩ := q;simp only [he] at hk;obtain ⟨hs, hk⟩ := hk;obtain ⟨e, i0, z, hu, hi, hsz, _, hzz, rfl, hzs⟩ := elt_spec he;cases hr with
  | own a len cap o st i l hl hcap ha =>
   simp only at hk
   split at hk
   · rename_i st' s xs hO;obtain ⟨rfl, rfl, hk⟩ := hk;obtain ⟨l', hl', hls, hsx, hreal⟩ := h.real _ _ hO;rw [hl] at hl'; cases hl';have hsx' : ∀ x ∈ xs.take i, x.length = s := fun x hx => hsx x (List.mem_of_mem_take hx)
     by_cases h0 : a = none ∨ len = 0
     · have hrun : (Builtin.clear_ #[t] ty #[.slice a len cap]).run P w = .ok (.tuple #[]) w := by
        unfold Builtin.clear_;rcases h0 with rfl | rfl
        · simp [run_underlying hu]
        · cases a <;> simp [run_underlying hu]
       cases hb : l.block with
       | none =>
        simp only [hb] at hreal;subst hreal;have e1 : O.set o (.row st s (List.take i [])) = O := by
         rw [List.take_nil];refine List.ext_getElem? fun n => ?_;rw [List.getElem?_set];have hlt := (List.getElem?_eq_some_iff.1 hO).1;split
         · rename_i e; subst e; exact hO.symm
         · rfl
        rw [e1] at hk;exact ⟨w, E, O, hrun, h, .refl E O w, hk⟩
       | some b =>
        simp only [hb] at hreal;obtain ⟨cur, el, hw, hcur, htot, hrows, hsnap⟩ := hreal;have hblk : (GObj.row st s xs).blk E = some b := by simp [GObj.blk, hl, hb]
        obtain ⟨h1, h2⟩ := h.upd (E' := E) (w' := w) (obj' := .row st s (xs.take i)) hO (.inl hblk) (.inl rfl) (.refl E) h.fin ⟨rfl, rfl⟩ rfl ⟨rfl, trivial⟩ (by simp)
         (fun k _ hk => rfl) (fun _ _ _ _ hs => hs) (fun o v hs => by rw [hsnap o] at hs; cases hs)
         ⟨l, hl, hls, hsx', by
          simp only [hb];refine ⟨cur, el, hw, hcur, ?_, fun k c hc => hrows k c (take_flat hsx i k c hc).2, hsnap⟩;refine Nat.le_trans ?_ htot;have : (xs.take i).length * s ≤ xs.length * s := Nat.mul_le_mul_right _ (by simp; omega);omega⟩
         (fun k hk => by simpa [GObj.blk, hl, hb] using hk.symm)
        exact ⟨_, _, _, hrun, h1, h2, hk⟩
     · obtain ⟨hna, hnl⟩ := not_or.1 h0;rcases ha with hc0 | ⟨b, hb, rfl, htt⟩
       · omega
       simp only [hb] at hreal;obtain ⟨cur, el, hw, hcur, htot, hrows, hsnap⟩ := hreal;let zs : List Value := (Builtin.zeroCells z.cells len).toList;have hzl : zs.length = len * s := by
        show (Builtin.zeroCells z.cells len).toList.length = _;simp [Builtin.zeroCells, hzs]
       have hone : ∀ x ∈ zs, x.oneCell' = true := by
        intro x hx;have hx' : x ∈ (Builtin.zeroCells z.cells len).toList := hx;simp only [Builtin.zeroCells, Array.mem_toList_iff, Array.mem_map, Array.mem_range] at hx';obtain ⟨j, hj, rfl⟩ := hx';have hp : 0 < z.cells.size := by
         rcases Nat.eq_zero_or_pos z.cells.size with h3 | h3
         · rw [h3] at hj; omega
         · exact h3
        have hm : j % z.cells.size < z.cells.size := Nat.mod_lt _ hp;rw [getElem!_pos z.cells _ hm];have hmem : z.cells[j % z.cells.size] ∈ z.cells.toList := by simp
        exact (VR.ofConst E _).one (hs _ (List.mem_map.2 ⟨_, hmem, rfl⟩))
       have hcl : len * s ≤ cap * s := Nat.mul_le_mul_right _ hcap;have hoff : l.off + i * l.size + zs.length ≤ cur.size := by rw [hzl, hcur, hls]; rw [hls] at htt; omega
       have hst := run_storeCells_at P b (l.off + i * l.size) el zs 0 cur w hw (by omega) hone;simp only [Nat.add_zero] at hst;have hzv : (zeroValue e).run P w = .ok z w := by simp [zeroValue, typeInfo, hi, hzz]
       have hrun : (Builtin.clear_ #[t] ty #[.slice (some ⟨b, l.off + i * l.size, none⟩) len cap]).run P w = .ok (.tuple #[]) (w.setRow b (cur.toList.take (l.off + i * l.size) ++ zs ++ cur.toList.drop (l.off + i * l.size + zs.length)).toArray) := by
        unfold Builtin.clear_;obtain ⟨m, rfl⟩ : ∃ m, len = m + 1 := ⟨len - 1, by omega⟩
        have hst' : (storeCells ⟨b, l.off + i * l.size, none⟩ (Builtin.zeroCells z.cells (m + 1)).toList).run P w = .ok () (w.setRow b (cur.toList.take (l.off + i * l.size) ++ zs ++ cur.toList.drop (l.off + i * l.size + zs.length)).toArray) := hst;simp [run_underlying hu, hzv, hst']
       let cur' : Array Value := (cur.toList.take (l.off + i * l.size) ++ zs ++ cur.toList.drop (l.off + i * l.size + zs.length)).toArray;have hat : ∀ k, k < l.off + i * l.size → cur'[k]? = cur[k]? := by
        intro k hk;show (cur.toList.take (l.off + i * l.size) ++ zs ++ cur.toList.drop (l.off + i * l.size + zs.length)).toArray[k]? = _;rw [List.getElem?_toArray, List.append_assoc, List.getElem?_append_left (by simp; omega), List.getElem?_take_of_lt hk]; simp
       have hcur' : cur'.size = cur.size := by
        show (cur.toList.take (l.off + i * l.size) ++ zs ++ cur.toList.drop (l.off + i * l.size + zs.length)).toArray.size = _;simp; omega
       have hw' := setRow_heap w b cur cur' el (0, 0) hw;have hblk : (GObj.row st s xs).blk E = some b := by simp [GObj.blk, hl, hb]
       obtain ⟨h1, h2⟩ := h.upd (E' := E) (w' := w.setRow b cur') (obj' := .row st s (xs.take i)) hO (.inl hblk) (.inl rfl) (.refl E) h.fin ⟨rfl, rfl⟩ rfl ⟨rfl, trivial⟩ (by simp)
        (fun k _ hk => setRow_other w b k cur' hk) (fun _ _ _ _ hs => hs) (fun o v hs => by rw [hsnap o] at hs; cases hs)
        ⟨l, hl, hls, hsx', by
         simp only [hb];refine ⟨cur', el, hw', by rw [hcur', hcur], ?_, fun k c hc => ?_, hsnap⟩
         · refine Nat.le_trans ?_ htot;have : (xs.take i).length * s ≤ xs.length * s := Nat.mul_le_mul_right _ (by simp; omega);omega
         · obtain ⟨h3, h4⟩ := take_flat hsx i k c hc;rw [hat _ (by rw [hls]; omega)];exact hrows k c h4⟩
        (fun k hk => by simpa [GObj.blk, hl, hb] using hk.symm)
       exact ⟨_, _, _, hrun, h1, h2, hk⟩
   · exact hk.elim
  | _ => exact hk.elim
end
end Gv
namespace Gv
open Go
section
variable {P : Program} {E : Env} {O : List GObj} {w : World} {K : GVal → List GObj → Prop}
def makeSliceV (P : Program) (t : TypeId) (l c : GVal) (O : List GObj) (K : GVal → List GObj → Prop) : Prop :=
 match elt P t with
 | some (sz, by_, cs) => match l, c with
  | .int _ n, .int _ m => n = m ∧ 0 ≤ n ∧ (by_ : Int) * n ≤ 140737488355328 ∧ n ≤ 4611686018427387904 ∧ (∀ x ∈ cs, x.solid = true) ∧ stamp O fun st => K (.own O.length st 0 n.toNat) (tickO O ++ [.row st sz (List.replicate n.toNat cs)])
  | _, _ => False
 | none => False
theorem flatten_rep {α : Type} (cs : List α) : ∀ (n j : Nat), (List.replicate n cs).flatten[j]? = if j < n * cs.length then cs[j % cs.length]? else none
 | 0, j => by simp
 | n + 1, j => by
  rw [List.replicate_succ, List.flatten_cons];by_cases h : j < cs.length
  · rw [List.getElem?_append_left h, Nat.mod_eq_of_lt h, if_pos (by rw [Nat.succ_mul]; omega)]
  · rw [List.getElem?_append_right (by omega), flatten_rep cs n];have e : j % cs.length = (j - cs.length) % cs.length := (Nat.mod_eq_sub_mod (by omega))
    rw [e, Nat.succ_mul];by_cases h2 : j - cs.length < n * cs.length
    · rw [if_pos h2, if_pos (by omega)]
    · rw [if_neg h2, if_neg (by omega)]
theorem makeSlice_sound {t : TypeId} {l c : Value} {gl gc : GVal} (h : HSim E O w) (hl : VR E l gl) (hc : VR E c gc) (hk : makeSliceV P t gl gc O K) : SOK P (Instr.makeSlice t l c) E O w K := by
 unfold makeSliceV at hk
 cases he : elt P t with
 | none => simp [he] at hk
 | some q =>
  obtain ⟨sz, by_, cs⟩ := q;simp only [he] at hk;split at hk
  · rename_i k1 n k2 m;cases hl;cases hc;obtain ⟨rfl, h0, hb, h63, hsol, hk⟩ := hk;obtain ⟨e, i, z, hu, hi, hs, hby, hzz, hcs, hzs⟩ := elt_spec he;have hcl : cs.length = sz := by rw [hcs, ← hzs]; simp
    have hrun := run_make (P := P) w t e i z hu hi hzz k1 k2 n n h0 (Int.le_refl _) (by rw [hby]; omega) (by omega);obtain ⟨st, hk, hst, hnx, h, hkeep⟩ := h.stamp hk
    rw [← tickO_len O] at hk;have hle := Env.addLoc_le ⟨some w.heap.size, 0, sz, n.toNat * sz⟩ hst;obtain ⟨h1, h2⟩ := h.objNew (.cells (madeCells z.cells (n.toNat * i.size)) e) (.row st sz (List.replicate n.toNat cs)) (l := ⟨some w.heap.size, 0, sz, n.toNat * sz⟩) hst hnx rfl trivial rfl
     ⟨_, Env.addLoc_self _ _ _, rfl, fun x hx => by rw [(List.mem_replicate.1 hx).2, hcl], madeCells z.cells (n.toNat * i.size), e, alloc_new _ _, by rw [size_madeCells, hs], by simp, fun j g hj => (by
      rw [flatten_rep, hcl] at hj;split at hj
      · rename_i hlt;have hpos : 0 < sz := by
         refine Nat.pos_of_ne_zero fun e => ?_;rw [e, Nat.mul_zero] at hlt; omega
        rw [hcs] at hj;obtain ⟨x, hx, hr, hg⟩ := zeros_at E z _ g hj;refine ⟨x, ?_, hr.one (hsol g ?_), hr.mono hle⟩
        · have hm : j % sz < z.cells.size := by rw [hzs]; exact Nat.mod_lt _ hpos
          have : z.cells[j % sz]! = x := by
           rw [getElem!_pos z.cells _ hm];have := hx;rw [Array.getElem?_eq_getElem hm] at this;exact Option.some.inj this
          simp only [Nat.zero_add, madeCells, Array.getElem?_map, hs, hzs];rw [Array.getElem?_eq_getElem (by simpa using hlt)];simp [this]
        · rw [hcs]; exact List.mem_of_getElem? hj
      · cases hj), fun o => h.snap_new (Nat.le_refl _)⟩
     (by simp [GObj.blk, Env.addLoc_self])
    exact ⟨_, _, _, _, .own (tickO O).length st 0 n.toNat, hrun, h1, hkeep.trans h2, .own _ _ _ _ st 0 _ (Env.addLoc_self _ _ _) (Nat.le_refl _) (.inr ⟨w.heap.size, rfl, by simp, by simp⟩), hk⟩
  · exact hk.elim
end
end Gv
