/- One operation of a region: what it comes to, and that it does. -/
import Derived.Test.YtcjiabpfahmjnaaGvArith
import Derived.Test.YtcjiabpfahmjnaaGvMap
set_option linter.unusedVariables false
namespace Gv
open Go

structure GSt where
  s : List GVal
  o : List GObj

def sget (s : List GVal) (t : Nat) : GVal := s.getD t .any
theorem sget_zero (x : GVal) (r : List GVal) : sget (x :: r) 0 = x := rfl
theorem sget_succ (x : GVal) (r : List GVal) (n : Nat) : sget (x :: r) (n + 1) = sget r n := by simp [sget]

def GSt.ev (st : GSt) : Operand → GVal
  | .tmp t => sget st.s t
  | .const v => .ofConst v
  | .global g => .lit (.pointer (some ⟨g, 0, none⟩))
  | .func f => .func (.func f) [] []

def GSt.put (st : GSt) (d : Option Nat) (g : GVal) (O' : List GObj) : GSt :=
  match d with
  | some d => ⟨st.s.set d g, O'⟩
  | none => ⟨st.s, O'⟩

structure SlotsR (E : Env) (a : Act) (s : List GVal) : Prop where
  size : a.tmps.size = s.length
  defers : a.defers = []
  at_ : ∀ (i : Nat) g, s[i]? = some g → VR E (a.tmps.getD i undef) g

theorem SlotsR.mono {E E' : Env} (h : E.le E') {a : Act} {s : List GVal} (k : SlotsR E a s) : SlotsR E' a s := ⟨k.size, k.defers, fun i g hg => (k.at_ i g hg).mono h⟩

theorem SlotsR.ev {E : Env} {a : Act} {st : GSt} (h : SlotsR E a st.s) (x : Operand) : VR E (a.eval x) (st.ev x) := by
  cases x with
  | tmp t =>
    show VR E (a.tmps.getD t undef) (st.s.getD t .any)
    by_cases ht : t < st.s.length
    · exact h.at_ t _ (getD_of ht)
    · have : st.s.getD t .any = .any := by simp [List.getD, List.getElem?_eq_none (Nat.le_of_not_lt ht)]
      rw [this]; exact .any _
  | const v => exact VR.ofConst E v
  | global g => exact .lit _
  | func f => exact .func _ _ _ _ _ rfl rfl (by simp) (by simp)

theorem SlotsR.put {E E' : Env} {a : Act} {st : GSt} (h : SlotsR E a st.s) (hE : E.le E') {d : Option Nat} {v : Value} {g : GVal} (hv : VR E' v g) (O' : List GObj) : SlotsR E' (a.put d v) (st.put d g O').s := by
  cases d with
  | none => exact h.mono hE
  | some d =>
    refine ⟨by simp [Act.put, GSt.put, h.size], h.defers, fun i g' hg => ?_⟩
    simp only [GSt.put, List.getElem?_set] at hg
    simp only [Act.put, Array.getD_eq_getD_getElem?, Array.getElem?_setIfInBounds]
    by_cases hd : d = i
    · subst hd
      rw [if_pos rfl] at hg
      split at hg
      · rename_i hlt
        simp only [Option.some.injEq] at hg
        subst hg
        have : d < a.tmps.size := by rw [h.size]; exact hlt
        simpa [this] using hv
      · cases hg
    · rw [if_neg hd] at hg ⊢
      have := h.at_ i g' hg
      simpa [Array.getD_eq_getD_getElem?] using this.mono hE

theorem GSt.put_o (st : GSt) (d : Option Nat) (g : GVal) (O' : List GObj) : (st.put d g O').o = O' := by cases d <;> rfl

/-- may a call go in? -/
def enterable (P : Program) (f : FuncId) : Bool :=
  match P.funcs[f]? with
  | some fn => fn.body.isSome && fn.name != "runtime.NumGoroutine"
  | none => false

theorem enterable_run {P : Program} {f : FuncId} (h : enterable P f = true) (args : Array Value) (w : World) : (callFunc f args).run P w = .ok (.enter f args) w := by
  unfold enterable at h
  cases hf : P.funcs[f]? with
  | none => simp [hf] at h
  | some fn =>
    simp only [hf, Bool.and_eq_true, bne_iff_ne] at h
    cases hb : fn.body with
    | none => simp [hb] at h
    | some c => simp [callFunc, hf, h.2, hb]

def ArgsR (E : Env) (vs : Array Value) (gs : List GVal) : Prop := vs.size = gs.length ∧ ∀ (i : Nat) g, gs[i]? = some g → VR E (vs.getD i undef) g

/-- A CALL'S CONTRACT OVER GHOST VALUES -/
def GCalls (P : Program) (f : FuncId) (args : List GVal) (O : List GObj) (K : GVal → List GObj → Prop) : Prop :=
  enterable P f = true ∧ ∀ E w vs, HSim E O w → ArgsR E vs args →
    Calls P f vs w fun e w' => ∃ v E' O' g, e = .returned v ∧ HSim E' O' w' ∧ Keep E O w E' O' w' ∧ VR E' v g ∧ K g O'

theorem GCalls.mono {P : Program} {f : FuncId} {args : List GVal} {O : List GObj} {K K' : GVal → List GObj → Prop} (h : GCalls P f args O K) (hk : ∀ g O', K g O' → K' g O') : GCalls P f args O K' :=
  ⟨h.1, fun E w vs hs ha => (h.2 E w vs hs ha).mono fun e w' ⟨v, E', O', g, h1, h2, h3, h4, h5⟩ => ⟨v, E', O', g, h1, h2, h3, h4, hk _ _ h5⟩⟩

def nilV (g : GVal) (K : GVal → Prop) : Prop :=
  match g with
  | .ptr _ _ _ _ => K g
  | .ref _ => K g
  | .func (.func _) _ _ => K g
  | .iface _ _ => K g
  | _ => False

def callV (P : Program) (ow : Bool) (st : GSt) (c : Call) (K : GVal → List GObj → Prop) : Prop :=
  match c.callee with
  | .builtin b => match b, c.argTypes.toList, c.args.toList with
    | .len, [t], [x] => lenV P t (st.ev x) st.o (fun g => K g st.o)
    | .append, [t, u], [x, y] => appendV P ow t u (st.ev x) (st.ev y) st.o K
    | .min, _, [x, y] => minV false [st.ev x, st.ev y] (fun g => K g st.o)
    | .max, _, [x, y] => minV true [st.ev x, st.ev y] (fun g => K g st.o)
    | .delete, [t, u], [x, y] => deleteV P t (st.ev x) (st.ev y) st.o (fun O' => K (.tuple []) O')
    | .cap, [t], [x] => capV P t (st.ev x) (fun g => K g st.o)
    | _, _, _ => False
  | .value f => match st.ev f with
    | .func (.func n) first caps => GCalls P n (first ++ c.args.toList.map st.ev ++ caps) st.o K
    | _ => False
  | _ => False

/-- two ways, told by a bool -/
theorem gcase {b want : Bool} {p q : Prop} : (if b = want then (b = want → p) else (b = (!want) → q)) ↔ ((b = want → p) ∧ (b = (!want) → q)) := by
  cases b <;> cases want <;> simp
/-- one of two ways -/
def gif (b : Bool) (p q : Prop) : Prop := match b with
  | true => p
  | false => q
theorem gif_iff {b : Bool} {p q : Prop} : gif b p q ↔ ((b = true → p) ∧ (b = false → q)) := by cases b <;> simp [gif]
theorem gcase1 {b : Bool} {p q : Prop} : (if b = true then (b = true → p) else (b = false → q)) ↔ ((b = true → p) ∧ (b = false → q)) := gcase (want := true)

def optV (st : GSt) : Option Operand → Option GVal
  | none => none
  | some x => some (st.ev x)

def opv (P : Program) (R : List Nat) (st : GSt) (o : Oper) (K : GVal → List GObj → Prop) : Prop :=
  match o.op with
  | .move x => K (st.ev x) st.o
  | .assign x => K (st.ev x) st.o
  | .pick c a b => match st.ev c with
    | .bool t => gif t (K (st.ev a) st.o) (K (st.ev b) st.o)
    | _ => False
  | .binOp op t x y _ => binV P op t (st.ev x) (st.ev y) (fun g => K g st.o)
  | .unOp op _ x => unV op (st.ev x) (fun g => K g st.o)
  | .convert s d x => convV P s d (st.ev x) (fun g => K g st.o)
  | .load t x => loadV P t (st.ev x) st.o (fun g => K g st.o)
  | .store t x y => storeV P t (st.ev x) (st.ev y) st.o (fun O' => K .any O')
  | .fieldAddr s x f => fieldAddrV P s (st.ev x) f (fun g => K g st.o)
  | .field s x f => fieldV P s (st.ev x) f (fun g => K g st.o)
  | .indexAddr t x i => indexAddrV P t (st.ev x) (st.ev i) st.o (fun g => K g st.o)
  | .index t x i => indexV P t (st.ev x) (st.ev i) (fun g => K g st.o)
  | .extract x i => extractV (st.ev x) i (fun g => K g st.o)
  | .alloc t => allocV P t st.o K
  | .lookup t x y ok => lookupV P t (st.ev x) (st.ev y) ok st.o (fun g => K g st.o)
  | .mapUpdate t x y z => mapUpdateV P t (st.ev x) (st.ev y) (st.ev z) st.o (fun O' => K .any O')
  | .insert t x y z => mapUpdateV P t (st.ev x) (st.ev y) (st.ev z) st.o (fun O' => K .any O')
  | .makeMap t r => match r with
    | none => makeMapV st.o K
    | some _ => False
  | .box _ x => boxV (match o.dst with | some d => R.contains d | none => false) (st.ev x) st.o K
  | .build t ps => buildV P t (ps.toList.map fun p => (p.1, st.ev p.2)) (fun g => K g st.o)
  | .buildSlice t n ps => buildSliceV P t n (ps.toList.map fun p => (p.1, st.ev p.2)) (fun g => K g st.o)
  | .slice t x lo hi mx => sliceV P t (st.ev x) (optV st lo) (optV st hi) (optV st mx) st.o (fun g => K g st.o)
  | .nilCheck x => nilV (st.ev x) (fun g => K g st.o)
  | .makeInterface t x => ifaceV P t (st.ev x) (fun g => K g st.o)
  | .makeFunc fn fs cs => K (.func fn (fs.toList.map st.ev) (cs.toList.map st.ev)) st.o
  | .call c => callV P (match o.dst with | some d => R.contains d | none => false) st c K
  | _ => False

section
variable {P : Program} {E : Env} {w : World} {K : GVal → List GObj → Prop} {st : GSt} {a : Act} {o : Oper} {next : Act → World → Prop} {Q : Exit → Act → World → Prop}

def Nexts (o : Oper) (a : Act) (w : World) (E : Env) (st : GSt) (K : GVal → List GObj → Prop) (next : Act → World → Prop) : Prop :=
  ∀ v w' E' O' g, HSim E' O' w' → Keep E st.o w E' O' w' → VR E' v g → K g O' → next (a.put o.dst v) w'

theorem wp_of_SOK {s : Sem Value} (hs : SOK P s E st.o w K) (he : execOp a.eval o = (do pure (.value (← s)) : Sem Next)) (hn : Nexts o a w E st K next) : o.wp P a w next Q := by
  obtain ⟨v, w', E', O', g, hrun, h1, h2, h3, h4⟩ := hs
  unfold Oper.wp
  rw [he]
  simp only [Sem.run_bind, hrun, Result.andThen_ok, Sem.run_pure, Oper.upon_value]
  exact hn v w' E' O' g h1 h2 h3 h4

theorem parts_R (ha : SlotsR E a st.s) (ps : Array (Nat × Operand)) :
    (ps.toList.map fun p => (p.1, st.ev p.2)).map (·.1) = (ps.map fun (i, x) => (i, a.eval x)).toList.map (·.1) ∧
    ∀ (i : Nat) g v, (ps.toList.map fun p => (p.1, st.ev p.2))[i]? = some g → (ps.map fun (i, x) => (i, a.eval x)).toList[i]? = some v → VR E v.2 g.2 := by
  constructor
  · simp
  · intro i g v hg hv
    rw [List.getElem?_map] at hg
    rw [Array.toList_map, List.getElem?_map] at hv
    cases hp : ps.toList[i]? with
    | none => simp [hp] at hg
    | some p =>
      simp [hp] at hg hv
      subst hg; subst hv
      exact ha.ev _

theorem opt_R (ha : SlotsR E a st.s) (x : Option Operand) : OptR E (x.map a.eval) (optV st x) := by
  cases x with
  | none => trivial
  | some x => exact ha.ev x

theorem args_R (ha : SlotsR E a st.s) (xs : Array Operand) : ArgsR E (xs.map a.eval) (xs.toList.map st.ev) := by
  refine ⟨by simp, fun i g hg => ?_⟩
  rw [List.getElem?_map] at hg
  cases hp : xs.toList[i]? with
  | none => simp [hp] at hg
  | some p =>
    simp [hp] at hg
    subst hg
    have : xs[i]? = some p := by simpa using hp
    have e : (xs.map a.eval).getD i undef = a.eval p := by simp [Array.getD_eq_getD_getElem?, this]
    rw [e]; exact ha.ev p

theorem ArgsR.append {vs us : Array Value} {gs hs : List GVal} (h : ArgsR E vs gs) (k : ArgsR E us hs) : ArgsR E (vs ++ us) (gs ++ hs) := by
  refine ⟨by simp [h.1, k.1], fun i g hg => ?_⟩
  by_cases hi : i < gs.length
  · rw [List.getElem?_append_left hi] at hg
    have e : (vs ++ us).getD i undef = vs.getD i undef := by
      simp only [Array.getD_eq_getD_getElem?]; rw [Array.getElem?_append_left (by rw [h.1]; exact hi)]
    rw [e]; exact h.2 i g hg
  · rw [List.getElem?_append_right (by omega)] at hg
    have e : (vs ++ us).getD i undef = us.getD (i - gs.length) undef := by
      simp only [Array.getD_eq_getD_getElem?]; rw [Array.getElem?_append_right (by rw [h.1]; omega), h.1]
    rw [e]; exact k.2 _ g hg

theorem toList_one {α : Type} {a : Array α} {x : α} (h : a.toList = [x]) : a = #[x] := by apply Array.ext'; simpa using h
theorem toList_two {α : Type} {a : Array α} {x y : α} (h : a.toList = [x, y]) : a = #[x, y] := by apply Array.ext'; simpa using h

theorem call_sound {c : Call} {ow : Bool} {ty : TypeId} (h : HSim E st.o w) (ha : SlotsR E a st.s) (hk : callV P ow st c K) (ho : o.op = .call c) (hn : Nexts o a w E st K next) : o.wp P a w next Q := by
  have hex : execOp a.eval o = (do let d ← resolve a.eval c o.type; invoke d.target d.args : Sem Next) := by unfold execOp; rw [ho]
  unfold callV at hk
  obtain ⟨callee, args, argTypes⟩ := c
  cases callee with
  | builtin b =>
    simp only at hk
    have hbi : ∀ (s : Sem Value), builtin b argTypes o.type (args.map fun | .const _ => true | _ => false) (args.map a.eval) = (do pure (.value (← s)) : Sem Next) → SOK P s E st.o w K → o.wp P a w next Q := by
      intro s hs hok
      refine wp_of_SOK hok ?_ hn
      rw [hex]
      simp only [resolve, invoke]
      exact hs
    split at hk
    · rename_i t x h1 h2
      rw [toList_one h1, toList_one h2] at hbi
      exact hbi (Builtin.len_ #[t] o.type #[a.eval x]) (by simp [builtin]) (len_sound h (ha.ev x) hk)
    · rename_i t u x y h1 h2
      rw [toList_two h1, toList_two h2] at hbi
      exact hbi (Builtin.append_ #[t, u] o.type #[a.eval x, a.eval y]) (by simp [builtin]) (append_sound h (ha.ev x) (ha.ev y) hk)
    · rename_i x y h2
      rw [toList_two h2] at hbi
      exact hbi (Builtin.min_ argTypes o.type #[a.eval x, a.eval y]) (by simp [builtin]) (min_sound (mx := false) h (ha.ev x) (ha.ev y) hk)
    · rename_i x y h2
      rw [toList_two h2] at hbi
      exact hbi (Builtin.max_ argTypes o.type #[a.eval x, a.eval y]) (by simp [builtin]) (min_sound (mx := true) h (ha.ev x) (ha.ev y) hk)
    · rename_i t u x y h1 h2
      rw [toList_two h1, toList_two h2] at hbi
      obtain ⟨w', E', O', g1, g2, g3, g4⟩ := delete_sound (ty := o.type) u h (ha.ev x) (ha.ev y) hk
      exact hbi (Builtin.delete_ #[t, u] o.type #[a.eval x, a.eval y]) (by simp [builtin]) ⟨_, w', E', O', _, g1, g2, g3, .tuple #[] [] rfl (by simp), g4⟩
    · rename_i t x h1 h2
      rw [toList_one h1, toList_one h2] at hbi
      exact hbi (Builtin.cap_ #[t] o.type #[a.eval x]) (by simp [builtin]) (cap_sound h (ha.ev x) hk)
    · exact hk.elim
  | value f =>
    simp only at hk
    have hf := ha.ev f
    split at hk
    · rename_i n first caps hfe
      rw [hfe] at hf
      generalize hfv : a.eval f = fv at hf
      cases hf with
      | func fn fs cs gs ks hfs hks hfs2 hks2 =>
        unfold Oper.wp
        rw [hex]
        have hrun : (do let d ← resolve a.eval ⟨.value f, args, argTypes⟩ o.type; invoke d.target d.args : Sem Next).run P w = .ok (.enter n (fs ++ args.map a.eval ++ cs)) w := by
          simp only [resolve, hfv, Deferred.ofValue, Sem.run_bind, Sem.run_pure, Result.andThen_ok, invoke]
          exact enterable_run hk.1 _ w
        rw [hrun, Oper.upon_enter]
        have hargs : ArgsR E (fs ++ args.map a.eval ++ cs) (first ++ args.toList.map st.ev ++ caps) :=
          (ArgsR.append (ArgsR.append ⟨hfs, fun i g hg => hfs2 i g hg⟩ (args_R ha args)) ⟨hks, fun i g hg => hks2 i g hg⟩)
        refine (hk.2 E w _ h hargs).mono fun e w' he => ?_
        obtain ⟨v, E', O', g, rfl, h1, h2, h3, h4⟩ := he
        exact hn v w' E' O' g h1 h2 h3 h4
    · exact hk.elim
  | invoke r m => exact hk.elim

theorem op_sound {R : List Nat} (h : HSim E st.o w) (ha : SlotsR E a st.s) (hk : opv P R st o K) (hn : Nexts o a w E st K next) : o.wp P a w next Q := by
  obtain ⟨dst, op, ty, pos, after, guard⟩ := o
  unfold opv at hk
  have val : ∀ (v : Value) (g : GVal), execOp a.eval ⟨dst, op, ty, pos, after, guard⟩ = pure (.value v) → VR E v g → K g st.o → Oper.wp P ⟨dst, op, ty, pos, after, guard⟩ a w next Q := by
    intro v g he hv hkk
    unfold Oper.wp
    rw [he]
    simp only [Sem.run_pure, Oper.upon_value]
    exact hn v w E st.o g h (.refl _ _ _) hv hkk
  cases op with
  | move x => exact val _ _ rfl (ha.ev x) hk
  | assign x => exact val _ _ rfl (ha.ev x) hk
  | pick c x y =>
    simp only at hk
    have hc := ha.ev c
    split at hk
    · rename_i t hce
      rw [hce] at hc
      rw [gif_iff] at hk
      generalize hcv : a.eval c = cv at hc
      cases hc
      unfold Oper.wp
      cases t with
      | true =>
        simp only [execOp, hcv, asBool, Sem.run_bind, Sem.run_pure, Result.andThen_ok, Oper.upon_value, if_true]
        exact hn _ w E st.o _ h (.refl _ _ _) (ha.ev x) (hk.1 rfl)
      | false =>
        simp only [execOp, hcv, asBool, Sem.run_bind, Sem.run_pure, Result.andThen_ok, Oper.upon_value]
        exact hn _ w E st.o _ h (.refl _ _ _) (ha.ev y) (hk.2 rfl)
    · exact hk.elim
  | binOp op t x y u => exact wp_of_SOK (bin_sound (ox := x) (oy := y) h (ha.ev x) (ha.ev y) hk) rfl hn
  | unOp op t x => exact wp_of_SOK (un_sound h (ha.ev x) hk) rfl hn
  | convert s d x => exact wp_of_SOK (conv_sound h (ha.ev x) hk) rfl hn
  | load t x => exact wp_of_SOK (load_sound h (ha.ev x) hk) rfl hn
  | store t x y =>
    obtain ⟨w', E', O', hrun, h1, h2, h3⟩ := store_sound (KU := fun O' => K .any O') h (ha.ev x) (ha.ev y) hk
    unfold Oper.wp
    simp only [execOp, Sem.run_bind, hrun, Result.andThen_ok, Sem.run_pure, Oper.upon_skip]
    exact hn undef w' E' O' .any h1 h2 (.any _) h3
  | fieldAddr s x f => exact wp_of_SOK (fieldAddr_sound h (ha.ev x) hk) rfl hn
  | field s x f => exact wp_of_SOK (field_sound h (ha.ev x) hk) rfl hn
  | indexAddr t x i => exact wp_of_SOK (indexAddr_sound h (ha.ev x) (ha.ev i) hk) rfl hn
  | index t x i => exact wp_of_SOK (index_sound h (ha.ev x) (ha.ev i) hk) rfl hn
  | extract x i => exact wp_of_SOK (extract_sound h (ha.ev x) hk) rfl hn
  | alloc t => exact wp_of_SOK (alloc_sound h hk) rfl hn
  | lookup t x y ok => exact wp_of_SOK (lookup_sound h (ha.ev x) (ha.ev y) hk) rfl hn
  | mapUpdate t x y z =>
    obtain ⟨w', E', O', hrun, h1, h2, h3⟩ := mapUpdate_sound (KU := fun O' => K .any O') h (ha.ev x) (ha.ev y) (ha.ev z) hk
    unfold Oper.wp
    simp only [execOp, Sem.run_bind, hrun, Result.andThen_ok, Sem.run_pure, Oper.upon_skip]
    exact hn undef w' E' O' .any h1 h2 (.any _) h3
  | insert t x y z =>
    obtain ⟨w', E', O', hrun, h1, h2, h3⟩ := mapUpdate_sound (KU := fun O' => K .any O') h (ha.ev x) (ha.ev y) (ha.ev z) hk
    unfold Oper.wp
    simp only [execOp, Sem.run_bind, hrun, Result.andThen_ok, Sem.run_pure, Oper.upon_skip]
    exact hn undef w' E' O' .any h1 h2 (.any _) h3
  | makeMap t r =>
    cases r with
    | none => exact wp_of_SOK (makeMap_sound (t := t) h hk) rfl hn
    | some r => exact hk.elim
  | box t x => exact wp_of_SOK (box_sound h (ha.ev x) hk) rfl hn
  | build t ps => exact wp_of_SOK (build_sound h (parts_R ha ps).1 (parts_R ha ps).2 hk) rfl hn
  | buildSlice t n ps => exact wp_of_SOK (buildSlice_sound h (parts_R ha ps).1 (parts_R ha ps).2 hk) rfl hn
  | slice t x lo hi mx => exact wp_of_SOK (slice_sound h (ha.ev x) (opt_R ha lo) (opt_R ha hi) (opt_R ha mx) hk) rfl hn
  | nilCheck x =>
    have hx := ha.ev x
    simp only at hk
    unfold nilV at hk
    split at hk
    · rename_i o' st' i j hxe
      rw [hxe] at hx hk
      generalize hxv : a.eval x = xv at hx
      cases hx with
      | ptr b off o st i j l hl hb ho => exact val _ _ (by simp only [execOp, hxv]) (.ptr b off _ _ _ _ l hl hb ho) hk
    · rename_i cs hxe
      rw [hxe] at hx hk
      generalize hxv : a.eval x = xv at hx
      cases hx with
      | ref b off cs c h1 h2 => exact val _ _ (by simp only [execOp, hxv]) (.ref b off cs c h1 h2) hk
    · rename_i f fs cs hxe
      rw [hxe] at hx hk
      generalize hxv : a.eval x = xv at hx
      cases hx with
      | func fn fs cs gs ks a1 a2 a3 a4 => exact val (.func (.func f) fs cs) _ (by simp only [execOp, hxv]) (.func _ fs cs _ _ a1 a2 a3 a4) hk
    · rename_i t v hxe
      rw [hxe] at hx hk
      generalize hxv : a.eval x = xv at hx
      cases hx with
      | iface t v g hv => exact val (.iface _ _) _ (by simp only [execOp, hxv]) (.iface _ _ _ hv) hk
    · exact hk.elim
  | makeInterface t x => exact wp_of_SOK (iface_sound h (ha.ev x) hk) rfl hn
  | makeFunc fn fs cs =>
    have h1 := args_R ha fs
    have h2 := args_R ha cs
    exact val (.func fn (fs.map a.eval) (cs.map a.eval)) _ rfl (.func fn _ _ _ _ h1.1 h2.1 (fun j g hg => h1.2 j g hg) (fun j g hg => h2.2 j g hg)) hk
  | call c => exact call_sound (ty := ty) h ha hk rfl hn
  | _ => exact hk.elim

end
end Gv
