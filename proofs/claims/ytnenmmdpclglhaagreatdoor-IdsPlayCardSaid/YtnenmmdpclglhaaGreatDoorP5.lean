/- From a pure call over ghost values to the kit's frame. -/
import Derived.Test.YtnenmmdpclglhaaGreatDoorP4
import Derived.RowKit3
import Derived.Below
import Derived.ChangeSame
import Derived.KernelRfl
set_option linter.defProp false
set_option linter.unusedVariables false
namespace Gv
open Go Go.RowKit Go.WideShapes Go.ChangeShapes
def Env.nil : Env := ⟨fun _ _ => none, fun _ => none⟩
theorem HSim.start (w : World) (hg : globs = [] := by rfl) : HSim Env.nil [] w :=
 ⟨⟨0, (fun c hc => by cases hc), fun _ _ => rfl⟩, (fun b o v h => by cases h), (fun b o v h => by cases h), (fun i x hx => by simp at hx), fun i j oi oj b _ hi => by simp at hi, fun p hp => by rw [hg] at hp; cases hp⟩
structure Old (w w' : World) : Prop where
 os : w'.os = w.os
 output : w'.output = w.output
 size : w.heap.size ≤ w'.heap.size
 block : ∀ k, k < w.heap.size → w'.heap[k]? = w.heap[k]?
theorem Keep.old {E E' : Env} {O' : List GObj} {w w' : World} (h : Keep E [] w E' O' w') : Old w w' :=
 ⟨h.os, h.out, h.size, fun i hi => h.heap i hi (fun ⟨j, x, hx, _⟩ => by simp at hx)⟩
theorem Old.frame {W W' : World} (h : Old W W') (may : MemPlace → Prop) : W.keptBut W' may := by
 refine ⟨h.os, h.output, fun i hi => ?_⟩
 rw [h.block i hi]
 split <;> simp_all
theorem Old.frozen {w w' : World} (h : Old w w') {p : Addr} (hp : p.block < w.heap.size) : w'.frozen? p = w.frozen? p := World.frozen?_of_block (w := w) (h.block p.block hp)
section
variable {H : Type} {enc : TypeId × Value → H} {P : Program}
theorem post_of_old {f : Func} {s : ChangeSpec} {apart fresh handsOn again : Bool} {W W' : World} {args : Array Value} {v : Value} {ds gs : List (DataW H)} {before pa pv : List MemPlace}
 (hW : DataW.Whole enc P f.params.toList s.vars apart W args.toList ds gs before)
 (hres : ∀ (b : Nat) (sp : Nat → Bool) (hd : Bool), DataW.TrodAll enc P W' b sp hd f.resultTypes.toList (v.resultList f.resultTypes.size) (s.fn H (ds ++ gs)).results [])
 (hargs : ∀ sp : Nat → Bool, (∀ p ∈ before, sp p.block = true) → DataW.TrodAll enc P W' 0 sp true f.params.toList args.toList (s.fn H (ds ++ gs)).args pa)
 (hvars : ∀ sp : Nat → Bool, (∀ p ∈ before, sp p.block = true) → DataW.TrodVars enc P W' sp s.vars (s.fn H (ds ++ gs)).vars pv)
 (hps : before = pa ++ pv) (hb : Old W W')
 (hok : ∀ (j : Nat) (t : TypeId) (r : Value), f.resultTypes[j]? = some t → (v.resultList f.resultTypes.size)[j]? = some r → Value.okWide P W' .any 0 t r) :
 s.post enc P f apart fresh handsOn again W args v W' := by
 have hlt : ∀ p ∈ before, p.block < W.heap.size := fun p hp => hW.lt p hp
 have hold : ∀ p ∈ before, (fun b => decide (b < W.heap.size)) p.block = true := fun p hp => by simpa using hlt p hp
 refine ⟨ds, gs, before, [], pa, pv, hW, hres _ _ _, hargs _ hold, hvars _ hold, World.keptBut_mono (fun p hp => ⟨hp, ?_⟩) (hb.frame (· ∈ before)), fun _ => ?_⟩
 · rw [hps, List.mem_append] at hp;exact Or.inr hp
 · obtain ⟨_, _, _, _, _, hz, hn⟩ := hW;refine ⟨hok, _, _, ([] ++ pa) ++ pv, ⟨[] ++ pa, pv, trodAll_append (hargs _ (fun _ _ => rfl)) (hres _ _ _), hvars _ (fun _ _ => rfl), rfl, ?_, ?_⟩, ?_⟩
   · intro b off hp;have hin : MemPlace.cell b off ∈ before := by rw [hps]; simpa using hp
     rw [hb.frozen (hlt _ hin)];exact hz b off hin
   · intro ha;have := hn ha;rw [hps] at this
     simpa using this
   · intro p hp _;rw [hps]
     simpa using hp
end
end Gv
namespace Gv
open Go
def QaE : List GVal → Prop
 | [] => True
 | x :: r => x.solid = true ∧ QaE r
theorem Qbb : ∀ l : List GVal, (∀ c ∈ l, c.solid = true) = QaE l
 | [] => by simp [QaE]
 | x :: r => by rw [QaE, ← Qbb r]; simp
theorem Qjq (g : GVal) : g.okCells = QaE g.cells := Qbb _
theorem QoM {α : Type} (p : α → Prop) : (∀ x ∈ ([] : List α), p x) = True := by simp
theorem all_cons {α : Type} (p : α → Prop) (a : α) (l : List α) : (∀ x ∈ a :: l, p x) = (p a ∧ ∀ x ∈ l, p x) := by simp
theorem Qjr {α : Type} (p : α → Prop) (a b : List α) : (∀ x ∈ a ++ b, p x) = ((∀ x ∈ a, p x) ∧ ∀ x ∈ b, p x) := by
 simp [or_imp, forall_and]
theorem QbT (l : List Int) : (∀ x ∈ ints l, x.length = 1) = True := by simp [ints]
theorem QkD (K : Nat → Prop) : stamp [] K = ∀ st, K st := rfl
theorem QkE (a b : Nat) (r : List GObj) (K : Nat → Prop) : stamp (.tok a b :: r) K = ∀ st, K st := rfl
theorem QkF (a b : Nat) (xs : List (List GVal)) (r : List GObj) (K : Nat → Prop) : stamp (.row a b xs :: r) K = ∀ st, K st := rfl
theorem QkG (a : Nat) (xs : List (GVal × GVal)) (r : List GObj) (K : Nat → Prop) : stamp (.map a xs :: r) K = ∀ st, K st := rfl
theorem Qmn : tickO [] = [] := rfl
theorem Qmo (a b : Nat) (r : List GObj) : tickO (.tok a b :: r) = .tok a b :: r := rfl
theorem Qmp (a b : Nat) (xs : List (List GVal)) (r : List GObj) : tickO (.row a b xs :: r) = .row a b xs :: r := rfl
theorem Qmq (a : Nat) (xs : List (GVal × GVal)) (r : List GObj) : tickO (.map a xs :: r) = .map a xs :: r := rfl
def tabG (l : List (List Int)) : List (List GVal) := l.map fun p => [.slice (ints p) .none]
theorem Qh1 (l : List (List Int)) : (tabG l).length = l.length := by simp [tabG]
theorem QoN (l : List (List Int)) (i : Nat) (h : i < l.length) : (tabG l).getD i [] = [.slice (ints (l.getD i [])) .none] := by simp [tabG, List.getD, h]
theorem Qmm (l : List (List Int)) : (∀ x ∈ tabG l, x.length = 1) = True := by simp [tabG]
def leA (x y : GVal) : Prop :=
 match x, y with
 | .agg xs, .agg ys => WL xs ys
 | .tuple xs, .tuple ys => WL xs ys
 | x, y => leG x y
theorem leA.sound {E : Env} {v : Value} {x y : GVal} (h : leA x y) (hv : VR E v x) : VR E v y := by
 unfold leA at h
 split at h
 · rename_i xs ys;cases hv with
   | agg vs cs hs hc =>
    refine .agg vs ys (by rw [hs, h.len]) (fun j g hg => ?_);obtain ⟨x, hx, hl⟩ := h.at_ j g hg;exact hl.sound (hc j x hx)
 · rename_i xs ys;cases hv with
   | tuple vs cs hs hc =>
    refine .tuple vs ys (by rw [hs, h.len]) (fun j g hg => ?_);obtain ⟨x, hx, hl⟩ := h.at_ j g hg;exact hl.sound (hc j x hx)
 · exact h.sound hv
theorem QoO (k k' : IntKind) (a b : Int) : leA (.int k a) (.int k' b) = (k = k' ∧ a = b) := by unfold leA; simp [Qaa]
theorem Qea (a b : Bool) : leA (.bool a) (.bool b) = (a = b) := by unfold leA; simp [QcB]
theorem Qax (xs ys : List (List GVal)) (t : Tag) : leA (.slice xs t) (.slice ys .none) = (xs = ys) := by unfold leA; simp [leG_none]
theorem QoP (xs ys : List GVal) : leA (.agg xs) (.agg ys) = WL xs ys := rfl
theorem QkH (xs ys : List GVal) : leA (.tuple xs) (.tuple ys) = WL xs ys := rfl
theorem QuK : WL [] [] = True := rfl
theorem QoQ (x y : GVal) (xs ys : List GVal) : WL (x :: xs) (y :: ys) = (leG x y ∧ WL xs ys) := rfl
theorem GInto.leA {g r : GVal} {O : List GObj} {N : GVal → List GObj → Prop} (h : Gv.leA g r) (hn : N r []) : GInto g O N := fun E v w hs hv => by
 obtain ⟨h1, h2⟩ := HSim.drop (O := []) (X := O) (by simpa using hs)
 exact ⟨r, [], E, hn, h1, by simpa using h2, h.sound hv⟩
structure SOp where
 d : Option Nat
 op : Op
 g : Option (Nat × Bool)
inductive Qbc where
 | skip
 | reg (ops : List SOp)
 | drw (ops : List (SOp × Nat))
 | seq (a b : Qbc)
 | cond (c : Operand) (a b : Qbc)
 | block (id : Nat) (a : Qbc)
 | loop (a : Qbc)
 | exit (n : Nat)
 | ret
def QiY (all : List Oper) (o : Oper) : Option SOp :=
 match o.guard with
 | none => some ⟨o.dst, o.op, none⟩
 | some (j, want) => match QcO all j with
  | some d => some ⟨o.dst, o.op, some (d, want)⟩
  | none => none
def Qe9 (all : List Oper) : List Oper → Option (List SOp)
 | [] => some []
 | o :: r => match QiY all o, Qe9 all r with
  | some x, some y => some (x :: y)
  | _, _ => none
def Qfa (all : List Oper) : List (Nat × Nat) → Option (List (SOp × Nat))
 | [] => some []
 | (i, k) :: r => match all[i]? with
  | none => none
  | some o => match QiY all o, Qfa all r with
   | some x, some y => some ((x, k) :: y)
   | _, _ => none
def slim (C : Cfg) : Code → Option Qbc
 | .skip => some .skip
 | .region id ops draw => match draw with
  | false => match Qe9 ops.toList ops.toList with
   | some l => some (.reg l)
   | none => none
  | true => match Qfa ops.toList (C.of id) with
   | some l => some (.drw l)
   | none => none
 | .seq a b => match slim C a, slim C b with
  | some x, some y => some (.seq x y)
  | _, _ => none
 | .cond c a b => match slim C a, slim C b with
  | some x, some y => some (.cond c x y)
  | _, _ => none
 | .block id a => match slim C a with
  | some x => some (.block id x)
  | none => none
 | .loop a => match slim C a with
  | some x => some (.loop x)
  | none => none
 | .exit n => some (.exit n)
 | .ret => some .ret
 | _ => none
def opS (P : Program) (R : List Nat) (st : GSt) (d : Option Nat) (op : Op) (K : GVal → List GObj → Prop) : Prop := opv P R st ⟨d, op, 0, default, #[], none⟩ K
theorem QeN (P : Program) (R : List Nat) (st : GSt) (o : Oper) (K : GVal → List GObj → Prop) : opv P R st o K = opS P R st o.dst o.op K := by
 obtain ⟨dst, op, ty, pos, after, guard⟩ := o
 unfold opS opv
 rfl
def opsS (P : Program) (R : List Nat) : List SOp → (GSt → Prop) → GSt → Prop
 | [], K, st => K st
 | ⟨d, op, g⟩ :: r, K, st => match g with
  | none => opS P R st d op (fun g O' => opsS P R r K (st.put d g O'))
  | some (s, want) => match sget st.s s with
   | .bool b => match want with
    | true => gif b (opS P R (st.setS s (.bool true)) d op (fun g O' => opsS P R r K ((st.setS s (.bool true)).put d g O'))) (opsS P R r K ((st.setS s (.bool false)).put d (.lit (.tuple #[])) st.o))
    | false => gif b (opsS P R r K ((st.setS s (.bool true)).put d (.lit (.tuple #[])) st.o)) (opS P R (st.setS s (.bool false)) d op (fun g O' => opsS P R r K ((st.setS s (.bool false)).put d g O')))
   | .lit (.tuple _) => opsS P R r K (st.put d (.lit (.tuple #[])) st.o)
   | _ => False
def ordS (P : Program) (R : List Nat) : List (SOp × Nat) → (GSt → Prop) → GSt → Prop
 | [], K, st => K st
 | (⟨d, op, g⟩, k) :: r, K, st => match g with
  | none => opS P R st d op (fun g O' => Qbz k st.s st.o O' (ordS P R r K (st.put d g O')))
  | some (s, want) => match sget st.s s with
   | .bool b => match want with
    | true => gif b (opS P R (st.setS s (.bool true)) d op (fun g O' => Qbz k st.s st.o O' (ordS P R r K ((st.setS s (.bool true)).put d g O')))) (ordS P R r K ((st.setS s (.bool false)).put d (.lit (.tuple #[])) st.o))
    | false => gif b (ordS P R r K ((st.setS s (.bool true)).put d (.lit (.tuple #[])) st.o)) (opS P R (st.setS s (.bool false)) d op (fun g O' => Qbz k st.s st.o O' (ordS P R r K ((st.setS s (.bool false)).put d g O'))))
   | .lit (.tuple _) => ordS P R r K (st.put d (.lit (.tuple #[])) st.o)
   | _ => False
def vcS (P : Program) (R : List Nat) : Qbc → (Ex → GSt → Prop) → GSt → Prop
 | .skip, Q, st => Q .normal st
 | .reg ops, Q, st => opsS P R ops (Q .normal) st
 | .drw ops, Q, st => ordS P R ops (Q .normal) st
 | .seq a b, Q, st => vcS P R a (Qdd (vcS P R b Q) Q) st
 | .cond c a b, Q, st => match st.ev c with
  | .bool t => gif t (vcS P R a Q st) (vcS P R b Q st)
  | .ubool => vcS P R a Q st ∧ vcS P R b Q st
  | _ => False
 | .block id a, Q, st => vcS P R a (QcH id Q) st
 | .loop a, Q, st => ∃ (ι : Type) (I : ι → GSt) (μ : ι → Nat), Into st (fun s => ∃ i, s = I i) ∧ ∀ i, vcS P R a (Qdd (fun st' => Into st' (fun s => ∃ j, s = I j ∧ μ j < μ i)) Q) (I i)
 | .exit n, Q, st => Q (.exit n) st
 | .ret, Q, st => Q .ret st
def QdO (P : Program) (R : List Nat) (a : Qbc) (Q : Ex → GSt → Prop) (st : GSt) : Prop :=
 ∃ (ι : Type) (I : ι → GSt) (μ : ι → Nat), Into st (fun s => ∃ i, s = I i) ∧ ∀ i, vcS P R a (Qdd (fun st' => Into st' (fun s => ∃ j, s = I j ∧ μ j < μ i)) Q) (I i)
theorem Qab {P : Program} {R : List Nat} {a : Qbc} {Q : Ex → GSt → Prop} {st : GSt} {ι : Type} (I : ι → GSt) (μ : ι → Nat) (h0 : Into st (fun s => ∃ i, s = I i))
 (h : ∀ i, vcS P R a (Qdd (fun st' => Into st' (fun s => ∃ j, s = I j ∧ μ j < μ i)) Q) (I i)) : QdO P R a Q st := ⟨ι, I, μ, h0, h⟩
section
variable (P : Program) (R : List Nat) (Q : Ex → GSt → Prop) (st : GSt)
theorem Qmi : vcS P R .skip Q st = Q .normal st := by rw [vcS]
theorem QoH (ops : List SOp) : vcS P R (.reg ops) Q st = opsS P R ops (Q .normal) st := by rw [vcS]
theorem QoI (ops : List (SOp × Nat)) : vcS P R (.drw ops) Q st = ordS P R ops (Q .normal) st := by rw [vcS]
theorem QoJ (a b : Qbc) : vcS P R (.seq a b) Q st = vcS P R a (Qdd (vcS P R b Q) Q) st := by rw [vcS]
theorem Qmj (c : Operand) (a b : Qbc) : vcS P R (.cond c a b) Q st = match st.ev c with
 | .bool t => gif t (vcS P R a Q st) (vcS P R b Q st)
 | .ubool => vcS P R a Q st ∧ vcS P R b Q st
 | _ => False := by rw [vcS]
theorem QkB (id : Nat) (a : Qbc) : vcS P R (.block id a) Q st = vcS P R a (QcH id Q) st := by rw [vcS]
theorem Qm1 (a : Qbc) : vcS P R (.loop a) Q st = QdO P R a Q st := by rw [vcS, QdO]
theorem Qmk (n : Nat) : vcS P R (.exit n) Q st = Q (.exit n) st := by rw [vcS]
theorem QoK : vcS P R .ret Q st = Q .ret st := by rw [vcS]
theorem Qga (K : GSt → Prop) : opsS P R [] K st = K st := by rw [opsS]
theorem Qd9 (d : Option Nat) (op : Op) (r : List SOp) (K : GSt → Prop) : opsS P R (⟨d, op, none⟩ :: r) K st = opS P R st d op (fun g O' => opsS P R r K (st.put d g O')) := by rw [opsS]
theorem QhY (d : Option Nat) (op : Op) (s : Nat) (want : Bool) (r : List SOp) (K : GSt → Prop) : opsS P R (⟨d, op, some (s, want)⟩ :: r) K st = match sget st.s s with
      | .bool b => match want with
        | true => gif b (opS P R (st.setS s (.bool true)) d op (fun g O' => opsS P R r K ((st.setS s (.bool true)).put d g O'))) (opsS P R r K ((st.setS s (.bool false)).put d (.lit (.tuple #[])) st.o))
        | false => gif b (opsS P R r K ((st.setS s (.bool true)).put d (.lit (.tuple #[])) st.o)) (opS P R (st.setS s (.bool false)) d op (fun g O' => opsS P R r K ((st.setS s (.bool false)).put d g O')))
      | .lit (.tuple _) => opsS P R r K (st.put d (.lit (.tuple #[])) st.o)
      | _ => False := by rw [opsS]
theorem Qml (K : GSt → Prop) : ordS P R [] K st = K st := by rw [ordS]
theorem Qgb (d : Option Nat) (op : Op) (k : Nat) (r : List (SOp × Nat)) (K : GSt → Prop) : ordS P R ((⟨d, op, none⟩, k) :: r) K st = opS P R st d op (fun g O' => Qbz k st.s st.o O' (ordS P R r K (st.put d g O'))) := by rw [ordS]
theorem QhZ (d : Option Nat) (op : Op) (k s : Nat) (want : Bool) (r : List (SOp × Nat)) (K : GSt → Prop) : ordS P R ((⟨d, op, some (s, want)⟩, k) :: r) K st = match sget st.s s with
      | .bool b => match want with
        | true => gif b (opS P R (st.setS s (.bool true)) d op (fun g O' => Qbz k st.s st.o O' (ordS P R r K ((st.setS s (.bool true)).put d g O')))) (ordS P R r K ((st.setS s (.bool false)).put d (.lit (.tuple #[])) st.o))
        | false => gif b (ordS P R r K ((st.setS s (.bool true)).put d (.lit (.tuple #[])) st.o)) (opS P R (st.setS s (.bool false)) d op (fun g O' => Qbz k st.s st.o O' (ordS P R r K ((st.setS s (.bool false)).put d g O'))))
      | .lit (.tuple _) => ordS P R r K (st.put d (.lit (.tuple #[])) st.o)
      | _ => False := by rw [ordS]
end
theorem Quz (a : GVal) (r : List GVal) : sget (a :: r) 0 = a := rfl
theorem QuA (a b : GVal) (r : List GVal) : sget (a :: b :: r) 1 = b := rfl
theorem QuB (a b c : GVal) (r : List GVal) : sget (a :: b :: c :: r) 2 = c := rfl
theorem QuC (a b c d : GVal) (r : List GVal) : sget (a :: b :: c :: d :: r) 3 = d := rfl
theorem QuD (a b c d : GVal) (r : List GVal) (n : Nat) : sget (a :: b :: c :: d :: r) (n + 4) = sget r n := by simp [sget]
theorem set_0 (a x : GVal) (r : List GVal) : (a :: r).set 0 x = x :: r := rfl
theorem set_1 (a b x : GVal) (r : List GVal) : (a :: b :: r).set 1 x = a :: x :: r := rfl
theorem set_2 (a b c x : GVal) (r : List GVal) : (a :: b :: c :: r).set 2 x = a :: b :: x :: r := rfl
theorem set_3 (a b c d x : GVal) (r : List GVal) : (a :: b :: c :: d :: r).set 3 x = a :: b :: c :: x :: r := rfl
theorem set_4 (a b c d x : GVal) (r : List GVal) (n : Nat) : (a :: b :: c :: d :: r).set (n + 4) x = a :: b :: c :: d :: r.set n x := by simp
theorem QuE (a x : GObj) (r : List GObj) : (a :: r).set 0 x = x :: r := rfl
theorem QuF (a b x : GObj) (r : List GObj) : (a :: b :: r).set 1 x = a :: x :: r := rfl
theorem QuG (a b c x : GObj) (r : List GObj) : (a :: b :: c :: r).set 2 x = a :: b :: x :: r := rfl
theorem QuH (a x : List GVal) (r : List (List GVal)) : (a :: r).set 0 x = x :: r := rfl
theorem QuI (a b x : List GVal) (r : List (List GVal)) : (a :: b :: r).set 1 x = a :: x :: r := rfl
theorem QuJ (a b c x : List GVal) (r : List (List GVal)) : (a :: b :: c :: r).set 2 x = a :: b :: x :: r := rfl
theorem Qmr (p q : Prop) : gif true p q = p := rfl
theorem QkI (p q : Prop) : gif false p q = q := rfl
theorem QoR (c : Prop) [Decidable c] (p q : Prop) : gif (decide c) p q = ((c → p) ∧ (¬c → q)) := by
 by_cases h : c <;> simp [gif, h]
theorem QoS (b : Bool) (p q : Prop) : gif (!b) p q = gif b q p := by cases b <;> rfl
theorem QuN (a b : Int) (p q : Prop) : gif (a == b) p q = ((a = b → p) ∧ (a ≠ b → q)) := by
 by_cases h : a = b
 · subst h; simp [gif]
 · rw [beq_eq_false_iff_ne.2 h]; simp [gif, h]
theorem QuO (a b : Int) (p q : Prop) : gif (a != b) p q = ((a ≠ b → p) ∧ (a = b → q)) := by
 by_cases h : a = b
 · subst h; simp [gif]
 · rw [bne, beq_eq_false_iff_ne.2 h]; simp [gif, h]
section
variable {P : Program}
theorem Qfb {all : List Oper} {o : Oper} {x : SOp} (h : QiY all o = some x) : x.d = o.dst ∧ x.op = o.op ∧ ((o.guard = none ∧ x.g = none) ∨ ∃ j want d, o.guard = some (j, want) ∧ QcO all j = some d ∧ x.g = some (d, want)) := by
 unfold QiY at h
 split at h
 · rename_i hg; cases h; exact ⟨rfl, rfl, .inl ⟨hg, rfl⟩⟩
 · rename_i j want hg;split at h
   · rename_i d hd; cases h; exact ⟨rfl, rfl, .inr ⟨j, want, d, hg, hd, rfl⟩⟩
   · cases h
theorem Qly {R : List Nat} {all : List Oper} {K : GSt → Prop} : ∀ (ops : List Oper) (l : List SOp) (st : GSt), Qe9 all ops = some l → opsS P R l K st → opsv P R all ops K st
 | [], l, st, h, hk => by simp [Qe9] at h; subst h; rw [opsS] at hk; rw [opsv]; exact hk
 | o :: r, l, st, h, hk => by
  unfold Qe9 at h;split at h
  · rename_i x y e1 e2;cases h;obtain ⟨d, op, g⟩ := x;obtain ⟨h1, h2, h3⟩ := Qfb e1;simp only at h1 h2 h3
    subst h1; subst h2;have ih : ∀ st', opsS P R y K st' → opsv P R all r K st' := fun st' => Qly r y st' e2
    unfold opsv;rcases h3 with ⟨hg, rfl⟩ | ⟨j, want, d, hg, hd, rfl⟩
    · rw [Qd9] at hk;simp only [hg];rw [QeN];exact QaF (fun g O' hh => ih _ hh) hk
    · rw [QhY] at hk;simp only [hg, hd];split at hk
      · rename_i b hb;rw [hb];cases want with
        | true =>
         have hk := QaJ.1 hk;refine Qh9.2 ⟨fun e => ?_, fun e => ih _ (hk.2 e)⟩;rw [QeN];exact QaF (fun g O' hh => ih _ hh) (hk.1 e)
        | false =>
         have hk := QaJ.1 hk;refine Qh9.2 ⟨fun e => ?_, fun e => ih _ (hk.1 e)⟩;rw [QeN];exact QaF (fun g O' hh => ih _ hh) (hk.2 e)
      · rename_i v hb;rw [hb];exact ih _ hk
      · exact hk.elim
  · cases h
theorem Qlz {R : List Nat} {all : List Oper} {K : GSt → Prop} : ∀ (ord : List (Nat × Nat)) (l : List (SOp × Nat)) (st : GSt), Qfa all ord = some l → ordS P R l K st → ordv P R all ord K st
 | [], l, st, h, hk => by simp [Qfa] at h; subst h; rw [ordS] at hk; rw [ordv]; exact hk
 | (i, k) :: r, l, st, h, hk => by
  unfold Qfa at h;unfold ordv;split at h
  · cases h
  · rename_i o ho;simp only [ho];split at h
    · rename_i x y e1 e2;cases h;obtain ⟨d, op, g⟩ := x;obtain ⟨h1, h2, h3⟩ := Qfb e1;simp only at h1 h2 h3
      subst h1; subst h2;have ih : ∀ st', ordS P R y K st' → ordv P R all r K st' := fun st' => Qlz r y st' e2
      rcases h3 with ⟨hg, rfl⟩ | ⟨j, want, d, hg, hd, rfl⟩
      · rw [Qgb] at hk;simp only [hg];rw [QeN];exact QaF (fun g O' hh => ⟨hh.1, ih _ hh.2⟩) hk
      · rw [QhZ] at hk;simp only [hg, hd];split at hk
        · rename_i b hb;rw [hb];cases want with
          | true =>
           have hk := QaJ.1 hk;refine Qh9.2 ⟨fun e => ?_, fun e => ih _ (hk.2 e)⟩;rw [QeN];exact QaF (fun g O' hh => ⟨hh.1, ih _ hh.2⟩) (hk.1 e)
          | false =>
           have hk := QaJ.1 hk;refine Qh9.2 ⟨fun e => ?_, fun e => ih _ (hk.1 e)⟩;rw [QeN];exact QaF (fun g O' hh => ⟨hh.1, ih _ hh.2⟩) (hk.2 e)
        · rename_i v hb;rw [hb];exact ih _ hk
        · exact hk.elim
    · cases h
theorem Qb6 {R : List Nat} {K K' : GSt → Prop} (h : ∀ s, K s → K' s) : ∀ (l : List SOp) (st : GSt), opsS P R l K st → opsS P R l K' st
 | [], st, hk => by rw [opsS] at hk ⊢; exact h _ hk
 | ⟨d, op, none⟩ :: r, st, hk => by
  rw [Qd9] at hk ⊢;exact QaF (fun g O' hh => Qb6 h r _ hh) hk
 | ⟨d, op, some (s, want)⟩ :: r, st, hk => by
  rw [QhY] at hk ⊢;split at hk
  · cases want with
    | true => exact QaJ.2 ⟨fun e => QaF (fun g O' hh => Qb6 h r _ hh) ((QaJ.1 hk).1 e), fun e => Qb6 h r _ ((QaJ.1 hk).2 e)⟩
    | false => exact QaJ.2 ⟨fun e => Qb6 h r _ ((QaJ.1 hk).1 e), fun e => QaF (fun g O' hh => Qb6 h r _ hh) ((QaJ.1 hk).2 e)⟩
  · exact Qb6 h r _ hk
  · exact hk.elim
theorem Qb7 {R : List Nat} {K K' : GSt → Prop} (h : ∀ s, K s → K' s) : ∀ (l : List (SOp × Nat)) (st : GSt), ordS P R l K st → ordS P R l K' st
 | [], st, hk => by rw [ordS] at hk ⊢; exact h _ hk
 | (⟨d, op, none⟩, k) :: r, st, hk => by
  rw [Qgb] at hk ⊢;exact QaF (fun g O' hh => ⟨hh.1, Qb7 h r _ hh.2⟩) hk
 | (⟨d, op, some (s, want)⟩, k) :: r, st, hk => by
  rw [QhZ] at hk ⊢;split at hk
  · cases want with
    | true => exact QaJ.2 ⟨fun e => QaF (fun g O' hh => ⟨hh.1, Qb7 h r _ hh.2⟩) ((QaJ.1 hk).1 e), fun e => Qb7 h r _ ((QaJ.1 hk).2 e)⟩
    | false => exact QaJ.2 ⟨fun e => Qb7 h r _ ((QaJ.1 hk).1 e), fun e => QaF (fun g O' hh => ⟨hh.1, Qb7 h r _ hh.2⟩) ((QaJ.1 hk).2 e)⟩
  · exact Qb7 h r _ hk
  · exact hk.elim
theorem QfL {N N' : GSt → Prop} {Q Q' : Ex → GSt → Prop} (h1 : ∀ s, N s → N' s) (h2 : ∀ e s, Q e s → Q' e s) : ∀ e s, Qdd N Q e s → Qdd N' Q' e s := by
 intro e s h
 cases e <;> simp only [Qdd] at h ⊢ <;> first | exact h1 _ h | exact h2 _ _ h
theorem Qiq {id : Nat} {Q Q' : Ex → GSt → Prop} (h2 : ∀ e s, Q e s → Q' e s) : ∀ e s, QcH id Q e s → QcH id Q' e s := by
 intro e s h
 cases e <;> simp only [QcH] at h ⊢
 · exact h2 _ _ h
 · split at h
   · rename_i e; rw [if_pos e]; exact h2 _ _ h
   · rename_i e; rw [if_neg e]; exact h2 _ _ h
 · exact h2 _ _ h
theorem vcS_ok {C : Cfg} : ∀ (c : Code) (s : Qbc) (Q Q' : Ex → GSt → Prop) (st : GSt), slim C c = some s → (∀ e s, Q e s → Q' e s) → vcS P C.ro s Q st → vc P C c Q' st
 | .skip, s, Q, Q', st, h, hq, hk => by simp only [slim, Option.some.injEq] at h; subst h; rw [vcS] at hk; rw [vc]; exact hq _ _ hk
 | .region id ops draw, s, Q, Q', st, h, hq, hk => by
  unfold slim at h;cases draw with
  | false =>
   rw [Qu0];simp only at h
   split at h
   · rename_i l e; cases h; rw [vcS] at hk;exact Qly _ _ _ e (Qb6 (fun s hs => hq _ _ hs) _ _ hk)
   · cases h
  | true =>
   rw [Qpb];simp only at h
   split at h
   · rename_i l e; cases h; rw [vcS] at hk;exact Qlz _ _ _ e (Qb7 (fun s hs => hq _ _ hs) _ _ hk)
   · cases h
 | .seq x y, s, Q, Q', st, h, hq, hk => by
  unfold slim at h;split at h
  · rename_i a b e1 e2;cases h;rw [vcS] at hk;rw [vc];exact vcS_ok x a _ _ st e1 (QfL (fun s hs => vcS_ok y b Q Q' s e2 hq hs) hq) hk
  · cases h
 | .cond c x y, s, Q, Q', st, h, hq, hk => by
  unfold slim at h;split at h
  · rename_i a b e1 e2;cases h;rw [vcS] at hk;rw [vc];split at hk
    · rename_i t ht;rw [ht];exact Qnp.2 ⟨fun e => vcS_ok x a Q Q' st e1 hq ((QaJ.1 hk).1 e), fun e => vcS_ok y b Q Q' st e2 hq ((QaJ.1 hk).2 e)⟩
    · rename_i ht;rw [ht];exact ⟨vcS_ok x a Q Q' st e1 hq hk.1, vcS_ok y b Q Q' st e2 hq hk.2⟩
    · exact hk.elim
  · cases h
 | .block id x, s, Q, Q', st, h, hq, hk => by
  unfold slim at h;split at h
  · rename_i a e1;cases h;rw [vcS] at hk;rw [vc];exact vcS_ok x a _ _ st e1 (Qiq hq) hk
  · cases h
 | .loop x, s, Q, Q', st, h, hq, hk => by
  unfold slim at h;split at h
  · rename_i a e1;cases h;rw [vcS] at hk;rw [vc];obtain ⟨ι, I, μ, h0, h1⟩ := hk;exact ⟨ι, I, μ, h0, fun i => vcS_ok x a _ _ (I i) e1 (QfL (fun s hs => hs) hq) (h1 i)⟩
  · cases h
 | .exit n, s, Q, Q', st, h, hq, hk => by simp only [slim, Option.some.injEq] at h; subst h; rw [vcS] at hk; rw [vc]; exact hq _ _ hk
 | .ret, s, Q, Q', st, h, hq, hk => by simp only [slim, Option.some.injEq] at h; subst h; rw [vcS] at hk; rw [vc]; exact hq _ _ hk
 | .rangeFunc .., s, Q, Q', st, h, hq, hk => by simp [slim] at h
 | .goto .., s, Q, Q', st, h, hq, hk => by simp [slim] at h
 | .label .., s, Q, Q', st, h, hq, hk => by simp [slim] at h
 | .scope .., s, Q, Q', st, h, hq, hk => by simp [slim] at h
 | .refuse .., s, Q, Q', st, h, hq, hk => by simp [slim] at h
structure FnS (P : Program) (f : FuncId) (C : Cfg) (n : Nat) (rs : List ResultVar) (s : Qbc) : Prop where
 ok : ∃ fn c, P.funcs[f]? = some fn ∧ fn.body = some c ∧ fn.ntmps = n ∧ fn.results.toList = rs ∧ Qa8 P f = true ∧ codeOk C c = true ∧ slim C c = some s
theorem FnS.mk' {P : Program} {f : FuncId} {fn : Func} {C : Cfg} {n : Nat} {rs : List ResultVar} {s : Qbc} (h1 : P.funcs[f]? = some fn) (h2 : fn.body.isSome = true := by kernel_rfl) (h3 : fn.ntmps = n := by kernel_rfl) (h4 : fn.results.toList = rs := by kernel_rfl) (h5 : (fn.name != "runtime.NumGoroutine") = true := by kernel_rfl)
 (h6 : codeOk C (fn.body.getD .skip) = true := by kernel_rfl) (h7 : slim C (fn.body.getD .skip) = some s := by kernel_rfl) : FnS P f C n rs s := by
 obtain ⟨c, hc⟩ := Option.isSome_iff_exists.1 h2
 refine ⟨fn, c, h1, hc, h3, h4, ?_, by simpa [hc] using h6, by simpa [hc] using h7⟩
 unfold Qa8
 rw [h1]
 simp only [h2, h5, Bool.and_self]
theorem FnS.calls (hmix : P.follows .mixedOrders = true) {f : FuncId} {C : Cfg} {n : Nat} {rs : List ResultVar} {s : Qbc} (h : FnS P f C n rs s) {args : List GVal} {O : List GObj} {K : GVal → List GObj → Prop} (ha : args.length ≤ n)
 (hk : vcS P C.ro s (retQ P rs K) (gstart n args O)) : GCalls P f args O K := by
 obtain ⟨fn, c, h1, h2, h3, h4, h5, h6, h7⟩ := h.ok
 subst h4
 exact Qhf hmix C h1 h2 h3 rfl h5 ha h6 (vcS_ok c s _ _ _ h7 (fun _ _ hh => hh) hk)
theorem FnS.pure (hmix : P.follows .mixedOrders = true) {f : FuncId} {C : Cfg} {n : Nat} {rs : List ResultVar} {s : Qbc} (h : FnS P f C n rs s) {args : List GVal} {r : GVal} (ha : args.length ≤ n)
 (hk : vcS P C.ro s (retQ P rs (fun g O' => leA g r)) (gstart n args [])) : GPure P f args r :=
 GCalls.into ((h.calls hmix ha hk).mono fun g O' h => GInto.leA h ⟨rfl, rfl⟩)
end
end Gv
namespace Gv
open Go
theorem Qom (P : Program) (R : List Nat) (st : GSt) (d : Option Nat) (K : GVal → List GObj → Prop) (x : Operand) : opS P R st d (.move x) K = K (st.ev x) st.o := by exact id rfl
theorem Qkj (P : Program) (R : List Nat) (st : GSt) (d : Option Nat) (K : GVal → List GObj → Prop) (x : Operand) : opS P R st d (.assign x) K = K (st.ev x) st.o := by exact id rfl
theorem QlQ (P : Program) (R : List Nat) (st : GSt) (d : Option Nat) (K : GVal → List GObj → Prop) (o : BinOp) (t u : TypeId) (x y : Operand) : opS P R st d (.binOp o t x y u) K = binN P o t y (st.ev x) (st.ev y) (fun g => K g st.o) := by exact id rfl
theorem QlR (P : Program) (o : BinOp) (t : TypeId) (n : Nat) (a b : GVal) (K : GVal → Prop) : binN P o t (.tmp n) a b K = binV P o t a b K := rfl
theorem Qon (P : Program) (o : BinOp) (t : TypeId) (k : IntKind) (n : Int) (a b : GVal) (K : GVal → Prop) : binN P o t (.const (.int k n)) a b K = binV P o t a b K := rfl
theorem Qoo (P : Program) (o : BinOp) (t : TypeId) (c : Bool) (a b : GVal) (K : GVal → Prop) : binN P o t (.const (.bool c)) a b K = binV P o t a b K := rfl
theorem Qop (P : Program) (o : BinOp) (t : TypeId) (s : ByteArray) (a b : GVal) (K : GVal → Prop) : binN P o t (.const (.string s)) a b K = binV P o t a b K := rfl
theorem Qoq (P : Program) (o : BinOp) (t : TypeId) (p : Option Addr) (m n : Nat) (a b : GVal) (K : GVal → Prop) : binN P o t (.const (.slice p m n)) a b K = binV P o t a b K := rfl
theorem Qor (P : Program) (o : BinOp) (t : TypeId) (p : Option Addr) (a b : GVal) (K : GVal → Prop) : binN P o t (.const (.pointer p)) a b K = binV P o t a b K := rfl
theorem Qos (P : Program) (o : BinOp) (t : TypeId) (a b : GVal) (K : GVal → Prop) : binN P o t (.const .nilFunc) a b K = binV P o t a b K := rfl
theorem Qot (P : Program) (o : BinOp) (t : TypeId) (u : TypeId) (v b : GVal) (K : GVal → Prop) : binN P o t (.const .nilIface) (.iface u v) b K = binV P o t (.iface u v) b K := rfl
theorem Qou (P : Program) (t : TypeId) (b : GVal) (K : GVal → Prop) : binN P .eql t (.const .nilIface) (.lit .nilIface) b K = ((match P.underlying t with | some (.interface _) => true | _ => false) = true ∧ K (.bool true)) := rfl
theorem Qov (P : Program) (t : TypeId) (b : GVal) (K : GVal → Prop) : binN P .neq t (.const .nilIface) (.lit .nilIface) b K = ((match P.underlying t with | some (.interface _) => true | _ => false) = true ∧ K (.bool false)) := rfl
theorem Qow (P : Program) (R : List Nat) (st : GSt) (d : Option Nat) (K : GVal → List GObj → Prop) (o : UnOp) (t : TypeId) (x : Operand) : opS P R st d (.unOp o t x) K = unV o (st.ev x) (fun g => K g st.o) := by exact id rfl
theorem Qje (P : Program) (R : List Nat) (st : GSt) (d : Option Nat) (K : GVal → List GObj → Prop) (s t : TypeId) (x : Operand) : opS P R st d (.convert s t x) K = Qc2 P s t (st.ev x) (fun g => K g st.o) := by exact id rfl
theorem Qox (P : Program) (R : List Nat) (st : GSt) (d : Option Nat) (K : GVal → List GObj → Prop) (t : TypeId) (x : Operand) : opS P R st d (.load t x) K = QaH P t (st.ev x) st.o (fun g => K g st.o) := by exact id rfl
theorem QlS (P : Program) (R : List Nat) (st : GSt) (d : Option Nat) (K : GVal → List GObj → Prop) (t : TypeId) (x y : Operand) : opS P R st d (.store t x y) K = QaM P t (st.ev x) (st.ev y) st.o (fun O' => K .any O') := by exact id rfl
theorem QgL (P : Program) (R : List Nat) (st : GSt) (d : Option Nat) (K : GVal → List GObj → Prop) (s : TypeId) (x : Operand) (f : Nat) : opS P R st d (.fieldAddr s x f) K = Qag P s (st.ev x) f (fun g => K g st.o) := by exact id rfl
theorem QlT (P : Program) (R : List Nat) (st : GSt) (d : Option Nat) (K : GVal → List GObj → Prop) (s : TypeId) (x : Operand) (f : Nat) : opS P R st d (.field s x f) K = QbO P s (st.ev x) f (fun g => K g st.o) := by exact id rfl
theorem QgM (P : Program) (R : List Nat) (st : GSt) (d : Option Nat) (K : GVal → List GObj → Prop) (t : TypeId) (x i : Operand) : opS P R st d (.indexAddr t x i) K = Qac P t (st.ev x) (st.ev i) st.o (fun g => K g st.o) := by exact id rfl
theorem QlU (P : Program) (R : List Nat) (st : GSt) (d : Option Nat) (K : GVal → List GObj → Prop) (t : TypeId) (x i : Operand) : opS P R st d (.index t x i) K = QbP P t (st.ev x) (st.ev i) (fun g => K g st.o) := by exact id rfl
theorem Qjf (P : Program) (R : List Nat) (st : GSt) (d : Option Nat) (K : GVal → List GObj → Prop) (x : Operand) (i : Nat) : opS P R st d (.extract x i) K = QaB (st.ev x) i (fun g => K g st.o) := by exact id rfl
theorem QlV (P : Program) (R : List Nat) (st : GSt) (d : Option Nat) (K : GVal → List GObj → Prop) (t : TypeId) : opS P R st d (.alloc t) K = QbQ P t st.o K := by exact id rfl
theorem QgN (P : Program) (R : List Nat) (st : GSt) (d : Option Nat) (K : GVal → List GObj → Prop) (t : TypeId) (x y : Operand) : opS P R st d (.makeSlice t x y) K = QaV P t (st.ev x) (st.ev y) st.o K := by exact id rfl
theorem Qkk (P : Program) (R : List Nat) (st : GSt) (d : Option Nat) (K : GVal → List GObj → Prop) (t : TypeId) (x y : Operand) (ok : Bool) : opS P R st d (.lookup t x y ok) K = Qbd P t (st.ev x) (st.ev y) ok st.o (fun g => K g st.o) := by exact id rfl
theorem QgO (P : Program) (R : List Nat) (st : GSt) (d : Option Nat) (K : GVal → List GObj → Prop) (t : TypeId) (x y z : Operand) : opS P R st d (.mapUpdate t x y z) K = Qav P t (st.ev x) (st.ev y) (st.ev z) st.o (fun O' => K .any O') := by exact id rfl
theorem Qkl (P : Program) (R : List Nat) (st : GSt) (d : Option Nat) (K : GVal → List GObj → Prop) (t : TypeId) (x y z : Operand) : opS P R st d (.insert t x y z) K = Qav P t (st.ev x) (st.ev y) (st.ev z) st.o (fun O' => K .any O') := by exact id rfl
theorem Qjg (P : Program) (R : List Nat) (st : GSt) (d : Option Nat) (K : GVal → List GObj → Prop) (t : TypeId) : opS P R st d (.makeMap t none) K = Qa4 st.o K := by exact id rfl
theorem Quk (P : Program) (R : List Nat) (st : GSt) (d : Nat) (K : GVal → List GObj → Prop) (t : TypeId) (x : Operand) : opS P R st (some d) (.box t x) K = boxV (R.contains d) (st.ev x) st.o K := by exact id rfl
theorem QlW (P : Program) (R : List Nat) (st : GSt) (d : Option Nat) (K : GVal → List GObj → Prop) (t : TypeId) (ps : List (Nat × Operand)) : opS P R st d (.build t ps.toArray) K = Qbt P t (ps.map fun p => (p.1, st.ev p.2)) (fun g => K g st.o) := by exact id rfl
theorem Qf5 (P : Program) (R : List Nat) (st : GSt) (d : Option Nat) (K : GVal → List GObj → Prop) (t : TypeId) (n : Nat) (ps : List (Nat × Operand)) : opS P R st d (.buildSlice t n ps.toArray) K = Qaf P t n (ps.map fun p => (p.1, st.ev p.2)) (fun g => K g st.o) := by exact id rfl
theorem QlX (P : Program) (R : List Nat) (st : GSt) (d : Option Nat) (K : GVal → List GObj → Prop) (t : TypeId) (x : Operand) (lo hi mx : Option Operand) : opS P R st d (.slice t x lo hi mx) K = Qao P t (st.ev x) (optV st lo) (optV st hi) (optV st mx) st.o (fun g => K g st.o) := by exact id rfl
theorem QhM (P : Program) (R : List Nat) (st : GSt) (d : Option Nat) (K : GVal → List GObj → Prop) (x : Operand) : opS P R st d (.nilCheck x) K = nilV (st.ev x) (fun g => K g st.o) := by exact id rfl
theorem QdZ (P : Program) (R : List Nat) (st : GSt) (d : Option Nat) (K : GVal → List GObj → Prop) (t : TypeId) (x : Operand) : opS P R st d (.makeInterface t x) K = QaO P t (st.ev x) (fun g => K g st.o) := by exact id rfl
theorem QhN (P : Program) (R : List Nat) (st : GSt) (d : Option Nat) (K : GVal → List GObj → Prop) (fn : Fn) (fs cs : List Operand) : opS P R st d (.makeFunc fn fs.toArray cs.toArray) K = K (.func fn (fs.map st.ev) (cs.map st.ev)) st.o := by exact id rfl
theorem Qoy (P : Program) (R : List Nat) (st : GSt) (d : Option Nat) (K : GVal → List GObj → Prop) (c a b : Operand) : opS P R st d (.pick c a b) K = match st.ev c with | .bool t => gif t (K (st.ev a) st.o) (K (st.ev b) st.o) | _ => False := by exact id rfl
theorem Qul (P : Program) (R : List Nat) (st : GSt) (d : Option Nat) (K : GVal → List GObj → Prop) (t : TypeId) (x : Operand) : opS P R st d (.call ⟨.builtin .len, #[x], #[t]⟩) K = lenV P t (st.ev x) st.o (fun g => K g st.o) := by exact id rfl
theorem Qum (P : Program) (R : List Nat) (st : GSt) (d : Option Nat) (K : GVal → List GObj → Prop) (t : TypeId) (x : Operand) : opS P R st d (.call ⟨.builtin .cap, #[x], #[t]⟩) K = capV P t (st.ev x) (fun g => K g st.o) := by exact id rfl
theorem Qun (P : Program) (R : List Nat) (st : GSt) (d : Option Nat) (K : GVal → List GObj → Prop) (ts : Array TypeId) (x y : Operand) : opS P R st d (.call ⟨.builtin .min, #[x, y], ts⟩) K = minV false [st.ev x, st.ev y] (fun g => K g st.o) := by exact id rfl
theorem Quo (P : Program) (R : List Nat) (st : GSt) (d : Option Nat) (K : GVal → List GObj → Prop) (ts : Array TypeId) (x y : Operand) : opS P R st d (.call ⟨.builtin .max, #[x, y], ts⟩) K = minV true [st.ev x, st.ev y] (fun g => K g st.o) := by exact id rfl
theorem Qkm (P : Program) (R : List Nat) (st : GSt) (d : Option Nat) (K : GVal → List GObj → Prop) (t u : TypeId) (x y : Operand) : opS P R st d (.call ⟨.builtin .delete, #[x, y], #[t, u]⟩) K = QbC P t (st.ev x) (st.ev y) st.o (fun O' => K (.tuple []) O') := by exact id rfl
theorem Qdm (P : Program) (R : List Nat) (st : GSt) (d : Option Nat) (K : GVal → List GObj → Prop) (t : TypeId) (x : Operand) : opS P R st d (.call ⟨.builtin .clear, #[x], #[t]⟩) K = Qcj P t (st.ev x) st.o (fun O' => K (.tuple []) O') := by exact id rfl
theorem Qkn (P : Program) (R : List Nat) (st : GSt) (d : Nat) (K : GVal → List GObj → Prop) (t u : TypeId) (x y : Operand) : opS P R st (some d) (.call ⟨.builtin .append, #[x, y], #[t, u]⟩) K = Qal P (R.contains d) t u (st.ev x) (st.ev y) st.o K := by exact id rfl
theorem Qoz (P : Program) (R : List Nat) (st : GSt) (d : Option Nat) (K : GVal → List GObj → Prop) (f : FuncId) (as : List Operand) (ts : Array TypeId) : opS P R st d (.call ⟨.value (.func f), as.toArray, ts⟩) K = GCalls P f (as.map st.ev) st.o K := by
 show GCalls P f ([] ++ as.map st.ev ++ []) st.o K = _
 rw [List.nil_append, List.append_nil]
theorem Qjh (P : Program) (R : List Nat) (st : GSt) (d : Option Nat) (K : GVal → List GObj → Prop) (t : Nat) (as : List Operand) (ts : Array TypeId) : opS P R st d (.call ⟨.value (.tmp t), as.toArray, ts⟩) K = match st.ev (.tmp t) with | .func (.func n) first caps => GCalls P n (first ++ as.map st.ev ++ caps) st.o K | _ => False := by exact id rfl
theorem Qup (s : List GVal) (o : List GObj) (n : Nat) : (⟨s, o⟩ : GSt).ev (.tmp n) = sget s n := by exact id rfl
theorem QlY (st : GSt) (v : Value) : st.ev (.const v) = .ofConst v := by exact id rfl
theorem QoA (st : GSt) (f : FuncId) : st.ev (.func f) = .func (.func f) [] [] := by exact id rfl
theorem QlZ (s : List GVal) (o : List GObj) (d : Nat) (g : GVal) (O' : List GObj) : GSt.put ⟨s, o⟩ (some d) g O' = ⟨s.set d g, O'⟩ := by exact id rfl
theorem Ql0 (s : List GVal) (o : List GObj) (g : GVal) (O' : List GObj) : GSt.put ⟨s, o⟩ none g O' = ⟨s, O'⟩ := by exact id rfl
theorem QoB (s : List GVal) (o : List GObj) (d : Nat) (g : GVal) : GSt.setS ⟨s, o⟩ d g = ⟨s.set d g, o⟩ := by exact id rfl
theorem Ql1 (P : Program) (t : TypeId) (k : IntKind) (a b : Int) (K : GVal → Prop) : binV P .add t (.int k a) (.int k b) K = K (.int k (norm k (a + b))) := by simp only [binV, true_and]
theorem Ql2 (P : Program) (t : TypeId) (k : IntKind) (a b : Int) (K : GVal → Prop) : binV P .sub t (.int k a) (.int k b) K = K (.int k (norm k (a - b))) := by simp only [binV, true_and]
theorem Ql3 (P : Program) (t : TypeId) (k : IntKind) (a b : Int) (K : GVal → Prop) : binV P .mul t (.int k a) (.int k b) K = K (.int k (norm k (a * b))) := by simp only [binV, true_and]
theorem Ql4 (P : Program) (t : TypeId) (k : IntKind) (a b : Int) (K : GVal → Prop) : binV P .quo t (.int k a) (.int k b) K = (b ≠ 0 ∧ K (.int k (norm k (a.tdiv b)))) := by simp only [binV, true_and]
theorem Ql5 (P : Program) (t : TypeId) (k : IntKind) (a b : Int) (K : GVal → Prop) : binV P .rem t (.int k a) (.int k b) K = (b ≠ 0 ∧ K (.int k (a.tmod b))) := by simp only [binV, true_and]
theorem Ql6 (P : Program) (t : TypeId) (k : IntKind) (a b : Int) (K : GVal → Prop) : binV P .eql t (.int k a) (.int k b) K = K (.bool (a == b)) := by simp only [binV, true_and]
theorem Ql7 (P : Program) (t : TypeId) (k : IntKind) (a b : Int) (K : GVal → Prop) : binV P .neq t (.int k a) (.int k b) K = K (.bool (a != b)) := by simp only [binV, true_and]
theorem Ql8 (P : Program) (t : TypeId) (k : IntKind) (a b : Int) (K : GVal → Prop) : binV P .lss t (.int k a) (.int k b) K = K (.bool (decide (a < b))) := by simp only [binV, true_and]
theorem Ql9 (P : Program) (t : TypeId) (k : IntKind) (a b : Int) (K : GVal → Prop) : binV P .leq t (.int k a) (.int k b) K = K (.bool (decide (a ≤ b))) := by simp only [binV, true_and]
theorem Qma (P : Program) (t : TypeId) (k : IntKind) (a b : Int) (K : GVal → Prop) : binV P .gtr t (.int k a) (.int k b) K = K (.bool (decide (b < a))) := by simp only [binV, true_and]
theorem Qmb (P : Program) (t : TypeId) (k : IntKind) (a b : Int) (K : GVal → Prop) : binV P .geq t (.int k a) (.int k b) K = K (.bool (decide (b ≤ a))) := by simp only [binV, true_and]
@[congr] theorem cg_binV {P : Program} {K : GVal → Prop} {op : BinOp} {t : TypeId} {x y : GVal} {x' : GVal} {y' : GVal} (h0 : x = x') (h1 : y = y') : binV P op t x y K = binV P op t x' y' K := by
 subst h0; subst h1; rfl
@[congr] theorem cg_unV {K : GVal → Prop} {op : UnOp} {x : GVal} {x' : GVal} (h0 : x = x') : unV op x K = unV op x' K := by
 subst h0; rfl
@[congr] theorem cg_convV {P : Program} {K : GVal → Prop} {s t : TypeId} {x : GVal} {x' : GVal} (h0 : x = x') : Qc2 P s t x K = Qc2 P s t x' K := by
 subst h0; rfl
@[congr] theorem cg_loadV {P : Program} {K : GVal → Prop} {t : TypeId} {g : GVal} {O : List GObj} {g' : GVal} {O' : List GObj} (h0 : g = g') (h1 : O = O') : QaH P t g O K = QaH P t g' O' K := by
 subst h0; subst h1; rfl
@[congr] theorem Qvf {P : Program} {K : List GObj → Prop} {t : TypeId} {g v : GVal} {O : List GObj} {g' : GVal} {v' : GVal} {O' : List GObj} (h0 : g = g') (h1 : v = v') (h2 : O = O') : QaM P t g v O K = QaM P t g' v' O' K := by
 subst h0; subst h1; subst h2; rfl
@[congr] theorem Qm2 {P : Program} {K : GVal → Prop} {s : TypeId} {g : GVal} {f : Nat} {g' : GVal} (h0 : g = g') : Qag P s g f K = Qag P s g' f K := by
 subst h0; rfl
@[congr] theorem Qvg {P : Program} {K : GVal → Prop} {s : TypeId} {g : GVal} {f : Nat} {g' : GVal} (h0 : g = g') : QbO P s g f K = QbO P s g' f K := by
 subst h0; rfl
@[congr] theorem Qm3 {P : Program} {K : GVal → Prop} {t : TypeId} {g i : GVal} {O : List GObj} {g' : GVal} {i' : GVal} {O' : List GObj} (h0 : g = g') (h1 : i = i') (h2 : O = O') : Qac P t g i O K = Qac P t g' i' O' K := by
 subst h0; subst h1; subst h2; rfl
@[congr] theorem Qvh {P : Program} {K : GVal → Prop} {t : TypeId} {g i : GVal} {g' : GVal} {i' : GVal} (h0 : g = g') (h1 : i = i') : QbP P t g i K = QbP P t g' i' K := by
 subst h0; subst h1; rfl
@[congr] theorem QpB {K : GVal → Prop} {g : GVal} {n : Nat} {g' : GVal} (h0 : g = g') : QaB g n K = QaB g' n K := by
 subst h0; rfl
@[congr] theorem Qvi {P : Program} {K : GVal → List GObj → Prop} {t : TypeId} {O : List GObj} {O' : List GObj} (h0 : O = O') : QbQ P t O K = QbQ P t O' K := by
 subst h0; rfl
@[congr] theorem Qm4 {P : Program} {K : GVal → List GObj → Prop} {t : TypeId} {g i : GVal} {O : List GObj} {g' : GVal} {i' : GVal} {O' : List GObj} (h0 : g = g') (h1 : i = i') (h2 : O = O') : QaV P t g i O K = QaV P t g' i' O' K := by
 subst h0; subst h1; subst h2; rfl
@[congr] theorem QpJ {P : Program} {K : GVal → Prop} {t : TypeId} {m x : GVal} {ok : Bool} {O : List GObj} {m' : GVal} {x' : GVal} {O' : List GObj} (h0 : m = m') (h1 : x = x') (h2 : O = O') : Qbd P t m x ok O K = Qbd P t m' x' ok O' K := by
 subst h0; subst h1; subst h2; rfl
@[congr] theorem Qm5 {P : Program} {K : List GObj → Prop} {t : TypeId} {m x v : GVal} {O : List GObj} {m' : GVal} {x' : GVal} {v' : GVal} {O' : List GObj} (h0 : m = m') (h1 : x = x') (h2 : v = v') (h3 : O = O') : Qav P t m x v O K = Qav P t m' x' v' O' K := by
 subst h0; subst h1; subst h2; subst h3; rfl
@[congr] theorem QpK {P : Program} {K : List GObj → Prop} {t : TypeId} {m x : GVal} {O : List GObj} {m' : GVal} {x' : GVal} {O' : List GObj} (h0 : m = m') (h1 : x = x') (h2 : O = O') : QbC P t m x O K = QbC P t m' x' O' K := by
 subst h0; subst h1; subst h2; rfl
@[congr] theorem Qvj {P : Program} {K : List GObj → Prop} {t : TypeId} {x : GVal} {O : List GObj} {x' : GVal} {O' : List GObj} (h1 : x = x') (h2 : O = O') : Qcj P t x O K = Qcj P t x' O' K := by
 subst h1; subst h2; rfl
@[congr] theorem QpC {K : GVal → List GObj → Prop} {O : List GObj} {O' : List GObj} (h0 : O = O') : Qa4 O K = Qa4 O' K := by
 subst h0; rfl
@[congr] theorem cg_boxV {K : GVal → List GObj → Prop} {b : Bool} {g : GVal} {O : List GObj} {b' : Bool} {g' : GVal} {O' : List GObj} (h0 : b = b') (h1 : g = g') (h2 : O = O') : boxV b g O K = boxV b' g' O' K := by
 subst h0; subst h1; subst h2; rfl
@[congr] theorem Qvk {P : Program} {K : GVal → Prop} {t : TypeId} {gs : List (Nat × GVal)} {gs' : List (Nat × GVal)} (h0 : gs = gs') : Qbt P t gs K = Qbt P t gs' K := by
 subst h0; rfl
@[congr] theorem QlD {P : Program} {K : GVal → Prop} {t : TypeId} {n : Nat} {gs : List (Nat × GVal)} {gs' : List (Nat × GVal)} (h0 : gs = gs') : Qaf P t n gs K = Qaf P t n gs' K := by
 subst h0; rfl
@[congr] theorem Qvl {P : Program} {K : GVal → Prop} {t : TypeId} {g : GVal} {lo hi mx : Option GVal} {O : List GObj} {g' : GVal} {lo' : Option GVal} {hi' : Option GVal} {mx' : Option GVal} {O' : List GObj} (h0 : g = g') (h1 : lo = lo') (h2 : hi = hi') (h3 : mx = mx') (h4 : O = O') : Qao P t g lo hi mx O K = Qao P t g' lo' hi' mx' O' K := by
 subst h0; subst h1; subst h2; subst h3; subst h4; rfl
@[congr] theorem cg_nilV {K : GVal → Prop} {g : GVal} {g' : GVal} (h0 : g = g') : nilV g K = nilV g' K := by
 subst h0; rfl
@[congr] theorem Qvm {P : Program} {K : GVal → Prop} {t : TypeId} {g : GVal} {g' : GVal} (h0 : g = g') : QaO P t g K = QaO P t g' K := by
 subst h0; rfl
@[congr] theorem cg_lenV {P : Program} {K : GVal → Prop} {t : TypeId} {g : GVal} {O : List GObj} {g' : GVal} {O' : List GObj} (h0 : g = g') (h1 : O = O') : lenV P t g O K = lenV P t g' O' K := by
 subst h0; subst h1; rfl
@[congr] theorem cg_capV {P : Program} {K : GVal → Prop} {t : TypeId} {g : GVal} {g' : GVal} (h0 : g = g') : capV P t g K = capV P t g' K := by
 subst h0; rfl
@[congr] theorem cg_minV {K : GVal → Prop} {b : Bool} {xs : List GVal} {xs' : List GVal} (h0 : xs = xs') : minV b xs K = minV b xs' K := by
 subst h0; rfl
@[congr] theorem QpL {P : Program} {K : GVal → List GObj → Prop} {b : Bool} {t u : TypeId} {x y : GVal} {O : List GObj} {b' : Bool} {x' : GVal} {y' : GVal} {O' : List GObj} (h0 : b = b') (h1 : x = x') (h2 : y = y') (h3 : O = O') : Qal P b t u x y O K = Qal P b' t u x' y' O' K := by
 subst h0; subst h1; subst h2; subst h3; rfl
@[congr] theorem cg_opS {P : Program} {R : List Nat} {K : GVal → List GObj → Prop} {d : Option Nat} {op : Op} {st : GSt} {st' : GSt} (h0 : st = st') : opS P R st d op K = opS P R st' d op K := by
 subst h0; rfl
@[congr] theorem cg_opsS {P : Program} {R : List Nat} {K : GSt → Prop} {l : List SOp} {st : GSt} {st' : GSt} (h0 : st = st') : opsS P R l K st = opsS P R l K st' := by
 subst h0; rfl
@[congr] theorem cg_ordS {P : Program} {R : List Nat} {K : GSt → Prop} {l : List (SOp × Nat)} {st : GSt} {st' : GSt} (h0 : st = st') : ordS P R l K st = ordS P R l K st' := by
 subst h0; rfl
@[congr] theorem cg_vcS {P : Program} {R : List Nat} {Q : Ex → GSt → Prop} {s : Qbc} {st : GSt} {st' : GSt} (h0 : st = st') : vcS P R s Q st = vcS P R s Q st' := by
 subst h0; rfl
@[congr] theorem cg_loop {P : Program} {R : List Nat} {Q : Ex → GSt → Prop} {s : Qbc} {st : GSt} {st' : GSt} (h0 : st = st') : QdO P R s Q st = QdO P R s Q st' := by
 subst h0; rfl
@[congr] theorem cg_gif {p q : Prop} {b : Bool} {b' : Bool} (h0 : b = b') : gif b p q = gif b' p q := by
 subst h0; rfl
@[congr] theorem Qvn {P : Program} {f : FuncId} {K : GVal → List GObj → Prop} {as : List GVal} {O : List GObj} {as' : List GVal} {O' : List GObj} (h0 : as = as') (h1 : O = O') : GCalls P f as O K = GCalls P f as' O' K := by
 subst h0; subst h1; rfl
@[congr] theorem cg_retQ {P : Program} {rs : List ResultVar} {K : GVal → List GObj → Prop} {e : Ex} {st : GSt} {st' : GSt} (h0 : st = st') : retQ P rs K e st = retQ P rs K e st' := by
 subst h0; rfl
@[congr] theorem cg_thenQ {N : GSt → Prop} {Q : Ex → GSt → Prop} {e : Ex} {st : GSt} {st' : GSt} (h0 : st = st') : Qdd N Q e st = Qdd N Q e st' := by
 subst h0; rfl
@[congr] theorem Qvo {n : Nat} {Q : Ex → GSt → Prop} {e : Ex} {st : GSt} {st' : GSt} (h0 : st = st') : QcH n Q e st = QcH n Q e st' := by
 subst h0; rfl
class Hold (α : Type) where
 val : α
def Qlt (P : Program) (f : FuncId) (as : List GVal) (O : List GObj) [k : Hold (GVal → List GObj → Prop)] : Prop := GCalls P f as O k.val
def Qm0 (P : Program) (R : List Nat) (st : GSt) [a : Hold Qbc] [q : Hold (Ex → GSt → Prop)] : Prop := QdO P R a.val q.val st
theorem Qms (P : Program) (R : List Nat) (st : GSt) (d : Option Nat) (K : GVal → List GObj → Prop) (f : FuncId) (as : List Operand) (ts : Array TypeId) : opS P R st d (.call ⟨.value (.func f), as.toArray, ts⟩) K = @Qlt P f (as.map st.ev) st.o ⟨K⟩ := Qoz P R st d K f as ts
theorem QkC (P : Program) (R : List Nat) (Q : Ex → GSt → Prop) (st : GSt) (a : Qbc) : vcS P R (.loop a) Q st = @Qm0 P R st ⟨a⟩ ⟨Q⟩ := Qm1 P R Q st a
theorem Qh2 (P : Program) (R : List Nat) (st : GSt) (d : Option Nat) (K : GVal → List GObj → Prop) (t : Nat) (as : List Operand) (ts : Array TypeId) : opS P R st d (.call ⟨.value (.tmp t), as.toArray, ts⟩) K = match st.ev (.tmp t) with | .func (.func n) first caps => @Qlt P n (first ++ as.map st.ev ++ caps) st.o ⟨K⟩ | _ => False := Qjh P R st d K t as ts
theorem QoL {α : Type} (x : α) : (Hold.mk x).val = x := rfl
section
variable {st : GSt} {N : GSt → Prop}
theorem Into.row (i sz : Nat) {tg : Tag} (hx : sget st.s i = .slice [] tg) (htg : tg.cap = .full) (h : stamp st.o fun t => Into ⟨st.s.set i (.own st.o.length t 0 0), tickO st.o ++ [.row t sz []]⟩ N) : Into st N := by
 intro E a w hs ha
 obtain ⟨t, hk, ht, hnx, hs, hkeep⟩ := hs.stamp h
 rw [← Qbm st.o] at hk
 obtain ⟨h1, h2⟩ := hs.objNil (.row t sz []) (l := ⟨none, 0, sz, 0⟩) ht hnx rfl ⟨_, Env.addLoc_self _ _ _, rfl, by simp, rfl⟩ (by simp [GObj.blk, Env.addLoc_self])
 have ha' : SlotsR (E.addLoc t ⟨none, 0, sz, 0⟩) a (st.s.set i (.own (tickO st.o).length t 0 0)) := by
  refine ⟨by simp [ha.size], ha.defers, fun k g hg => ?_⟩;rw [List.getElem?_set] at hg;by_cases hk : i = k
  · subst hk;rw [if_pos rfl] at hg;split at hg
    · rename_i hlt;simp only [Option.some.injEq] at hg;subst hg;have := ha.at_ i _ (Qa2 (d := GVal.any) hlt);have hx' : st.s.getD i .any = .slice [] tg := hx;rw [hx'] at this
      revert this
      generalize a.tmps.getD i undef = tv;intro this;cases this with
      | slice a len cap xs tag sz c hlen hcap hsz ha hc htag =>
       have htag := htag.cap hcap;rw [htg] at htag;have h0 : len = 0 := by simpa using hlen
       have h1 : cap = 0 := by rw [← h0]; exact htag
       subst h0;exact .own a 0 cap _ t 0 _ (Env.addLoc_self _ _ _) (Nat.zero_le _) (.inl h1)
    · cases hg
  · rw [if_neg hk] at hg;exact (ha.at_ k g hg).mono h2.ext
 obtain ⟨st', E', q1, q2, q3, q4⟩ := hk _ a w h1 ha'
 exact ⟨st', E', q1, q2, (hkeep.trans h2).trans q3, q4⟩
end
theorem GInto.frzA {g g' r : GVal} {n : Nat} {O : List GObj} {N : GVal → List GObj → Prop} (hg : Gv.frz O n g = some g') (hl : Gv.leA g' r) (h : N r []) : GInto g O N := fun E v w hs hv => by
 obtain ⟨h1, h2⟩ := hs.frz
 exact ⟨r, [], _, h, h1, h2, hl.sound (Qb1 hs n v g g' hv hg)⟩
def Qlo (r : GVal) (g : GVal) (O' : List GObj) : Prop := ∃ n g', Gv.frz O' n g = some g' ∧ Gv.leA g' r
theorem GCalls.toPure {P : Program} {f : FuncId} {args : List GVal} {r : GVal} (h : GCalls P f args [] (Qlo r)) : GPure P f args r :=
 (h.mono fun g O' ⟨n, g', h1, h2⟩ => GInto.frzA (N := fun g O' => g = r ∧ O' = []) h1 h2 ⟨rfl, rfl⟩).into
theorem FnS.pureF {P : Program} (hmix : P.follows .mixedOrders = true) {f : FuncId} {C : Cfg} {n : Nat} {rs : List ResultVar} {s : Qbc} (h : FnS P f C n rs s) {args : List GVal} {r : GVal} (ha : args.length ≤ n)
 (hk : vcS P C.ro s (retQ P rs (Qlo r)) (gstart n args [])) : GPure P f args r := GCalls.toPure (h.calls hmix ha hk)
theorem Qcp {f : GVal → Option GVal} : ∀ {xs : List (List GVal)}, (∀ x ∈ xs, frzL f x = some x) → frzLL f xs = some xs
 | [], _ => rfl
 | x :: xs, h => by rw [frzLL, h x (by simp), Qcp fun y hy => h y (by simp [hy])]
theorem Qgd (O : List GObj) (n : Nat) (l : List Int) : frzLL (Gv.frz O (n + 1)) (ints l) = some (ints l) :=
 Qcp fun x hx => by obtain ⟨i, _, rfl⟩ := List.mem_map.1 hx; simp [frzL, Gv.frz]
theorem QdA {O : List GObj} {n o st len sz : Nat} {xs : List (List GVal)} (hO : O[o]? = some (.row st sz xs)) (hl : len = xs.length) (h : frzLL (Gv.frz O n) xs = some xs) : Gv.frz O (n + 1) (.own o st 0 len) = some (.slice xs .none) := by
 subst hl
 rw [Gv.frz, hO]
 simp only [true_and, Nat.zero_add, Nat.le_refl, if_true, List.drop_zero, List.take_length, h]
theorem HSim.cells {E : Env} {O : List GObj} {w : World} (h : HSim E O w) {i st sz : Nat} {xs ys : List (List GVal)} (hO : O[i]? = some (.row st sz xs)) (hlen : ys.length = xs.length) (hsz : ∀ y ∈ ys, y.length = sz)
 (hc : ∀ (j : Nat) g', ys.flatten[j]? = some g' → ∃ g, xs.flatten[j]? = some g ∧ ∀ v, VR E v g → VR E v g') :
 HSim E (O.set i (.row st sz ys)) w ∧ Keep E O w E (O.set i (.row st sz ys)) w := by
 have hi : i < O.length := (List.getElem?_eq_some_iff.1 hO).1
 have get : ∀ (k : Nat) x, (O.set i (.row st sz ys))[k]? = some x → (k = i ∧ x = .row st sz ys) ∨ O[k]? = some x := by
  intro k x hx;rw [List.getElem?_set] at hx;by_cases e : i = k
  · rw [if_pos e] at hx;rw [if_pos hi] at hx;simp only [Option.some.injEq] at hx; exact .inl ⟨e.symm, hx.symm⟩
  · rw [if_neg e] at hx; exact .inr hx
 have blk : ∀ (k : Nat) x, (O.set i (.row st sz ys))[k]? = some x → ∃ y, O[k]? = some y ∧ x.blk E = y.blk E := by
  intro k x hx;rcases get k x hx with ⟨rfl, rfl⟩ | hx
  · exact ⟨_, hO, rfl⟩
  · exact ⟨x, hx, rfl⟩
 refine ⟨⟨?_, h.sealed, h.one, fun k x hx => ?_, fun a b oa ob bb hab ha hb h1 h2 => ?_, h.glob⟩, ⟨.refl E, rfl, rfl, Nat.le_refl _, fun _ _ _ => rfl, fun _ _ _ hv => .inl hv, fun b ⟨k, x, hx, hb⟩ => ?_, trivial⟩⟩
 · obtain ⟨n, h1, h2⟩ := h.fin;exact ⟨n, fun c hc => h1 c (by rwa [Qb2 hO rfl rfl] at hc), h2⟩
 · rcases get k x hx with ⟨rfl, rfl⟩ | hx
   · obtain ⟨l, hl, h1, h2, h3⟩ := h.real _ _ hO;refine ⟨l, hl, h1, hsz, ?_⟩;cases hb : l.block with
     | none =>
      simp only [hb] at h3;subst h3
      simpa using hlen
     | some b =>
      simp only [hb] at h3 ⊢;obtain ⟨cur, el, a1, a2, a3, a4, a5⟩ := h3;refine ⟨cur, el, a1, a2, by rw [hlen]; exact a3, fun j g hj => ?_, a5⟩;obtain ⟨g0, hg0, hm⟩ := hc j g hj;obtain ⟨v, hv, h4, hr⟩ := a4 j g0 hg0;exact ⟨v, hv, h4, hm v hr⟩
   · exact h.real k x hx
 · obtain ⟨ya, hya, ea⟩ := blk a oa ha;obtain ⟨yb, hyb, eb⟩ := blk b ob hb;exact h.sep a b ya yb bb hab hya hyb (by rw [← ea]; exact h1) (by rw [← eb]; exact h2)
 · obtain ⟨y, hy, e⟩ := blk k x hx;exact .inl ⟨k, y, hy, by rw [← e]; exact hb⟩
section
variable {st : GSt} {N : GSt → Prop}
theorem Into.cells (i : Nat) {t sz : Nat} {cs : List GVal} (cs' : List GVal) (hO : st.o[i]? = some (.row t sz [cs])) (hs : cs'.length = sz) (hw : WL cs cs') (h : Into ⟨st.s, st.o.set i (.row t sz [cs'])⟩ N) : Into st N := by
 intro E a w hs' ha
 obtain ⟨h1, h2⟩ := hs'.cells hO (ys := [cs']) rfl (by simp [hs]) (fun j g' hj => by
  simp only [List.flatten_cons, List.flatten_nil, List.append_nil] at hj ⊢;obtain ⟨x, hx, hl⟩ := hw.at_ j g' hj;exact ⟨x, hx, fun v hv => hl.sound hv⟩)
 obtain ⟨st', E', q1, q2, q3, q4⟩ := h E a w h1 ha
 exact ⟨st', E', q1, q2, h2.trans q3, q4⟩
theorem Into.drop {O X : List GObj} (ho : st.o = O ++ X) (h : Into ⟨st.s, O⟩ N) : Into st N := by
 intro E a w hs ha
 rw [ho] at hs
 obtain ⟨h1, h2⟩ := hs.drop
 obtain ⟨st', E', q1, q2, q3, q4⟩ := h E a w h1 ha
 exact ⟨st', E', q1, q2, by rw [ho]; exact h2.trans q3, q4⟩
theorem Into.cellTok (i c tsz : Nat) {t sz : Nat} {cs : List GVal} (xs : List (List GVal)) {tg : Tag} (hO : st.o[i]? = some (.row t sz [cs])) (hc : cs[c]? = some (.slice xs tg)) (htg : tg.cap = .full) (hcl : cs.length = sz)
 (h : stamp st.o fun u => Into ⟨st.s, ((tickO st.o) ++ [GObj.tok u tsz]).set i (.row t sz [cs.set c (.slice xs (.tok st.o.length u))])⟩ N) : Into st N := by
 intro E a w hs ha
 obtain ⟨u, hk, ht, hnx, hs, hkeep⟩ := hs.stamp h
 rw [← Qbm st.o] at hk
 obtain ⟨h1, h2⟩ := hs.objNil (.tok u tsz) (l := ⟨none, 0, tsz, 0⟩) ht hnx rfl ⟨_, Env.addLoc_self _ _ _, rfl, trivial⟩ (by simp [GObj.blk, Env.addLoc_self])
 have hO' : (tickO st.o ++ [GObj.tok u tsz])[i]? = some (.row t sz [cs]) := by
  have := Qdg hO rfl;rw [List.getElem?_append_left (List.getElem?_eq_some_iff.1 this).1]; exact this
 obtain ⟨h3, h4⟩ := h1.cells hO' (ys := [cs.set c (.slice xs (.tok (tickO st.o).length u))]) rfl (by simp [hcl]) (fun j g' hj => by
  simp only [List.flatten_cons, List.flatten_nil, List.append_nil] at hj ⊢;rw [List.getElem?_set] at hj;by_cases e : c = j
  · subst e;rw [if_pos rfl] at hj;split at hj
    · simp only [Option.some.injEq] at hj;subst hj;refine ⟨_, hc, fun v hv => ?_⟩;cases hv with
      | slice a len cap xs tag sz c hlen hcap hsz ha hc htag =>
       have htag := htag.cap hcap;rw [htg] at htag;exact .slice a len cap xs _ sz c hlen hcap hsz ha hc ⟨_, Env.addLoc_self _ _ _, .inl htag⟩
    · cases hj
  · rw [if_neg e] at hj;exact ⟨g', hj, fun v hv => hv⟩)
 obtain ⟨st', E', q1, q2, q3, q4⟩ := hk _ a w h3 (ha.mono h2.ext)
 exact ⟨st', E', q1, q2, ((hkeep.trans h2).trans h4).trans q3, q4⟩
end
theorem ext_0 (a : GVal) (r : List GVal) (K : GVal → Prop) : QaB (.tuple (a :: r)) 0 K = K a := by rw [QaB]; rfl
theorem ext_1 (a b : GVal) (r : List GVal) (K : GVal → Prop) : QaB (.tuple (a :: b :: r)) 1 K = K b := by rw [QaB]; rfl
theorem ext_2 (a b c : GVal) (r : List GVal) (K : GVal → Prop) : QaB (.tuple (a :: b :: c :: r)) 2 K = K c := by rw [QaB]; rfl
theorem ext_3 (a b c d : GVal) (r : List GVal) (K : GVal → Prop) : QaB (.tuple (a :: b :: c :: d :: r)) 3 K = K d := by rw [QaB]; rfl
theorem QoT (a b : Bool) (p q : Prop) : gif (a != b) p q = gif a (gif b q p) (gif b p q) := by cases a <;> cases b <;> rfl
theorem QoU (a b : Bool) (p q : Prop) : gif (a == b) p q = gif a (gif b p q) (gif b q p) := by cases a <;> cases b <;> rfl
end Gv
namespace Gv
open Go
def GRel (P : Program) (f : FuncId) (args : List GVal) (R : GVal → Prop) : Prop := GCalls P f args [] (fun g O' => R g ∧ O' = [])
theorem GRel.frame {P : Program} {f : FuncId} {args : List GVal} {R : GVal → Prop} (h : GRel P f args R) (O : List GObj) (hc : Qad O = none) : GCalls P f args O (fun g O' => R g ∧ O' = O) := by
 refine ⟨h.1, fun E w vs hs ha => (h.2 E w vs hs.nil ha).mono ?_⟩
 rintro e w' ⟨v, E', O', g, rfl, h1, h2, h3, hR, rfl⟩
 have hno : ∀ b, ¬ InO E [] b := fun b ⟨i, x, hx, _⟩ => by simp at hx
 have hold : ∀ b, b < w.heap.size → w'.heap[b]? = w.heap[b]? := fun b hb => h2.heap b hb (hno b)
 have hsn : ∀ b o v, b < w.heap.size → E'.snap b o = some v → E.snap b o = some v := fun b o v hb hv => by
  rcases h2.snap b o v hv with q | q | q
  · exact q
  · omega
  · exact absurd q (hno b)
 have hreal : ∀ (i : Nat) x, O[i]? = some x → Qap E' w' x := fun i x hx =>
  (hs.real i x hx).keep h2.ext (fun b hb => hold b ((hs.real i x hx).blk_lt hb)) (fun b o v hb hv => hsn b o v ((hs.real i x hx).blk_lt hb) hv)
 have hb : ∀ (i : Nat) x, O[i]? = some x → x.blk E' = x.blk E := fun i x hx => GObj.blk_mono h2.ext (hs.real i x hx)
 refine ⟨v, E', O, g, rfl, ⟨by obtain ⟨n, _, q⟩ := h1.fin; exact ⟨n, (fun c e => by rw [hc] at e; cases e), q⟩, h1.sealed, h1.one, hreal, fun i j oi oj b hij hi hj hbi hbj => ?_, h1.glob⟩, ⟨h2.ext, h2.os, h2.out, h2.size, fun b hb _ => hold b hb, fun b o v hv => ?_, fun b ⟨i, x, hx, hbx⟩ => .inl ⟨i, x, hx, by rw [← hb i x hx]; exact hbx⟩, h2.frz⟩, h3, hR, rfl⟩
 · rw [hb i oi hi] at hbi;rw [hb j oj hj] at hbj;exact hs.sep i j oi oj b hij hi hj hbi hbj
 · rcases h2.snap b o v hv with q | q | q
   · exact .inl q
   · exact .inr (.inl q)
   · exact absurd q (hno b)
theorem GRel.then {P : Program} {f : FuncId} {args : List GVal} {R : GVal → Prop} (h : GRel P f args R) {O : List GObj} {K : GVal → List GObj → Prop} (hk : ∀ g, R g → K g O) (hc : Qad O = none := by rfl) : GCalls P f args O K :=
 (h.frame O hc).mono fun g O' ⟨e1, e2⟩ => by subst e2; exact hk g e1
theorem GCalls.toRel {P : Program} {f : FuncId} {args : List GVal} {R : GVal → Prop} (h : GCalls P f args [] (fun g O' => ∃ r, Qlo r g O' ∧ R r)) : GRel P f args R :=
 (h.mono fun g O' ⟨r, ⟨n, g', h1, h2⟩, hR⟩ => GInto.frzA (N := fun g O' => R g ∧ O' = []) h1 h2 ⟨hR, rfl⟩).into
theorem FnS.rel {P : Program} (hmix : P.follows .mixedOrders = true) {f : FuncId} {C : Cfg} {n : Nat} {rs : List ResultVar} {s : Qbc} (h : FnS P f C n rs s) {args : List GVal} {R : GVal → Prop} (ha : args.length ≤ n)
 (hk : vcS P C.ro s (retQ P rs (fun g O' => ∃ r, Qlo r g O' ∧ R r)) (gstart n args [])) : GRel P f args R := GCalls.toRel (h.calls hmix ha hk)
theorem QoV (N : GSt → Prop) (Q : Ex → GSt → Prop) (st : GSt) : Qdd N Q .normal st = N st := rfl
theorem QoW (N : GSt → Prop) (Q : Ex → GSt → Prop) (st : GSt) : Qdd N Q .ret st = Q .ret st := rfl
theorem QoX (N : GSt → Prop) (Q : Ex → GSt → Prop) (n : Nat) (st : GSt) : Qdd N Q (.exit n) st = Q (.exit n) st := rfl
theorem Qmt (id : Nat) (Q : Ex → GSt → Prop) (st : GSt) : QcH id Q .normal st = Q .normal st := rfl
theorem Qmu (id : Nat) (Q : Ex → GSt → Prop) (st : GSt) : QcH id Q .ret st = Q .ret st := rfl
theorem Qmv (id n : Nat) (Q : Ex → GSt → Prop) (st : GSt) : QcH id Q (.exit n) st = if n = id then Q .normal st else Q (.exit n) st := rfl
theorem QuP (P : Program) (rs : List ResultVar) (K : GVal → List GObj → Prop) (st : GSt) : retQ P rs K .normal st = resV P st rs (fun gs => K (resG gs) st.o) := rfl
theorem QuQ (P : Program) (rs : List ResultVar) (K : GVal → List GObj → Prop) (st : GSt) : retQ P rs K .ret st = resV P st rs (fun gs => K (resG gs) st.o) := rfl
theorem Into.slot {st : GSt} {N : GSt → Prop} (i : Nat) (g g' : GVal) (hx : sget st.s i = g) (hv : ∀ E v, VR E v g → VR E v g') (h : Into ⟨st.s.set i g', st.o⟩ N) : Into st N := by
 intro E a w hs ha
 have ha' : SlotsR E a (st.s.set i g') := by
  refine ⟨by simp [ha.size], ha.defers, fun k y hy => ?_⟩;rw [List.getElem?_set] at hy;by_cases hk : i = k
  · subst hk;rw [if_pos rfl] at hy;split at hy
    · rename_i hlt;simp only [Option.some.injEq] at hy;subst hy;have := ha.at_ i _ (Qa2 (d := GVal.any) hlt);have hx' : st.s.getD i .any = g := hx;rw [hx'] at this;exact hv _ _ this
    · cases hy
  · rw [if_neg hk] at hy;exact ha.at_ k y hy
 obtain ⟨st', E', q1, q2, q3, q4⟩ := h E a w hs ha'
 exact ⟨st', E', q1, q2, q3, q4⟩
theorem QuL (a b c d x : List GVal) (r : List (List GVal)) : (a :: b :: c :: d :: r).set 3 x = a :: b :: c :: x :: r := rfl
theorem QuM (a b c d e x : List GVal) (r : List (List GVal)) : (a :: b :: c :: d :: e :: r).set 4 x = a :: b :: c :: d :: x :: r := rfl
theorem Qb8 (a b c d x : GObj) (r : List GObj) : (a :: b :: c :: d :: r).set 3 x = a :: b :: c :: x :: r := rfl
theorem Qb9 (a b c d e x : GObj) (r : List GObj) : (a :: b :: c :: d :: e :: r).set 4 x = a :: b :: c :: d :: x :: r := rfl
theorem Qcq (a b c d e f x : GObj) (r : List GObj) : (a :: b :: c :: d :: e :: f :: r).set 5 x = a :: b :: c :: d :: e :: x :: r := rfl
def GLe (x y : GVal) : Prop := ∀ E v, VR E v x → VR E v y
theorem GLe.refl (x : GVal) : GLe x x := fun _ _ h => h
theorem GLe.of (x y : GVal) (h : leG x y) : GLe x y := fun _ _ hv => h.sound hv
def GLes : List GVal → List GVal → Prop
 | [], [] => True
 | x :: xs, y :: ys => GLe x y ∧ GLes xs ys
 | _, _ => False
theorem GLes.refl : ∀ xs, GLes xs xs
 | [] => trivial
 | x :: xs => ⟨.refl x, GLes.refl xs⟩
theorem GLes.len : ∀ {xs ys : List GVal}, GLes xs ys → xs.length = ys.length
 | [], [], _ => rfl
 | x :: xs, y :: ys, h => by simp [GLes.len h.2]
 | [], _ :: _, h => h.elim
 | _ :: _, [], h => h.elim
theorem GLes.at_ : ∀ {xs ys : List GVal}, GLes xs ys → ∀ (i : Nat) y, ys[i]? = some y → ∃ x, xs[i]? = some x ∧ GLe x y
 | [], [], _, i, y, h => by simp at h
 | x :: xs, z :: ys, h, 0, y, hy => by simp at hy; subst hy; exact ⟨x, rfl, h.1⟩
 | x :: xs, z :: ys, h, i + 1, y, hy => by simpa using GLes.at_ h.2 i y (by simpa using hy)
 | [], _ :: _, h, _, _, _ => h.elim
 | _ :: _, [], h, _, _, _ => h.elim
theorem GLes.app : ∀ {a b c d : List GVal}, GLes a b → GLes c d → GLes (a ++ c) (b ++ d)
 | [], [], _, _, _, h => h
 | x :: xs, y :: ys, _, _, h, k => ⟨h.1, GLes.app h.2 k⟩
 | [], _ :: _, _, _, h, _ => h.elim
 | _ :: _, [], _, _, h, _ => h.elim
def QaS : List (List GVal) → List (List GVal) → Prop
 | [], [] => True
 | x :: xs, y :: ys => GLes x y ∧ QaS xs ys
 | _, _ => False
theorem QaS.refl : ∀ xs, QaS xs xs
 | [] => trivial
 | x :: xs => ⟨.refl x, QaS.refl xs⟩
theorem QaS.flat : ∀ {xs ys : List (List GVal)}, QaS xs ys → GLes xs.flatten ys.flatten ∧ xs.length = ys.length ∧ ∀ sz, (∀ x ∈ xs, x.length = sz) → ∀ y ∈ ys, y.length = sz
 | [], [], _ => ⟨trivial, rfl, fun _ _ y hy => by simp at hy⟩
 | x :: xs, y :: ys, h => by
  obtain ⟨h1, h2, h3⟩ := QaS.flat h.2;refine ⟨?_, by simp [h2], fun sz hs z hz => ?_⟩
  · simp only [List.flatten_cons]; exact h.1.app h1
  · rcases List.mem_cons.1 hz with rfl | hz
    · rw [← h.1.len]; exact hs x (by simp)
    · exact h3 sz (fun x hx => hs x (by simp [hx])) z hz
 | [], _ :: _, h => h.elim
 | _ :: _, [], h => h.elim
theorem QaS.set : ∀ (xs : List (List GVal)) (i : Nat) {c c' : List GVal}, GLes c c' → QaS (xs.set i c) (xs.set i c')
 | [], _, _, _, _ => trivial
 | x :: xs, 0, _, _, h => ⟨h, .refl xs⟩
 | x :: xs, i + 1, _, _, h => ⟨.refl x, QaS.set xs i h⟩
theorem QaS.app : ∀ {a b c d : List (List GVal)}, QaS a b → QaS c d → QaS (a ++ c) (b ++ d)
 | [], [], _, _, _, h => h
 | x :: xs, y :: ys, _, _, h, k => ⟨h.1, QaS.app h.2 k⟩
 | [], _ :: _, _, _, h, _ => h.elim
 | _ :: _, [], _, _, h, _ => h.elim
theorem GLe.slice {xs ys : List (List GVal)} {t : Tag} (h : QaS xs ys) : GLe (.slice xs t) (.slice ys t) := fun E v hv => by
 obtain ⟨h1, h2, h3⟩ := h.flat
 cases hv with
 | slice a len cap _ _ sz c hlen hcap hsz ha hcc ht =>
  refine .slice a len cap ys t sz c (by rw [hlen, h2]) hcap (h3 sz hsz) (fun hn => ha ?_) (fun j g' hj => ?_) ht
  · intro e;subst e;exact hn (List.length_eq_zero_iff.1 h2.symm)
  · obtain ⟨g, hg, hle⟩ := h1.at_ j g' hj;exact hle _ _ (hcc j g hg)
theorem GLe.trans {x y z : GVal} (h : GLe x y) (k : GLe y z) : GLe x z := fun E v hv => k E v (h E v hv)
theorem GLe.agg {xs ys : List GVal} (h : GLes xs ys) : GLe (.agg xs) (.agg ys) := fun E v hv => by
 cases hv with
 | agg vs cs hs hc => exact .agg vs ys (by rw [hs, h.len]) (fun j g hg => by
  obtain ⟨x, hx, hl⟩ := h.at_ j g hg;exact hl _ _ (hc j x hx))
theorem GLe.tuple {xs ys : List GVal} (h : GLes xs ys) : GLe (.tuple xs) (.tuple ys) := fun E v hv => by
 cases hv with
 | tuple vs cs hs hc => exact .tuple vs ys (by rw [hs, h.len]) (fun j g hg => by
  obtain ⟨x, hx, hl⟩ := h.at_ j g hg;exact hl _ _ (hc j x hx))
theorem GLe.none {xs : List (List GVal)} {t : Tag} : GLe (.slice xs t) (.slice xs .none) := .of _ _ (by rw [leG_none])
def vcA := ai @Qmi <| ai @QoH <| ai @QoI <| ai @QoJ <| ai @Qmj <| ai @QkB <| ai @Qmk <| ai @QoK <| ai @QkC <| ai @Qga <| ai @Qd9 <| ai @QhY <| ai @Qml <| ai @Qgb <| ai @QhZ <| ai @QoL <| ai @Qup <| ai @QlY <| ai @QoA <| ai @QlZ <| ai @Ql0 <| ai @QoB <| ai @Quz <| ai @QuA <| ai @QuB <| ai @QuC <| ai @QuD <| ai @set_0 <| ai @set_1 <| ai @set_2 <| ai @set_3 <| ai @set_4 <| ai @QuE <| ai @QuF <| ai @QuG <| ai @QuH <| ai @QuI <| ai @QuJ <| ai @QaZ <| ai @Qh0 <| ai @Qdb <| ai @QcB <| ai @Qaa <| ai @Qjq <| ai @Qbb <| ai @QoM <| ai @all_cons <| ai @Qjr <| ai @QbT <| ai @Qmm <| ai @QkD <| ai @QkE <| ai @QkF <| ai @QkG <| ai @Qmn <| ai @Qmo <| ai @Qmp <| ai @Qmq <| ai @Qh1 <| ai @QoN <| ai @QoO <| ai @Qea <| ai @Qax <| ai @QoP <| ai @QkH <| ai @QuK <| ai @QoQ <| ai @leG_self <| ai @QuL <| ai @QuM <| ai @Qb8 <| ai @Qb9 <| @Qcq
def vcB := ai @Qmr <| ai @QkI <| ai @QoR <| ai @QoS <| ai @QuN <| ai @QuO <| ai @Qom <| ai @Qkj <| ai @QlQ <| ai @QlR <| ai @Qon <| ai @Qoo <| ai @Qop <| ai @Qoq <| ai @Qor <| ai @Qos <| ai @Qot <| ai @Qou <| ai @Qov <| ai @Qow <| ai @Qje <| ai @Qox <| ai @QlS <| ai @QgL <| ai @QlT <| ai @QgM <| ai @QlU <| ai @Qjf <| ai @QlV <| ai @Qkk <| ai @QgO <| ai @Qkl <| ai @Qjg <| ai @Quk <| ai @QlW <| ai @Qf5 <| ai @QlX <| ai @QhM <| ai @QdZ <| ai @QhN <| ai @Qoy <| ai @Qul <| ai @Qum <| ai @Qun <| ai @Quo <| ai @Qdm <| ai @Qkm <| ai @Qkn <| ai @Qms <| ai @Qh2 <| ai @Ql1 <| ai @Ql2 <| ai @Ql3 <| ai @Ql4 <| ai @Ql5 <| ai @Ql6 <| ai @Ql7 <| ai @Ql8 <| ai @Ql9 <| ai @Qma <| ai @Qmb <| ai @ext_0 <| ai @ext_1 <| ai @ext_2 <| ai @ext_3 <| ai @QoT <| ai @QoU <| ai @QoV <| ai @QoW <| ai @QoX <| ai @Qmt <| ai @Qmu <| ai @Qmv <| ai @QuP <| @QuQ
def vcC := ai @Bool.and_eq_false_imp <| ai @Bool.and_eq_true <| ai @Bool.not_eq_false' <| ai @Bool.not_eq_true' <| ai @Bool.not_false <| ai @Bool.not_true <| ai @Bool.or_false <| ai @Bool.or_true <| ai @Bool.true_or <| ai @Int.cast_ofNat_Int <| ai @Int.natCast_add <| ai @Int.not_le <| ai @Int.not_lt <| ai @Int.toNat_natCast <| ai @Nat.lt_add_one <| ai @Nat.zero_add <| ai @Nat.zero_lt_one <| ai @and_true <| ai @decide_eq_false_iff_not <| ai @decide_eq_true_eq <| ai @decide_true <| ai @false_implies <| ai @not_false_eq_true <| ai @true_and <| ai @true_implies <| ai @List.append_nil.{0} <| ai @List.cons_append.{0} <| ai @List.drop_nil.{0} <| ai @List.drop_succ_cons.{0} <| ai @List.drop_zero.{0} <| ai @List.getD_cons_succ.{0} <| ai @List.getD_cons_zero.{0} <| ai @List.getElem?_cons_succ.{0} <| ai @List.getElem?_cons_zero.{0} <| ai @List.getElem?_nil.{0} <| ai @List.length_cons.{0} <| ai @List.length_nil.{0} <| ai @List.nil_append.{0} <| ai @List.take_nil.{0} <| ai @List.take_succ_cons.{0} <| ai @List.take_zero.{0} <| ai @List.contains_cons.{0} <| ai @List.contains_nil.{0} <| ai @beq_iff_eq.{0} <| ai @bne_iff_ne.{0} <| ai @beq_eq_false_iff_ne.{0} <| ai @bne_eq_false_iff_eq.{0} <| @beq_self_eq_true.{0}
def vcD := ai @List.length_range <| And.intro @List.length_map.{0, 0} <| ai @implies_true.{0} <| ai @implies_true.{1} <| ai @ne_eq.{1} <| And.intro @List.map.eq_1.{0, 0} <| And.intro @List.map.eq_2.{0, 0} <| ai @List.headD.eq_1.{0} <| ai @List.headD.eq_2.{0} <| ai @List.take.eq_1.{0} <| ai @List.take.eq_2.{0} <| ai @List.take.eq_3.{0} <| ai @List.drop.eq_1.{0} <| ai @List.drop.eq_2.{0} <| ai @List.drop.eq_3.{0} <| ai @List.replicate.eq_1.{0} <| ai @List.replicate.eq_2.{0} <| ai @QaE.eq_1 <| ai @QaE.eq_2 <| ai @grp.eq_1 <| ai @grp.eq_2 <| @splice.eq_1
def vnT := ai @not_true_eq_false <| ai @not_false_eq_true <| ai @false_imp_iff <| ai @true_imp_iff <| ai @and_true <| @true_and
def QjO : GVal → Bool
 | .any => true
 | .bool _ => true
 | .ubool => true
 | .int _ _ => true
 | .str _ => true
 | .lit _ => true
 | .own _ _ _ _ => true
 | .slice [] .none => true
 | _ => false
theorem VR.plain {E F : Env} {v : Value} {g : GVal} (hl : ∀ s l, E.loc s = some l → F.loc s = some l) (h : VR E v g) (hg : QjO g = true) : VR F v g := by
 cases h with
 | any v => exact .any v
 | bool b => exact .bool b
 | ubool b => exact .ubool b
 | int k n => exact .int k n
 | str s => exact .str s
 | lit v => exact .lit v
 | own a len cap o st i l h1 hcap ha => exact .own a len cap o st i l (hl _ _ h1) hcap ha
 | slice a len cap xs tag sz c hlen hcap hsz ha hc ht =>
  cases xs with
  | cons x r => cases hg
  | nil => cases tag with
   | none => exact .slice a len cap [] .none sz c hlen hcap hsz (fun h => absurd rfl h) (fun j g hj => by simp at hj) trivial
   | _ => cases hg
 | _ => cases hg
def GObj.flat : GObj → Bool
 | .row _ _ xs => xs.all fun r => r.all QjO
 | .dead => true
 | _ => false
def GVal.shift (k : Nat) : GVal → GVal
 | .own o st i len => .own (o + k) st i len
 | g => g
theorem VR.shift {E : Env} {v : Value} {g : GVal} (k : Nat) (h : VR E v g) : VR E v (g.shift k) := by
 cases h with
 | own a len cap o st i l h1 hcap ha => exact .own a len cap _ st i l h1 hcap ha
 | any v => exact .any v
 | bool b => exact .bool b
 | ubool b => exact .ubool b
 | int k n => exact .int k n
 | str s => exact .str s
 | lit v => exact .lit v
 | slice a len cap xs tag sz c hlen hcap hsz ha hc ht => exact .slice a len cap xs tag sz c hlen hcap hsz ha hc ht
 | agg vs cs hs hc => exact .agg vs cs hs hc
 | tuple vs cs hs hc => exact .tuple vs cs hs hc
 | ref b off cs c ha hc => exact .ref b off cs c ha hc
 | ptr b off o st i j l hl hb ho => exact .ptr b off o st i j l hl hb ho
 | map r o st l hl hb => exact .map r o st l hl hb
 | func fn fs cs gs ks hf hk hfs hcs => exact .func fn fs cs gs ks hf hk hfs hcs
 | iface t v g h => exact .iface t v g h
 | cond c v g h => exact .cond c v g h
open Classical in
theorem GCalls.borrow {P : Program} {f : FuncId} {args args' : List GVal} {O : List GObj} {K : GVal → List GObj → Prop} (n : Nat) (h : GCalls P f args' [] K) (ha' : frzL (Gv.frz O n) args = some args') (hc : Qad O = none)
 (hK : ∀ g O', K g O' → QjO g = true ∧ ∀ x ∈ O', x.flat = true) : GCalls P f args O (fun g O'' => ∃ g0 O', K g0 O' ∧ g = g0.shift O.length ∧ O'' = O ++ O') := by
 refine ⟨h.1, fun E w vs hs ha => ?_⟩
 obtain ⟨f1, f2⟩ := hs.frz
 have hb : ArgsR (E.frz O w) vs args' := ⟨by rw [ha.1, QbD ha'], fun i g hg => by
  obtain ⟨x, q1, q2⟩ := QfN ha' i g hg;exact Qb1 hs n _ x g (ha.2 i x q1) q2⟩
 refine (h.2 _ w vs f1 hb).mono ?_
 rintro e w' ⟨v, E', O', g, rfl, h1, h2, h3, h5⟩
 obtain ⟨hg, hfl⟩ := hK g O' h5
 have hno : ∀ b, ¬ InO (E.frz O w) [] b := fun b ⟨i, x, hx, _⟩ => by simp at hx
 have hold : ∀ b, b < w.heap.size → w'.heap[b]? = w.heap[b]? := fun b hb => h2.heap b hb (hno b)
 have hle : E.le E' := f2.ext.trans h2.ext
 let F : Env := { loc := E'.loc, snap := fun b o => match E.snap b o with
  | some v => some v
  | none => if b < w.heap.size then none else E'.snap b o }
 have hF : E.le F := ⟨fun b o v h => by show (match E.snap b o with | some v => some v | none => _) = _; rw [h], hle.loc⟩
 have hFs : ∀ b o v, F.snap b o = some v → E'.snap b o = some v := by
  intro b o v hv
  change (match E.snap b o with | some v => some v | none => if b < w.heap.size then none else E'.snap b o) = some v at hv
  cases hs : E.snap b o with
  | some u => rw [hs] at hv; cases hv; exact hle.snap _ _ _ hs
  | none =>
   rw [hs] at hv;simp only at hv
   split at hv
   · cases hv
   · exact hv
 have hFo : ∀ b o v, b < w.heap.size → F.snap b o = some v → E.snap b o = some v := by
  intro b o v hb hv
  change (match E.snap b o with | some v => some v | none => if b < w.heap.size then none else E'.snap b o) = some v at hv
  cases hs : E.snap b o with
  | some u => rw [hs] at hv; exact hv
  | none => rw [hs] at hv; simp only [if_pos hb] at hv; cases hv
 have hFn : ∀ b o, E'.snap b o = none → F.snap b o = none := fun b o hn => by
  cases hq : F.snap b o with
  | none => rfl
  | some v => rw [hFs b o v hq] at hn; cases hn
 have hbk : ∀ x : GObj, x.blk F = x.blk E' := fun x => by cases x <;> rfl
 have hbO : ∀ (i : Nat) x, O[i]? = some x → x.blk F = x.blk E := fun i x hx => GObj.blk_mono hF (hs.real i x hx)
 have hnew : ∀ (i : Nat) x b, O'[i]? = some x → x.blk F = some b → w.heap.size ≤ b := fun i x b hx hb => by
  rcases h2.objs b ⟨i, x, hx, by rw [← hbk]; exact hb⟩ with q | q
  · exact absurd q (hno b)
  · exact q
 have hcl : Qad (O ++ O') = none := by
  cases O with
  | nil =>
   rw [List.nil_append];cases O' with
   | nil => rfl
   | cons x r =>
    have := hfl x (by simp);cases x <;> first | rfl | cases this
  | cons x r => cases x <;> first | rfl | cases hc
 have hreal : ∀ (i : Nat) x, (O ++ O')[i]? = some x → Qap F w' x := by
  intro i x hx;by_cases hi : i < O.length
  · rw [List.getElem?_append_left hi] at hx;exact (hs.real i x hx).keep hF (fun b hb => hold b ((hs.real i x hx).blk_lt hb)) (fun b o v hb hv => hFo b o v ((hs.real i x hx).blk_lt hb) hv)
  · rw [List.getElem?_append_right (by omega)] at hx;have hr := h1.real _ x hx;have hf := hfl x (List.mem_of_getElem? hx);cases x with
    | dead => trivial
    | row st sz xs =>
     obtain ⟨l, hl, hls, hsx, hrr⟩ := hr;refine ⟨l, hl, hls, hsx, ?_⟩;cases hb : l.block with
     | none => simp only [hb] at hrr; exact hrr
     | some b =>
      simp only [hb] at hrr;obtain ⟨cur, el, q1, q2, q3, q4, q5⟩ := hrr;refine ⟨cur, el, q1, q2, q3, fun k c hk => ?_, fun o => hFn _ _ (q5 o)⟩;obtain ⟨x, z1, z2, z3⟩ := q4 k c hk;refine ⟨x, z1, z2, z3.plain (E := E') (F := F) (fun s l h => show F.loc s = some l from h) ?_⟩;have hcm := List.mem_of_getElem? hk;obtain ⟨r, hr1, hr2⟩ := List.mem_flatten.1 hcm;simp only [GObj.flat, List.all_eq_true] at hf;exact hf r hr1 c hr2
    | _ => cases hf
 refine ⟨v, F, O ++ O', g.shift O.length, rfl, ⟨?_, fun b o v hv => h1.sealed b o v (hFs b o v hv), fun b o v hv => h1.one b o v (hFs b o v hv), hreal, ?_, hs.globLe hF⟩, ⟨hF, ?_, ?_, h2.size, fun b hb _ => hold b hb, ?_, ?_, trivial⟩, (h3.plain (E := E') (F := F) (fun s l h => show F.loc s = some l from h) hg).shift _, g, O', h5, rfl, rfl⟩
 · obtain ⟨m, _, q⟩ := h1.fin;exact ⟨m, fun c e => by rw [hcl] at e; (cases e), q⟩
 · intro i j oi oj b hij hi hj hbi hbj;by_cases ii : i < O.length
   · rw [List.getElem?_append_left ii] at hi;rw [hbO i oi hi] at hbi;by_cases jj : j < O.length
     · rw [List.getElem?_append_left jj] at hj;rw [hbO j oj hj] at hbj;exact hs.sep i j oi oj b hij hi hj hbi hbj
     · rw [List.getElem?_append_right (by omega)] at hj;have h6 := hnew _ oj b hj hbj;have h7 := (hs.real i oi hi).blk_lt hbi;omega
   · rw [List.getElem?_append_right (by omega)] at hi;by_cases jj : j < O.length
     · rw [List.getElem?_append_left jj] at hj;rw [hbO j oj hj] at hbj;have h6 := hnew _ oi b hi hbi;have h7 := (hs.real j oj hj).blk_lt hbj;omega
     · rw [List.getElem?_append_right (by omega)] at hj;rw [hbk] at hbi hbj;exact h1.sep _ _ oi oj b (by omega) hi hj hbi hbj
 · rw [h2.os, f2.os]
 · rw [h2.out, f2.out]
 · intro b o v hv;by_cases hb : b < w.heap.size
   · exact .inl (hFo b o v hb hv)
   · exact .inr (.inl (by omega))
 · intro b ⟨i, x, hx, hbx⟩;by_cases hi : i < O.length
   · rw [List.getElem?_append_left hi] at hx;exact .inl ⟨i, x, hx, by rw [← hbO i x hx]; exact hbx⟩
   · rw [List.getElem?_append_right (by omega)] at hx;exact .inr (hnew _ x b hx hbx)
theorem HSim.melt {E : Env} {O : List GObj} {t sz : Nat} {xs : List (List GVal)} {w : World} (h : HSim E (O ++ [.row t sz xs]) w) :
 HSim E [.row t sz xs] w ∧ HSim (E.frz [.row t sz xs] w) O w ∧ Keep E (O ++ [.row t sz xs]) w (E.frz [.row t sz xs] w) O w := by
 have hlast : (O ++ [GObj.row t sz xs])[O.length]? = some (.row t sz xs) := by simp
 have at0 : ∀ (i : Nat) x, [GObj.row t sz xs][i]? = some x → i = 0 ∧ x = .row t sz xs := fun i x hx => by
  cases i with
  | zero => simp at hx; exact ⟨rfl, hx.symm⟩
  | succ i => simp at hx
 have hX : HSim E [.row t sz xs] w := ⟨by obtain ⟨n, _, q⟩ := h.fin; exact ⟨n, (fun c hc => by cases hc), q⟩, h.sealed, h.one, fun i x hx => by
  obtain ⟨rfl, rfl⟩ := at0 i x hx;exact h.real _ _ hlast, fun i j oi oj b hij hi hj => absurd ((at0 i oi hi).1.trans (at0 j oj hj).1.symm) hij, h.glob⟩
 obtain ⟨f1, f2⟩ := hX.frz
 obtain ⟨d1, d2⟩ := h.drop
 have hbk : ∀ x : GObj, x.blk (E.frz [.row t sz xs] w) = x.blk E := fun x => by cases x <;> rfl
 have hO : ∀ (i : Nat) x, O[i]? = some x → (O ++ [GObj.row t sz xs])[i]? = some x ∧ i < O.length := fun i x hx => by
  have := (List.getElem?_eq_some_iff.1 hx).1;rw [List.getElem?_append_left this]; exact ⟨hx, this⟩
 have hsn : ∀ (i : Nat) x, O[i]? = some x → ∀ b o v, x.blk E = some b → (E.frz [.row t sz xs] w).snap b o = some v → E.snap b o = some v := by
  intro i x hx b o v hb hv;rcases f2.snap b o v hv with q | q | ⟨j, y, hy, hyb⟩
  · exact q
  · have := (d1.real i x hx).blk_lt hb; omega
  · obtain ⟨rfl, rfl⟩ := at0 j y hy;obtain ⟨q, lt⟩ := hO i x hx;exact absurd hyb (h.sep i O.length x _ b (by omega) q hlast hb)
 refine ⟨hX, ⟨d1.fin, f1.sealed, f1.one, fun i x hx => (d1.real i x hx).keep f2.ext (fun _ _ => rfl) (fun b o v hb hv => hsn i x hx b o v hb hv), fun i j oi oj b hij hi hj hbi hbj => ?_, f1.glob⟩,
  ⟨f2.ext, rfl, rfl, Nat.le_refl _, fun _ _ _ => rfl, fun b o v hv => ?_, fun b ⟨i, x, hx, hb⟩ => .inl ⟨i, x, (hO i x hx).1, by rw [← hbk]; exact hb⟩, trivial⟩⟩
 · rw [hbk] at hbi hbj;exact d1.sep i j oi oj b hij hi hj hbi hbj
 · rcases f2.snap b o v hv with q | q | ⟨j, y, hy, hyb⟩
   · exact .inl q
   · exact .inr (.inl q)
   · obtain ⟨rfl, rfl⟩ := at0 j y hy;exact .inr (.inr ⟨O.length, _, hlast, hyb⟩)
theorem Into.melt {st : GSt} {N : GSt → Prop} {O : List GObj} (i n : Nat) {t sz len : Nat} {xs xs' : List (List GVal)} (ho : st.o = O ++ [.row t sz xs]) (hx : sget st.s i = .own O.length t 0 len) (hl : len = xs.length)
 (hf : frzLL (Gv.frz [.row t sz xs] n) xs = some xs') (h : Into ⟨st.s.set i (.slice xs' .none), O⟩ N) : Into st N := by
 intro E a w hs ha
 rw [ho] at hs
 obtain ⟨h0, h1, h2⟩ := hs.melt
 have ha' : SlotsR (E.frz [.row t sz xs] w) a (st.s.set i (.slice xs' .none)) := by
  refine ⟨by simp [ha.size], ha.defers, fun k g hg => ?_⟩;rw [List.getElem?_set] at hg;by_cases hk : i = k
  · subst hk;rw [if_pos rfl] at hg;split at hg
    · rename_i hlt;simp only [Option.some.injEq] at hg;subst hg;have := ha.at_ i _ (Qa2 (d := GVal.any) hlt);have hx' : st.s.getD i .any = .own O.length t 0 len := hx;rw [hx'] at this;have q : VR E (a.tmps.getD i undef) (.own 0 t 0 len) := by
       revert this
       generalize a.tmps.getD i undef = tv;intro this;cases this with
       | own a len cap o st i l q1 q2 q3 => exact .own a _ cap _ _ _ l q1 q2 q3
      subst hl;exact Qb1 h0 (n + 1) _ _ _ q (by simp [Gv.frz, hf])
    · cases hg
  · rw [if_neg hk] at hg;exact (ha.at_ k g hg).mono h2.ext
 obtain ⟨st', E', q1, q2, q3, q4⟩ := h _ a w h1 ha'
 exact ⟨st', E', q1, q2, by rw [ho]; exact h2.trans q3, q4⟩
theorem GCalls.newBy (u : GVal → GVal) (hu : ∀ E v g, VR E v g → VR E v (u g)) {P : Program} {f : FuncId} {args : List GVal} {K : GVal → List GObj → Prop} (h : GCalls P f args [] K) {O : List GObj} (hc : Qad O = none) (hK : ∀ g O', K g O' → Qad O' = none) :
 GCalls P f args O (fun g O'' => ∃ g0 O', K g0 O' ∧ g = u g0 ∧ O'' = O ++ O') := by
 refine ⟨h.1, fun E w vs hs ha => (h.2 E w vs hs.nil ha).mono ?_⟩
 rintro e w' ⟨v, E', O', g, rfl, h1, h2, h3, h5⟩
 have hno : ∀ b, ¬ InO E [] b := fun b ⟨i, x, hx, _⟩ => by simp at hx
 have hold : ∀ b, b < w.heap.size → w'.heap[b]? = w.heap[b]? := fun b hb => h2.heap b hb (hno b)
 have hsn : ∀ b o v, b < w.heap.size → E'.snap b o = some v → E.snap b o = some v := fun b o v hb hv => by
  rcases h2.snap b o v hv with q | q | q
  · exact q
  · omega
  · exact absurd q (hno b)
 have hb : ∀ (i : Nat) x, O[i]? = some x → x.blk E' = x.blk E := fun i x hx => GObj.blk_mono h2.ext (hs.real i x hx)
 have hnew : ∀ (i : Nat) x b, O'[i]? = some x → x.blk E' = some b → w.heap.size ≤ b := fun i x b hx hb => by
  rcases h2.objs b ⟨i, x, hx, hb⟩ with q | q
  · exact absurd q (hno b)
  · exact q
 have hcl : Qad (O ++ O') = none := by
  cases O with
  | nil => rw [List.nil_append]; exact hK g O' h5
  | cons x r => cases x <;> first | rfl | cases hc
 have hreal : ∀ (i : Nat) x, (O ++ O')[i]? = some x → Qap E' w' x := by
  intro i x hx;by_cases hi : i < O.length
  · rw [List.getElem?_append_left hi] at hx;exact (hs.real i x hx).keep h2.ext (fun b hb => hold b ((hs.real i x hx).blk_lt hb)) (fun b o v hb hv => hsn b o v ((hs.real i x hx).blk_lt hb) hv)
  · rw [List.getElem?_append_right (by omega)] at hx;exact h1.real _ x hx
 refine ⟨v, E', O ++ O', u g, rfl, ⟨?_, h1.sealed, h1.one, hreal, ?_, h1.glob⟩, ⟨h2.ext, h2.os, h2.out, h2.size, fun b hb _ => hold b hb, ?_, ?_, trivial⟩, hu _ _ _ h3, g, O', h5, rfl, rfl⟩
 · obtain ⟨m, _, q⟩ := h1.fin;exact ⟨m, fun c e => by rw [hcl] at e; (cases e), q⟩
 · intro i j oi oj b hij hi hj hbi hbj;by_cases ii : i < O.length
   · rw [List.getElem?_append_left ii] at hi;rw [hb i oi hi] at hbi;by_cases jj : j < O.length
     · rw [List.getElem?_append_left jj] at hj;rw [hb j oj hj] at hbj;exact hs.sep i j oi oj b hij hi hj hbi hbj
     · rw [List.getElem?_append_right (by omega)] at hj;have h6 := hnew _ oj b hj hbj;have h7 := (hs.real i oi hi).blk_lt hbi;omega
   · rw [List.getElem?_append_right (by omega)] at hi;by_cases jj : j < O.length
     · rw [List.getElem?_append_left jj] at hj;rw [hb j oj hj] at hbj;have h6 := hnew _ oi b hi hbi;have h7 := (hs.real j oj hj).blk_lt hbj;omega
     · rw [List.getElem?_append_right (by omega)] at hj;exact h1.sep _ _ oi oj b (by omega) hi hj hbi hbj
 · intro b o v hv;rcases h2.snap b o v hv with q | q | q
   · exact .inl q
   · exact .inr (.inl q)
   · exact absurd q (hno b)
 · intro b ⟨i, x, hx, hbx⟩;by_cases hi : i < O.length
   · rw [List.getElem?_append_left hi] at hx;rw [hb i x hx] at hbx;exact .inl ⟨i, x, hx, hbx⟩
   · rw [List.getElem?_append_right (by omega)] at hx;exact .inr (hnew _ x b hx hbx)
def GVal.up (k : Nat) : GVal → GVal
 | .own o st i len => .own (o + k) st i len
 | .ptr o st i j => .ptr (o + k) st i j
 | .map o st => .map (o + k) st
 | g => g
theorem VR.up (k : Nat) (E : Env) (v : Value) (g : GVal) (h : VR E v g) : VR E v (g.up k) := by
 cases g with
 | ptr o st a b => cases h; exact .ptr _ _ _ _ _ _ _ (by assumption) (by assumption) (by assumption)
 | own o st a b => cases h; exact .own _ _ _ _ _ _ _ (by assumption) (by assumption) (by assumption)
 | map o st => cases h; exact .map _ _ _ _ (by assumption) (by assumption)
 | _ => exact h
theorem GCalls.new {P : Program} {f : FuncId} {args : List GVal} {K : GVal → List GObj → Prop} (h : GCalls P f args [] K) {O : List GObj} (hc : Qad O = none) (hK : ∀ g O', K g O' → Qad O' = none) :
 GCalls P f args O (fun g O'' => ∃ g0 O', K g0 O' ∧ g = g0.shift O.length ∧ O'' = O ++ O') := GCalls.newBy (GVal.shift O.length) (fun _ _ _ h => h.shift _) h hc hK
theorem GCalls.newUp {P : Program} {f : FuncId} {args : List GVal} {K : GVal → List GObj → Prop} (h : GCalls P f args [] K) {O : List GObj} (hc : Qad O = none) (hK : ∀ g O', K g O' → Qad O' = none) :
 GCalls P f args O (fun g O'' => ∃ g0 O', K g0 O' ∧ g = g0.up O.length ∧ O'' = O ++ O') := GCalls.newBy (GVal.up O.length) (VR.up O.length) h hc hK
def GVal.place (i : Nat) : GVal → GVal
 | .ptr _ st a b => .ptr i st a b
 | .own _ st a b => .own i st a b
 | .map _ st => .map i st
 | g => g
theorem VR.place {E : Env} {v : Value} {g : GVal} (i : Nat) (h : VR E v (g.place i)) : VR E v g := by
 cases g with
 | ptr o st a b => cases h; exact .ptr _ _ _ _ _ _ _ (by assumption) (by assumption) (by assumption)
 | own o st a b => cases h; exact .own _ _ _ _ _ _ _ (by assumption) (by assumption) (by assumption)
 | map o st => cases h; exact .map _ _ _ _ (by assumption) (by assumption)
 | _ => exact h
theorem HSim.only {E : Env} {O : List GObj} {w : World} (h : HSim E O w) {i : Nat} {x : GObj} (hx : O[i]? = some x) (hc : x.isClock = false) : HSim E [x] w := by
 refine ⟨?_, h.sealed, h.one, fun k y hy => ?_, fun a b oa ob bb hab ha hb => ?_, h.glob⟩
 · obtain ⟨n, _, h2⟩ := h.fin;refine ⟨n, fun c hc' => ?_, h2⟩;cases x <;> simp [Qad, GObj.isClock] at hc' hc
 · match k with
   | 0 => simp at hy; subst hy; exact h.real i x hx
   | k + 1 => simp at hy
 · match a, b with
   | 0, 0 => exact absurd rfl hab
   | a + 1, _ => simp at ha
   | 0, b + 1 => simp at hb
theorem GCalls.ownFrame {P : Program} {f : FuncId} {args : List GVal} {x : GObj} {R : GVal → GObj → Prop} (h : GCalls P f args [x] (fun g O' => ∃ x', O' = [x'] ∧ R g x')) {O : List GObj} (i : Nat) (hO : O[i]? = some x) (hc : Qad O = none) (hcl : ∀ g x', R g x' → x'.isClock = false) (hx : x.isClock = false) :
 GCalls P f (args.map (GVal.place i)) O (fun g O' => ∃ x', O' = O.set i x' ∧ R g x') := by
 have hlt : i < O.length := (List.getElem?_eq_some_iff.1 hO).1
 refine ⟨h.1, fun E w vs hs ha => ?_⟩
 have ha' : ArgsR E vs args := ⟨by simpa using ha.1, fun k g hg => VR.place i (ha.2 k _ (by simp [hg]))⟩
 refine (h.2 E w vs (hs.only hO hx) ha').mono ?_
 rintro e w' ⟨v, E', O', g, rfl, h1, h2, h3, x', rfl, hR⟩
 have inX : ∀ b, InO E [x] b ↔ x.blk E = some b := fun b => ⟨fun ⟨k, y, hy, hb⟩ => by
  match k with
  | 0 => simp at hy; subst hy; exact hb
  | k + 1 => simp at hy, fun hb => ⟨0, x, rfl, hb⟩⟩
 have inX' : ∀ b, x'.blk E' = some b → x.blk E = some b ∨ w.heap.size ≤ b := fun b hb => by
  rcases h2.objs b ⟨0, x', rfl, hb⟩ with q | q
  · exact .inl ((inX b).1 q)
  · exact .inr q
 have get : ∀ (k : Nat) y, (O.set i x')[k]? = some y → (k = i ∧ y = x') ∨ (k ≠ i ∧ O[k]? = some y) := by
  intro k y hy;rw [List.getElem?_set] at hy;by_cases e : i = k
  · rw [if_pos e, if_pos hlt] at hy;simp only [Option.some.injEq] at hy; exact .inl ⟨e.symm, hy.symm⟩
  · rw [if_neg e] at hy; exact .inr ⟨fun q => e q.symm, hy⟩
 have far : ∀ (k : Nat) y b, k ≠ i → O[k]? = some y → y.blk E = some b → ¬ InO E [x] b := fun k y b hk hy hb hin => hs.sep k i y x b hk hy hO hb ((inX b).1 hin)
 have hold : ∀ (k : Nat) y, k ≠ i → O[k]? = some y → Qap E' w' y ∧ y.blk E' = y.blk E := fun k y hk hy =>
  ⟨(hs.real k y hy).keep h2.ext (fun b hb => h2.heap b ((hs.real k y hy).blk_lt hb) (far k y b hk hy hb)) (fun b o v hb hv => by
   rcases h2.snap b o v hv with q | q | q
   · exact q
   · exact absurd ((hs.real k y hy).blk_lt hb) (by omega)
   · exact absurd q (far k y b hk hy hb)), GObj.blk_mono h2.ext (hs.real k y hy)⟩
 have hclk : Qad (O.set i x') = none := by
  have := Qb2 (obj' := x') hO hx (hcl _ _ hR);rw [this, hc]
 have hx'r : Qap E' w' x' := h1.real 0 x' rfl
 refine ⟨v, E', O.set i x', g, rfl, ⟨?_, h1.sealed, h1.one, fun k y hy => ?_, fun a b oa ob bb hab ha1 hb1 q1 q2 => ?_, h1.glob⟩, ⟨h2.ext, h2.os, h2.out, h2.size, fun b hb hn => h2.heap b hb fun hin => hn ⟨i, x, hO, (inX b).1 hin⟩, fun b o v hv => ?_, fun b hb => ?_, trivial⟩, h3, x', rfl, hR⟩
 · obtain ⟨n, _, q⟩ := h1.fin;exact ⟨n, fun c hc' => (by rw [hclk] at hc'; cases hc'), q⟩
 · rcases get k y hy with ⟨rfl, rfl⟩ | ⟨hk, hy⟩
   · exact hx'r
   · exact (hold k y hk hy).1
 · rcases get a oa ha1 with ⟨rfl, rfl⟩ | ⟨hka, hya⟩ <;> rcases get b ob hb1 with ⟨rfl, rfl⟩ | ⟨hkb, hyb⟩
   · exact hab rfl
   · rw [(hold b ob hkb hyb).2] at q2;rcases inX' bb q1 with e | e
     · exact hs.sep b a ob x bb hkb hyb hO q2 e
     · exact absurd ((hs.real b ob hyb).blk_lt q2) (by omega)
   · rw [(hold a oa hka hya).2] at q1;rcases inX' bb q2 with e | e
     · exact hs.sep a b oa x bb hka hya hO q1 e
     · exact absurd ((hs.real a oa hya).blk_lt q1) (by omega)
   · rw [(hold a oa hka hya).2] at q1
     rw [(hold b ob hkb hyb).2] at q2;exact hs.sep a b oa ob bb hab hya hyb q1 q2
 · rcases h2.snap b o v hv with q | q | q
   · exact .inl q
   · exact .inr (.inl q)
   · exact .inr (.inr ⟨i, x, hO, (inX b).1 q⟩)
 · obtain ⟨k, y, hy, hb⟩ := hb;rcases get k y hy with ⟨rfl, rfl⟩ | ⟨hk, hy⟩
   · rcases inX' b hb with e | e
     · exact .inl ⟨_, x, hO, e⟩
     · exact .inr e
   · exact .inl ⟨k, y, hy, by rw [← (hold k y hk hy).2]; exact hb⟩
def dropTo (K : GVal → List GObj → Prop) (g : GVal) (O' : List GObj) : Prop := ∃ g' O1 X, O' = O1 ++ X ∧ leA g g' ∧ K g' O1
theorem GCalls.dropTo {P : Program} {f : FuncId} {args : List GVal} {O : List GObj} {K : GVal → List GObj → Prop} (h : GCalls P f args O (dropTo K)) : GCalls P f args O K :=
 (h.mono fun g O' ⟨g', O1, X, e, hl, hk⟩ => by
  subst e;exact fun E v w hs hv => by
   obtain ⟨h1, h2⟩ := hs.drop;exact ⟨g', O1, E, hk, h1, h2, hl.sound hv⟩ : GCalls P f args O (fun g O' => GInto g O' K)).into
end Gv
