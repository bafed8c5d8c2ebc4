/- Code without what conditions do not look at. -/
import Derived.Test.YtcjiabpfahmjnaaGvVC
set_option linter.unusedVariables false
namespace Gv
open Go

/-- an operation: where it goes, what it is, its guard's slot -/
structure SOp where
  d : Option Nat
  op : Op
  g : Option (Nat × Bool)

inductive SCode where
  | skip
  | reg (ops : List SOp)
  | drw (ops : List (SOp × Nat))
  | seq (a b : SCode)
  | cond (c : Operand) (a b : SCode)
  | block (id : Nat) (a : SCode)
  | loop (a : SCode)
  | exit (n : Nat)
  | ret

def slimOp (all : List Oper) (o : Oper) : Option SOp :=
  match o.guard with
  | none => some ⟨o.dst, o.op, none⟩
  | some (j, want) => match slotOf all j with
    | some d => some ⟨o.dst, o.op, some (d, want)⟩
    | none => none
def slimOps (all : List Oper) : List Oper → Option (List SOp)
  | [] => some []
  | o :: r => match slimOp all o, slimOps all r with
    | some x, some y => some (x :: y)
    | _, _ => none
def slimOrd (all : List Oper) : List (Nat × Nat) → Option (List (SOp × Nat))
  | [] => some []
  | (i, k) :: r => match all[i]? with
    | none => none
    | some o => match slimOp all o, slimOrd all r with
      | some x, some y => some ((x, k) :: y)
      | _, _ => none
def slim (C : Cfg) : Code → Option SCode
  | .skip => some .skip
  | .region id ops draw => match draw with
    | false => match slimOps ops.toList ops.toList with
      | some l => some (.reg l)
      | none => none
    | true => match slimOrd ops.toList (C.of id) with
      | some l => some (.drw l)
      | none => none
  | .seq a b => match slim C a, slim C b with
    | some x, some y => some (.seq x y)
    | _, _ => none
  | .cond c a b => match slim C a, slim C b with
    | some x, some y => some (.cond c x y)
    | _, _ => none
  | .block id a => match slim C a with
    | some x => some (.block id x)
    | none => none
  | .loop a => match slim C a with
    | some x => some (.loop x)
    | none => none
  | .exit n => some (.exit n)
  | .ret => some .ret
  | _ => none

/-- the operation alone -/
def opS (P : Program) (R : List Nat) (st : GSt) (d : Option Nat) (op : Op) (K : GVal → List GObj → Prop) : Prop := opv P R st ⟨d, op, 0, default, #[], none⟩ K
theorem opS_def (P : Program) (R : List Nat) (st : GSt) (d : Option Nat) (op : Op) (K : GVal → List GObj → Prop) : opS P R st d op K = opv P R st ⟨d, op, 0, default, #[], none⟩ K := by unfold opS; exact id rfl
theorem opS_eq (P : Program) (R : List Nat) (st : GSt) (o : Oper) (K : GVal → List GObj → Prop) : opv P R st o K = opS P R st o.dst o.op K := by
  obtain ⟨dst, op, ty, pos, after, guard⟩ := o
  unfold opS opv
  rfl

def opsS (P : Program) (R : List Nat) : List SOp → (GSt → Prop) → GSt → Prop
  | [], K, st => K st
  | ⟨d, op, g⟩ :: r, K, st => match g with
    | none => opS P R st d op (fun g O' => opsS P R r K (st.put d g O'))
    | some (s, want) => match sget st.s s with
      | .bool b => match want with
        | true => gif b (opS P R (st.setS s (.bool true)) d op (fun g O' => opsS P R r K ((st.setS s (.bool true)).put d g O'))) (opsS P R r K ((st.setS s (.bool false)).put d (.lit (.tuple #[])) st.o))
        | false => gif b (opsS P R r K ((st.setS s (.bool true)).put d (.lit (.tuple #[])) st.o)) (opS P R (st.setS s (.bool false)) d op (fun g O' => opsS P R r K ((st.setS s (.bool false)).put d g O')))
      | .lit (.tuple _) => opsS P R r K (st.put d (.lit (.tuple #[])) st.o)
      | _ => False
def ordS (P : Program) (R : List Nat) : List (SOp × Nat) → (GSt → Prop) → GSt → Prop
  | [], K, st => K st
  | (⟨d, op, g⟩, k) :: r, K, st => match g with
    | none => opS P R st d op (fun g O' => drawC k st.o O' (ordS P R r K (st.put d g O')))
    | some (s, want) => match sget st.s s with
      | .bool b => match want with
        | true => gif b (opS P R (st.setS s (.bool true)) d op (fun g O' => drawC k st.o O' (ordS P R r K ((st.setS s (.bool true)).put d g O')))) (ordS P R r K ((st.setS s (.bool false)).put d (.lit (.tuple #[])) st.o))
        | false => gif b (ordS P R r K ((st.setS s (.bool true)).put d (.lit (.tuple #[])) st.o)) (opS P R (st.setS s (.bool false)) d op (fun g O' => drawC k st.o O' (ordS P R r K ((st.setS s (.bool false)).put d g O'))))
      | .lit (.tuple _) => ordS P R r K (st.put d (.lit (.tuple #[])) st.o)
      | _ => False

def vcS (P : Program) (R : List Nat) : SCode → (Ex → GSt → Prop) → GSt → Prop
  | .skip, Q, st => Q .normal st
  | .reg ops, Q, st => opsS P R ops (Q .normal) st
  | .drw ops, Q, st => ordS P R ops (Q .normal) st
  | .seq a b, Q, st => vcS P R a (thenQ (vcS P R b Q) Q) st
  | .cond c a b, Q, st => match st.ev c with
    | .bool t => gif t (vcS P R a Q st) (vcS P R b Q st)
    | .ubool => vcS P R a Q st ∧ vcS P R b Q st
    | _ => False
  | .block id a, Q, st => vcS P R a (blockQ id Q) st
  | .loop a, Q, st => ∃ (ι : Type) (I : ι → GSt) (μ : ι → Nat), Into st (fun s => ∃ i, s = I i) ∧ ∀ i, vcS P R a (thenQ (fun st' => Into st' (fun s => ∃ j, s = I j ∧ μ j < μ i)) Q) (I i)
  | .exit n, Q, st => Q (.exit n) st
  | .ret, Q, st => Q .ret st

def vcSLoop (P : Program) (R : List Nat) (a : SCode) (Q : Ex → GSt → Prop) (st : GSt) : Prop :=
  ∃ (ι : Type) (I : ι → GSt) (μ : ι → Nat), Into st (fun s => ∃ i, s = I i) ∧ ∀ i, vcS P R a (thenQ (fun st' => Into st' (fun s => ∃ j, s = I j ∧ μ j < μ i)) Q) (I i)
theorem vcSLoop_by {P : Program} {R : List Nat} {a : SCode} {Q : Ex → GSt → Prop} {st : GSt} {ι : Type} (I : ι → GSt) (μ : ι → Nat) (h0 : Into st (fun s => ∃ i, s = I i))
    (h : ∀ i, vcS P R a (thenQ (fun st' => Into st' (fun s => ∃ j, s = I j ∧ μ j < μ i)) Q) (I i)) : vcSLoop P R a Q st := ⟨ι, I, μ, h0, h⟩
section
variable (P : Program) (R : List Nat) (Q : Ex → GSt → Prop) (st : GSt)
theorem vcS_skip : vcS P R .skip Q st = Q .normal st := by rw [vcS]
theorem vcS_reg (ops : List SOp) : vcS P R (.reg ops) Q st = opsS P R ops (Q .normal) st := by rw [vcS]
theorem vcS_drw (ops : List (SOp × Nat)) : vcS P R (.drw ops) Q st = ordS P R ops (Q .normal) st := by rw [vcS]
theorem vcS_seq (a b : SCode) : vcS P R (.seq a b) Q st = vcS P R a (thenQ (vcS P R b Q) Q) st := by rw [vcS]
theorem vcS_cond (c : Operand) (a b : SCode) : vcS P R (.cond c a b) Q st = match st.ev c with
    | .bool t => gif t (vcS P R a Q st) (vcS P R b Q st)
    | .ubool => vcS P R a Q st ∧ vcS P R b Q st
    | _ => False := by rw [vcS]
theorem vcS_block (id : Nat) (a : SCode) : vcS P R (.block id a) Q st = vcS P R a (blockQ id Q) st := by rw [vcS]
theorem vcS_loop (a : SCode) : vcS P R (.loop a) Q st = vcSLoop P R a Q st := by rw [vcS, vcSLoop]
theorem vcS_exit (n : Nat) : vcS P R (.exit n) Q st = Q (.exit n) st := by rw [vcS]
theorem vcS_ret : vcS P R .ret Q st = Q .ret st := by rw [vcS]
theorem opsS_nil (K : GSt → Prop) : opsS P R [] K st = K st := by rw [opsS]
theorem opsS_one (d : Option Nat) (op : Op) (r : List SOp) (K : GSt → Prop) : opsS P R (⟨d, op, none⟩ :: r) K st = opS P R st d op (fun g O' => opsS P R r K (st.put d g O')) := by rw [opsS]
theorem opsS_if (d : Option Nat) (op : Op) (s : Nat) (want : Bool) (r : List SOp) (K : GSt → Prop) : opsS P R (⟨d, op, some (s, want)⟩ :: r) K st = match sget st.s s with
      | .bool b => match want with
        | true => gif b (opS P R (st.setS s (.bool true)) d op (fun g O' => opsS P R r K ((st.setS s (.bool true)).put d g O'))) (opsS P R r K ((st.setS s (.bool false)).put d (.lit (.tuple #[])) st.o))
        | false => gif b (opsS P R r K ((st.setS s (.bool true)).put d (.lit (.tuple #[])) st.o)) (opS P R (st.setS s (.bool false)) d op (fun g O' => opsS P R r K ((st.setS s (.bool false)).put d g O')))
      | .lit (.tuple _) => opsS P R r K (st.put d (.lit (.tuple #[])) st.o)
      | _ => False := by rw [opsS]
theorem ordS_nil (K : GSt → Prop) : ordS P R [] K st = K st := by rw [ordS]
theorem ordS_one (d : Option Nat) (op : Op) (k : Nat) (r : List (SOp × Nat)) (K : GSt → Prop) : ordS P R ((⟨d, op, none⟩, k) :: r) K st = opS P R st d op (fun g O' => drawC k st.o O' (ordS P R r K (st.put d g O'))) := by rw [ordS]
theorem ordS_if (d : Option Nat) (op : Op) (k s : Nat) (want : Bool) (r : List (SOp × Nat)) (K : GSt → Prop) : ordS P R ((⟨d, op, some (s, want)⟩, k) :: r) K st = match sget st.s s with
      | .bool b => match want with
        | true => gif b (opS P R (st.setS s (.bool true)) d op (fun g O' => drawC k st.o O' (ordS P R r K ((st.setS s (.bool true)).put d g O')))) (ordS P R r K ((st.setS s (.bool false)).put d (.lit (.tuple #[])) st.o))
        | false => gif b (ordS P R r K ((st.setS s (.bool true)).put d (.lit (.tuple #[])) st.o)) (opS P R (st.setS s (.bool false)) d op (fun g O' => drawC k st.o O' (ordS P R r K ((st.setS s (.bool false)).put d g O'))))
      | .lit (.tuple _) => ordS P R r K (st.put d (.lit (.tuple #[])) st.o)
      | _ => False := by rw [ordS]
end

/-! slots, four at a time -/
theorem sget_0 (a : GVal) (r : List GVal) : sget (a :: r) 0 = a := rfl
theorem sget_1 (a b : GVal) (r : List GVal) : sget (a :: b :: r) 1 = b := rfl
theorem sget_2 (a b c : GVal) (r : List GVal) : sget (a :: b :: c :: r) 2 = c := rfl
theorem sget_3 (a b c d : GVal) (r : List GVal) : sget (a :: b :: c :: d :: r) 3 = d := rfl
theorem sget_4 (a b c d : GVal) (r : List GVal) (n : Nat) : sget (a :: b :: c :: d :: r) (n + 4) = sget r n := by simp [sget]
theorem set_0 (a x : GVal) (r : List GVal) : (a :: r).set 0 x = x :: r := rfl
theorem set_1 (a b x : GVal) (r : List GVal) : (a :: b :: r).set 1 x = a :: x :: r := rfl
theorem set_2 (a b c x : GVal) (r : List GVal) : (a :: b :: c :: r).set 2 x = a :: b :: x :: r := rfl
theorem set_3 (a b c d x : GVal) (r : List GVal) : (a :: b :: c :: d :: r).set 3 x = a :: b :: c :: x :: r := rfl
theorem set_4 (a b c d x : GVal) (r : List GVal) (n : Nat) : (a :: b :: c :: d :: r).set (n + 4) x = a :: b :: c :: d :: r.set n x := by simp
theorem setO_0 (a x : GObj) (r : List GObj) : (a :: r).set 0 x = x :: r := rfl
theorem setO_1 (a b x : GObj) (r : List GObj) : (a :: b :: r).set 1 x = a :: x :: r := rfl
theorem setO_2 (a b c x : GObj) (r : List GObj) : (a :: b :: c :: r).set 2 x = a :: b :: x :: r := rfl
theorem setL_0 (a x : List GVal) (r : List (List GVal)) : (a :: r).set 0 x = x :: r := rfl
theorem setL_1 (a b x : List GVal) (r : List (List GVal)) : (a :: b :: r).set 1 x = a :: x :: r := rfl
theorem setL_2 (a b c x : List GVal) (r : List (List GVal)) : (a :: b :: c :: r).set 2 x = a :: b :: x :: r := rfl

/-! the ways of a test -/
theorem gif_true (p q : Prop) : gif true p q = p := rfl
theorem gif_false (p q : Prop) : gif false p q = q := rfl
theorem gif_dec (c : Prop) [Decidable c] (p q : Prop) : gif (decide c) p q = ((c → p) ∧ (¬c → q)) := by
  by_cases h : c <;> simp [gif, h]
theorem gif_not (b : Bool) (p q : Prop) : gif (!b) p q = gif b q p := by cases b <;> rfl
theorem gif_eq (a b : Int) (p q : Prop) : gif (a == b) p q = ((a = b → p) ∧ (a ≠ b → q)) := by
  by_cases h : a = b
  · subst h; simp [gif]
  · rw [beq_eq_false_iff_ne.2 h]; simp [gif, h]
theorem gif_ne (a b : Int) (p q : Prop) : gif (a != b) p q = ((a ≠ b → p) ∧ (a = b → q)) := by
  by_cases h : a = b
  · subst h; simp [gif]
  · rw [bne, beq_eq_false_iff_ne.2 h]; simp [gif, h]

section
variable {P : Program}

theorem slimOp_spec {all : List Oper} {o : Oper} {x : SOp} (h : slimOp all o = some x) : x.d = o.dst ∧ x.op = o.op ∧ ((o.guard = none ∧ x.g = none) ∨ ∃ j want d, o.guard = some (j, want) ∧ slotOf all j = some d ∧ x.g = some (d, want)) := by
  unfold slimOp at h
  split at h
  · rename_i hg; cases h; exact ⟨rfl, rfl, .inl ⟨hg, rfl⟩⟩
  · rename_i j want hg
    split at h
    · rename_i d hd; cases h; exact ⟨rfl, rfl, .inr ⟨j, want, d, hg, hd, rfl⟩⟩
    · cases h

theorem opsS_ok {R : List Nat} {all : List Oper} {K : GSt → Prop} : ∀ (ops : List Oper) (l : List SOp) (st : GSt), slimOps all ops = some l → opsS P R l K st → opsv P R all ops K st
  | [], l, st, h, hk => by simp [slimOps] at h; subst h; rw [opsS] at hk; rw [opsv]; exact hk
  | o :: r, l, st, h, hk => by
    unfold slimOps at h
    split at h
    · rename_i x y e1 e2
      cases h
      obtain ⟨d, op, g⟩ := x
      obtain ⟨h1, h2, h3⟩ := slimOp_spec e1
      simp only at h1 h2 h3
      subst h1; subst h2
      have ih : ∀ st', opsS P R y K st' → opsv P R all r K st' := fun st' => opsS_ok r y st' e2
      unfold opsv
      rcases h3 with ⟨hg, rfl⟩ | ⟨j, want, d, hg, hd, rfl⟩
      · rw [opsS_one] at hk
        simp only [hg]
        rw [opS_eq]
        exact opv_mono (fun g O' hh => ih _ hh) hk
      · rw [opsS_if] at hk
        simp only [hg, hd]
        split at hk
        · rename_i b hb
          rw [hb]
          cases want with
          | true =>
            have hk := gif_iff.1 hk
            refine gcase.2 ⟨fun e => ?_, fun e => ih _ (hk.2 e)⟩
            rw [opS_eq]
            exact opv_mono (fun g O' hh => ih _ hh) (hk.1 e)
          | false =>
            have hk := gif_iff.1 hk
            refine gcase.2 ⟨fun e => ?_, fun e => ih _ (hk.1 e)⟩
            rw [opS_eq]
            exact opv_mono (fun g O' hh => ih _ hh) (hk.2 e)
        · rename_i v hb
          rw [hb]
          exact ih _ hk
        · exact hk.elim
    · cases h

theorem ordS_ok {R : List Nat} {all : List Oper} {K : GSt → Prop} : ∀ (ord : List (Nat × Nat)) (l : List (SOp × Nat)) (st : GSt), slimOrd all ord = some l → ordS P R l K st → ordv P R all ord K st
  | [], l, st, h, hk => by simp [slimOrd] at h; subst h; rw [ordS] at hk; rw [ordv]; exact hk
  | (i, k) :: r, l, st, h, hk => by
    unfold slimOrd at h
    unfold ordv
    split at h
    · cases h
    · rename_i o ho
      simp only [ho]
      split at h
      · rename_i x y e1 e2
        cases h
        obtain ⟨d, op, g⟩ := x
        obtain ⟨h1, h2, h3⟩ := slimOp_spec e1
        simp only at h1 h2 h3
        subst h1; subst h2
        have ih : ∀ st', ordS P R y K st' → ordv P R all r K st' := fun st' => ordS_ok r y st' e2
        rcases h3 with ⟨hg, rfl⟩ | ⟨j, want, d, hg, hd, rfl⟩
        · rw [ordS_one] at hk
          simp only [hg]
          rw [opS_eq]
          exact opv_mono (fun g O' hh => ⟨hh.1, ih _ hh.2⟩) hk
        · rw [ordS_if] at hk
          simp only [hg, hd]
          split at hk
          · rename_i b hb
            rw [hb]
            cases want with
            | true =>
              have hk := gif_iff.1 hk
              refine gcase.2 ⟨fun e => ?_, fun e => ih _ (hk.2 e)⟩
              rw [opS_eq]
              exact opv_mono (fun g O' hh => ⟨hh.1, ih _ hh.2⟩) (hk.1 e)
            | false =>
              have hk := gif_iff.1 hk
              refine gcase.2 ⟨fun e => ?_, fun e => ih _ (hk.1 e)⟩
              rw [opS_eq]
              exact opv_mono (fun g O' hh => ⟨hh.1, ih _ hh.2⟩) (hk.2 e)
          · rename_i v hb
            rw [hb]
            exact ih _ hk
          · exact hk.elim
      · cases h

theorem opsS_mono {R : List Nat} {K K' : GSt → Prop} (h : ∀ s, K s → K' s) : ∀ (l : List SOp) (st : GSt), opsS P R l K st → opsS P R l K' st
  | [], st, hk => by rw [opsS] at hk ⊢; exact h _ hk
  | ⟨d, op, none⟩ :: r, st, hk => by
    rw [opsS_one] at hk ⊢
    exact opv_mono (fun g O' hh => opsS_mono h r _ hh) hk
  | ⟨d, op, some (s, want)⟩ :: r, st, hk => by
    rw [opsS_if] at hk ⊢
    split at hk
    · cases want with
      | true => exact gif_iff.2 ⟨fun e => opv_mono (fun g O' hh => opsS_mono h r _ hh) ((gif_iff.1 hk).1 e), fun e => opsS_mono h r _ ((gif_iff.1 hk).2 e)⟩
      | false => exact gif_iff.2 ⟨fun e => opsS_mono h r _ ((gif_iff.1 hk).1 e), fun e => opv_mono (fun g O' hh => opsS_mono h r _ hh) ((gif_iff.1 hk).2 e)⟩
    · exact opsS_mono h r _ hk
    · exact hk.elim
theorem ordS_mono {R : List Nat} {K K' : GSt → Prop} (h : ∀ s, K s → K' s) : ∀ (l : List (SOp × Nat)) (st : GSt), ordS P R l K st → ordS P R l K' st
  | [], st, hk => by rw [ordS] at hk ⊢; exact h _ hk
  | (⟨d, op, none⟩, k) :: r, st, hk => by
    rw [ordS_one] at hk ⊢
    exact opv_mono (fun g O' hh => ⟨hh.1, ordS_mono h r _ hh.2⟩) hk
  | (⟨d, op, some (s, want)⟩, k) :: r, st, hk => by
    rw [ordS_if] at hk ⊢
    split at hk
    · cases want with
      | true => exact gif_iff.2 ⟨fun e => opv_mono (fun g O' hh => ⟨hh.1, ordS_mono h r _ hh.2⟩) ((gif_iff.1 hk).1 e), fun e => ordS_mono h r _ ((gif_iff.1 hk).2 e)⟩
      | false => exact gif_iff.2 ⟨fun e => ordS_mono h r _ ((gif_iff.1 hk).1 e), fun e => opv_mono (fun g O' hh => ⟨hh.1, ordS_mono h r _ hh.2⟩) ((gif_iff.1 hk).2 e)⟩
    · exact ordS_mono h r _ hk
    · exact hk.elim

theorem thenQ_mono {N N' : GSt → Prop} {Q Q' : Ex → GSt → Prop} (h1 : ∀ s, N s → N' s) (h2 : ∀ e s, Q e s → Q' e s) : ∀ e s, thenQ N Q e s → thenQ N' Q' e s := by
  intro e s h
  cases e <;> simp only [thenQ] at h ⊢ <;> first | exact h1 _ h | exact h2 _ _ h
theorem blockQ_mono {id : Nat} {Q Q' : Ex → GSt → Prop} (h2 : ∀ e s, Q e s → Q' e s) : ∀ e s, blockQ id Q e s → blockQ id Q' e s := by
  intro e s h
  cases e <;> simp only [blockQ] at h ⊢
  · exact h2 _ _ h
  · split at h
    · rename_i e; rw [if_pos e]; exact h2 _ _ h
    · rename_i e; rw [if_neg e]; exact h2 _ _ h
  · exact h2 _ _ h

theorem vcS_ok {C : Cfg} : ∀ (c : Code) (s : SCode) (Q Q' : Ex → GSt → Prop) (st : GSt), slim C c = some s → (∀ e s, Q e s → Q' e s) → vcS P C.ro s Q st → vc P C c Q' st
  | .skip, s, Q, Q', st, h, hq, hk => by simp only [slim, Option.some.injEq] at h; subst h; rw [vcS] at hk; rw [vc]; exact hq _ _ hk
  | .region id ops draw, s, Q, Q', st, h, hq, hk => by
    unfold slim at h
    cases draw with
    | false =>
      rw [vc_ops]
      simp only at h
      split at h
      · rename_i l e; cases h; rw [vcS] at hk
        exact opsS_ok _ _ _ e (opsS_mono (fun s hs => hq _ _ hs) _ _ hk)
      · cases h
    | true =>
      rw [vc_draw]
      simp only at h
      split at h
      · rename_i l e; cases h; rw [vcS] at hk
        exact ordS_ok _ _ _ e (ordS_mono (fun s hs => hq _ _ hs) _ _ hk)
      · cases h
  | .seq x y, s, Q, Q', st, h, hq, hk => by
    unfold slim at h
    split at h
    · rename_i a b e1 e2
      cases h
      rw [vcS] at hk
      rw [vc]
      exact vcS_ok x a _ _ st e1 (thenQ_mono (fun s hs => vcS_ok y b Q Q' s e2 hq hs) hq) hk
    · cases h
  | .cond c x y, s, Q, Q', st, h, hq, hk => by
    unfold slim at h
    split at h
    · rename_i a b e1 e2
      cases h
      rw [vcS] at hk
      rw [vc]
      split at hk
      · rename_i t ht
        rw [ht]
        exact gcase1.2 ⟨fun e => vcS_ok x a Q Q' st e1 hq ((gif_iff.1 hk).1 e), fun e => vcS_ok y b Q Q' st e2 hq ((gif_iff.1 hk).2 e)⟩
      · rename_i ht
        rw [ht]
        exact ⟨vcS_ok x a Q Q' st e1 hq hk.1, vcS_ok y b Q Q' st e2 hq hk.2⟩
      · exact hk.elim
    · cases h
  | .block id x, s, Q, Q', st, h, hq, hk => by
    unfold slim at h
    split at h
    · rename_i a e1
      cases h
      rw [vcS] at hk
      rw [vc]
      exact vcS_ok x a _ _ st e1 (blockQ_mono hq) hk
    · cases h
  | .loop x, s, Q, Q', st, h, hq, hk => by
    unfold slim at h
    split at h
    · rename_i a e1
      cases h
      rw [vcS] at hk
      rw [vc]
      obtain ⟨ι, I, μ, h0, h1⟩ := hk
      exact ⟨ι, I, μ, h0, fun i => vcS_ok x a _ _ (I i) e1 (thenQ_mono (fun s hs => hs) hq) (h1 i)⟩
    · cases h
  | .exit n, s, Q, Q', st, h, hq, hk => by simp only [slim, Option.some.injEq] at h; subst h; rw [vcS] at hk; rw [vc]; exact hq _ _ hk
  | .ret, s, Q, Q', st, h, hq, hk => by simp only [slim, Option.some.injEq] at h; subst h; rw [vcS] at hk; rw [vc]; exact hq _ _ hk
  | .rangeFunc .., s, Q, Q', st, h, hq, hk => by simp [slim] at h
  | .goto .., s, Q, Q', st, h, hq, hk => by simp [slim] at h
  | .label .., s, Q, Q', st, h, hq, hk => by simp [slim] at h
  | .scope .., s, Q, Q', st, h, hq, hk => by simp [slim] at h
  | .refuse .., s, Q, Q', st, h, hq, hk => by simp [slim] at h

/-- all that is looked up of a function -/
structure FnS (P : Program) (f : FuncId) (C : Cfg) (n : Nat) (rs : List ResultVar) (s : SCode) : Prop where
  ok : ∃ fn c, P.funcs[f]? = some fn ∧ fn.body = some c ∧ fn.ntmps = n ∧ fn.results.toList = rs ∧ enterable P f = true ∧ codeOk C c = true ∧ slim C c = some s
theorem FnS.mk' {P : Program} {f : FuncId} {fn : Func} {C : Cfg} {n : Nat} {rs : List ResultVar} {s : SCode} (h1 : P.funcs[f]? = some fn) (h2 : fn.body.isSome = true) (h3 : fn.ntmps = n) (h4 : fn.results.toList = rs) (h5 : (fn.name != "runtime.NumGoroutine") = true)
    (h6 : codeOk C (fn.body.getD .skip) = true) (h7 : slim C (fn.body.getD .skip) = some s) : FnS P f C n rs s := by
  obtain ⟨c, hc⟩ := Option.isSome_iff_exists.1 h2
  refine ⟨fn, c, h1, hc, h3, h4, ?_, by simpa [hc] using h6, by simpa [hc] using h7⟩
  unfold enterable
  rw [h1]
  simp only [h2, h5, Bool.and_self]

theorem FnS.calls (hmix : P.follows .mixedOrders = true) {f : FuncId} {C : Cfg} {n : Nat} {rs : List ResultVar} {s : SCode} (h : FnS P f C n rs s) {args : List GVal} {O : List GObj} {K : GVal → List GObj → Prop} (ha : args.length ≤ n)
    (hk : vcS P C.ro s (retQ P rs K) (gstart n args O)) : GCalls P f args O K := by
  obtain ⟨fn, c, h1, h2, h3, h4, h5, h6, h7⟩ := h.ok
  subst h4
  exact gcalls_of_vc hmix C h1 h2 h3 rfl h5 ha h6 (vcS_ok c s _ _ _ h7 (fun _ _ hh => hh) hk)
/-- a pure contract -/
theorem FnS.pure (hmix : P.follows .mixedOrders = true) {f : FuncId} {C : Cfg} {n : Nat} {rs : List ResultVar} {s : SCode} (h : FnS P f C n rs s) {args : List GVal} {r : GVal} (ha : args.length ≤ n)
    (hk : vcS P C.ro s (retQ P rs (fun g O' => leA g r)) (gstart n args [])) : GPure P f args r :=
  GCalls.into ((h.calls hmix ha hk).mono fun g O' h => GInto.leA h ⟨rfl, rfl⟩)
end
end Gv
