/- Running code over ghost values: regions, code, functions; calls that stand apart. -/
import Derived.Test.YtcjiabpfahmjnaaGvApart
set_option linter.unusedVariables false
namespace Gv
open Go

variable {P : Program} {T : Tabs}

/-- a state with one slot set, written out -/
noncomputable def putX {β : Type} (st : GSt) (d : Option Nat) (g : GVal) (O' : List GObj) (k : GSt → β) : β :=
  match d with
  | some d => headG g fun g => setR st.s d g fun s => k ⟨s, O'⟩
  | none => k ⟨st.s, O'⟩
theorem putX_eq {β : Type} (st : GSt) (d : Option Nat) (g : GVal) (O' : List GObj) (k : GSt → β) : putX st d g O' k = k (st.put d g O') := by
  unfold putX
  cases d with
  | none => rfl
  | some d => simp only [headG_eq, setR_eq]; rfl

noncomputable def contR (k : GSt → Option GSt) (st : GSt) (d : Option Nat) (r : Option (GVal × List GObj)) : Option GSt :=
  match r with
  | some (g, O') => putX st d g O' k
  | none => none
theorem contR_some {k : GSt → Option GSt} {st s : GSt} {d : Option Nat} {r : Option (GVal × List GObj)} (h : contR k st d r = some s) : ∃ g O', r = some (g, O') ∧ k (st.put d g O') = some s := by
  unfold contR at h
  split at h
  · rename_i g O'; rw [putX_eq] at h; exact ⟨g, O', rfl, h⟩
  · cases h
def eqB (a b : Bool) : Bool := match a, b with
  | true, true => true
  | false, false => true
  | _, _ => false
def guardR (run skip : Option GSt) (want : Bool) (g : GVal) : Option GSt :=
  match g with
  | .bool b => match eqB b want with
    | true => run
    | false => skip
  | .lit (.tuple _) => skip
  | _ => none
theorem guardR_some {run skip : Option GSt} {want : Bool} {g : GVal} {s : GSt} (h : guardR run skip want g = some s) :
    (g = .bool want ∧ run = some s) ∨ (g = .bool (!want) ∧ skip = some s) ∨ ((∃ v, g = .lit (.tuple v)) ∧ skip = some s) := by
  unfold guardR at h
  split at h
  · rename_i b
    cases b <;> cases want <;> simp only [eqB] at h <;> simp [h]
  · exact .inr (.inr ⟨⟨_, rfl⟩, h⟩)
  · cases h
noncomputable def opsX (T : Tabs) (call : CallX) (R : List Nat) (all : List Oper) : List Oper → GSt → Option GSt
  | [], st => some st
  | o :: r, st => match o.guard with
    | none => contR (opsX T call R all r) st o.dst (opxD o.op T call R st o.dst)
    | some (j, want) => match slotOf all j with
      | some d => guardR (contR (opsX T call R all r) st o.dst (opxD o.op T call R st o.dst)) (putX st o.dst (.lit (.tuple #[])) st.o (opsX T call R all r)) want (nthR st.s d)
      | none => none

theorem sget_lt {s : List GVal} {d : Nat} {b : Bool} (h : sget s d = .bool b) : d < s.length := by
  rcases Nat.lt_or_ge d s.length with h1 | h1
  · exact h1
  · simp [sget, List.getD, List.getElem?_eq_none h1] at h

theorem opsX_ok (hT : T.Ok P) {call : CallX} (hc : call.Ok P) {R : List Nat} {all : List Oper} {st' : GSt} : ∀ (ops : List Oper) (st : GSt), opsX T call R all ops st = some st' → opsv P R all ops (fun s => s = st') st
  | [], st, h => by simp only [opsX, Option.some.injEq] at h; exact h
  | o :: r, st, h => by
    have go : ∀ st1 : GSt, st1 = st → contR (opsX T call R all r) st o.dst (opxD o.op T call R st o.dst) = some st' →
        opv P R st1 o (fun g O' => opsv P R all r (fun s => s = st') (st1.put o.dst g O')) := by
      intro st1 e h
      subst e
      obtain ⟨g, O', ho, h⟩ := contR_some h
      refine opv_mono ?_ (opx_ok hT hc (opxD_ok ho))
      rintro g' O'' ⟨rfl, rfl⟩
      exact opsX_ok hT hc r _ h
    unfold opsX at h
    unfold opsv
    split at h
    · rename_i hg
      simp only [hg]
      exact go st rfl h
    · rename_i j want hg
      simp only [hg]
      split at h
      · rename_i d hd
        simp only [hd]
        rw [nthR_eq] at h
        rcases guardR_some h with ⟨hb, h⟩ | ⟨hb, h⟩ | ⟨⟨v, hb⟩, h⟩
        · have hself : st.setS d (.bool want) = st := GSt.setS_self (sget_lt hb) hb
          rw [hb]
          exact gcase.2 ⟨fun _ => go _ hself h, fun e => (by cases want <;> cases e)⟩
        · have hself : st.setS d (.bool (!want)) = st := GSt.setS_self (sget_lt hb) hb
          rw [hb]
          rw [putX_eq] at h
          refine gcase.2 ⟨fun e => (by cases want <;> cases e), fun _ => ?_⟩
          rw [hself]
          exact opsX_ok hT hc r _ h
        · simp only [hb]
          rw [putX_eq] at h
          exact opsX_ok hT hc r _ h
      · cases h

/-! regions that draw -/
/-- an operation that only adds objects -/
noncomputable def addX (T : Tabs) (call : CallX) (R : List Nat) (st : GSt) (o : Oper) : Option (GVal × List GObj) :=
  match o.op with
  | .alloc _ => opx T call R st o
  | .box _ _ => opx T call R st o
  | .call ⟨.value f, args, _⟩ => match st.ev f with
    | .func (.func n) first caps => match frzL (frz [] 64) (first ++ args.toList.map st.ev ++ caps) with
      | some as => if noStL as = true then (match call n as [.clock 0] with
        | some (g, X) => match spareX X g with
          | some (ys, sz) => match clockOf st.o with
            | some c => if noStL2 ys = true then some (.slice ys (.tok st.o.length c), tickO st.o ++ [.tok c sz]) else none
            | none => none
          | none => match frz X 64 g with
            | some g' => if g'.noSt = true then some (g', st.o) else none
            | none => none
        | none => none) else none
      | none => none
    | _ => none
  | _ => none

theorem bare_tick (O : List GObj) (x : GObj) (h : O ≠ []) : bare (tickO O ++ [x]) = bare O ++ [x] := by
  cases O with
  | nil => exact absurd rfl h
  | cons y r => cases y <;> simp [tickO, bare]

theorem addX_ok (hT : T.Ok P) {call : CallX} (hc : call.Ok P) {R st o g O'} (h : addX T call R st o = some (g, O')) : opv P R st o (fun g' O'' => (∃ new, bare O'' = bare st.o ++ new) ∧ g' = g ∧ O'' = O') := by
  have base : (∃ new, bare O' = bare st.o ++ new) → opx T call R st o = some (g, O') → opv P R st o (fun g' O'' => (∃ new, bare O'' = bare st.o ++ new) ∧ g' = g ∧ O'' = O') := fun h1 h2 =>
    opv_mono (fun g' O'' ⟨e1, e2⟩ => ⟨by rw [e2]; exact h1, e1, e2⟩) (opx_ok hT hc h2)
  have ne : ∀ n, clockOf st.o = some n → st.o ≠ [] := fun n e h => by rw [h] at e; cases e
  unfold addX at h
  split at h
  · rename_i t eo
    refine base ?_ h
    simp only [opx, eo, allocX, forceL_eq] at h
    split at h
    · rename_i cs n e1 e2
      split at h
      · cases h; exact ⟨_, bare_tick _ _ (ne _ e2)⟩
      · cases h
    · cases h
  · rename_i t x eo
    refine base ?_ h
    simp only [opx, eo, boxX, forceL_eq] at h
    split at h
    · split at h
      · cases h; exact ⟨[], by simp⟩
      · split at h
        · rename_i n e2; cases h; exact ⟨_, bare_tick _ _ (ne _ e2)⟩
        · cases h
    · cases h
  · rename_i f args ts eo
    unfold opv
    simp only [eo]
    unfold callV
    split at h
    · rename_i n first caps e1
      simp only [e1]
      split at h
      · rename_i as has
        split at h
        · rename_i h1
          split at h
          · rename_i g2 X h2
            split at h
            · rename_i ys sz hsp
              split at h
              · rename_i c e2
                split at h
                · rename_i h3
                  cases h
                  refine ((hc _ _ _ _ _ h2).apartSpare h1 (spareX_ok hsp) h3 ?_).strip has
                  unfold stamp
                  rw [e2]
                  exact ⟨⟨_, bare_tick _ _ (ne _ e2)⟩, rfl, rfl⟩
                · cases h
              · cases h
            split at h
            · rename_i g' hz
              split at h
              · rename_i h3
                cases h
                exact ((((hc _ _ _ _ _ h2).frz hz).apart h1 h3 st.o).mono (fun g' O'' ⟨e1, e2⟩ => ⟨⟨[], by rw [e2]; simp⟩, e1, e2⟩)).strip has
              · cases h
            · cases h
          · cases h
        · cases h
      · cases h
    · cases h
  · cases h

noncomputable def stepX (T : Tabs) (call : CallX) (R : List Nat) (st : GSt) (o : Oper) (k : Nat) : Option (GVal × List GObj) := match Nat.beq k 2 with
  | true => addX T call R st o
  | false => opxD o.op T call R st o.dst
theorem stepX_ok (hT : T.Ok P) {call : CallX} (hc : call.Ok P) {R st o k g O'} (h : stepX T call R st o k = some (g, O')) : opv P R st o (fun g' O'' => drawC k st.o O'' (g' = g ∧ O'' = O')) := by
  unfold stepX at h
  split at h
  · exact opv_mono (fun g' O'' e => ⟨fun _ => e.1, e.2⟩) (addX_ok hT hc h)
  · rename_i hk
    have hk2 : k ≠ 2 := fun e => by subst e; cases hk
    exact opv_mono (fun g' O'' e => ⟨fun e => absurd e hk2, e⟩) (opx_ok hT hc (opxD_ok h))

noncomputable def ordX (T : Tabs) (call : CallX) (R : List Nat) (all : List Oper) : List (Nat × Nat) → GSt → Option GSt
  | [], st => some st
  | (i, k) :: r, st => match nthO all i with
    | none => none
    | some o => match o.guard with
      | none => contR (ordX T call R all r) st o.dst (stepX T call R st o k)
      | some (j, want) => match slotOf all j with
        | some d => guardR (contR (ordX T call R all r) st o.dst (stepX T call R st o k)) (putX st o.dst (.lit (.tuple #[])) st.o (ordX T call R all r)) want (nthR st.s d)
        | none => none

theorem ordX_ok (hT : T.Ok P) {call : CallX} (hc : call.Ok P) {R : List Nat} {all : List Oper} {st' : GSt} : ∀ (ord : List (Nat × Nat)) (st : GSt), ordX T call R all ord st = some st' → ordv P R all ord (fun s => s = st') st
  | [], st, h => by simp only [ordX, Option.some.injEq] at h; exact h
  | (i, k) :: r, st, h => by
    unfold ordX at h
    rw [nthO_eq] at h
    unfold ordv
    split at h
    · cases h
    · rename_i o ho
      simp only [ho]
      have go : ∀ st1 : GSt, st1 = st → contR (ordX T call R all r) st o.dst (stepX T call R st o k) = some st' →
          opv P R st1 o (fun g O' => drawC k st1.o O' (ordv P R all r (fun s => s = st') (st1.put o.dst g O'))) := by
        intro st1 e h
        subst e
        obtain ⟨g, O', hs, h⟩ := contR_some h
        refine opv_mono ?_ (stepX_ok hT hc hs)
        rintro g' O'' ⟨h1, rfl, rfl⟩
        exact ⟨h1, ordX_ok hT hc r _ h⟩
      split at h
      · rename_i hg
        simp only [hg]
        exact go st rfl h
      · rename_i j want hg
        simp only [hg]
        split at h
        · rename_i d hd
          simp only [hd]
          rw [nthR_eq] at h
          rcases guardR_some h with ⟨hb, h⟩ | ⟨hb, h⟩ | ⟨⟨v, hb⟩, h⟩
          · have hself : st.setS d (.bool want) = st := GSt.setS_self (sget_lt hb) hb
            rw [hb]
            exact gcase.2 ⟨fun _ => go _ hself h, fun e => (by cases want <;> cases e)⟩
          · have hself : st.setS d (.bool (!want)) = st := GSt.setS_self (sget_lt hb) hb
            rw [hb]
            rw [putX_eq] at h
            refine gcase.2 ⟨fun e => (by cases want <;> cases e), fun _ => ?_⟩
            rw [hself]
            exact ordX_ok hT hc r _ h
          · simp only [hb]
            rw [putX_eq] at h
            exact ordX_ok hT hc r _ h
        · cases h

/-! code -/
noncomputable def loopX (body : GSt → Option (Ex × GSt)) : Nat → GSt → Option (Ex × GSt)
  | 0, _ => none
  | n + 1, st => match body st with
    | some (.normal, st') => loopX body n st'
    | r => r

def normR (r : Option GSt) : Option (Ex × GSt) := match r with
  | some st' => some (.normal, st')
  | none => none
noncomputable def regR (T : Tabs) (call : CallX) (C : Cfg) (id : Nat) (ops : Array Oper) (draw : Bool) (st : GSt) : Option (Ex × GSt) := match draw with
  | false => normR (opsX T call C.ro ops.toList ops.toList st)
  | true => normR (ordX T call C.ro ops.toList (C.of id) st)
def seqR (r : Option (Ex × GSt)) (k : GSt → Option (Ex × GSt)) : Option (Ex × GSt) := match r with
  | some (.normal, st') => k st'
  | r => r
def condR (c : GVal) (a b : Option (Ex × GSt)) : Option (Ex × GSt) := match c with
  | .bool true => a
  | .bool false => b
  | _ => none
def blockR (id : Nat) (r : Option (Ex × GSt)) : Option (Ex × GSt) := match r with
  | some (.exit n, st') => match Nat.beq n id with
    | true => some (.normal, st')
    | false => some (.exit n, st')
  | r => r
noncomputable def runC (T : Tabs) (call : CallX) (C : Cfg) (fuel : Nat) : Code → GSt → Option (Ex × GSt)
  | .skip, st => some (.normal, st)
  | .region id ops draw, st => regR T call C id ops draw st
  | .seq a b, st => seqR (runC T call C fuel a st) (runC T call C fuel b)
  | .cond c a b, st => condR (evR st c) (runC T call C fuel a st) (runC T call C fuel b st)
  | .block id a, st => blockR id (runC T call C fuel a st)
  | .loop a, st => loopX (runC T call C fuel a) fuel st
  | .exit n, st => some (.exit n, st)
  | .ret, st => some (.ret, st)
  | _, _ => none

def At' (E : Env) (O : List GObj) (w : World) (ex : Ex) (st' : GSt) : Exit → Act → World → Prop := Post E O w (fun e s => e = ex ∧ s = st')

theorem runC_ok (hmix : P.follows .mixedOrders = true) (hT : T.Ok P) {call : CallX} (hc : call.Ok P) {C : Cfg} {fuel : Nat} : ∀ (c : Code) (st st' : GSt) (ex : Ex), codeOk C c = true → runC T call C fuel c st = some (ex, st') →
    ∀ (E : Env) (a : Act) (w : World), HSim E st.o w → SlotsR E a st.s → c.wp P (At' E st.o w ex st') a w
  | .skip, st, st', ex, hok, hr, E, a, w, h, ha => by
    simp only [runC, Option.some.injEq, Prod.mk.injEq] at hr
    obtain ⟨rfl, rfl⟩ := hr
    exact wp_skip ⟨.normal, st, E, trivial, h, .refl _ _ _, ha, rfl, rfl⟩
  | .region id ops draw, st, st', ex, hok, hr, E, a, w, h, ha => by
    have base : ex = .normal → vc P C (.region id ops draw) (fun e s => e = .normal ∧ s = st') st → (Code.region id ops draw).wp P (At' E st.o w ex st') a w := fun e hv => by
      subst e
      exact vc_sound hmix _ _ st E a w hok h ha hv
    cases draw with
    | false =>
      simp only [runC, regR] at hr
      unfold normR at hr
      split at hr
      · rename_i s1 e1
        cases hr
        refine base rfl ?_
        rw [vc]
        have := opsX_ok hT hc _ _ e1
        simpa using this
      · cases hr
    | true =>
      simp only [runC, regR] at hr
      unfold normR at hr
      split at hr
      · rename_i s1 e1
        cases hr
        refine base rfl ?_
        rw [vc]
        have := ordX_ok hT hc _ _ e1
        simpa using this
      · cases hr
  | .seq x y, st, st', ex, hok, hr, E, a, w, h, ha => by
    simp only [codeOk, Bool.and_eq_true] at hok
    rw [runC] at hr
    unfold seqR at hr
    refine wp_seq ?_
    split at hr
    · rename_i s1 e1
      refine wp_mono (runC_ok hmix hT hc x st s1 .normal hok.1 e1 E a w h ha) ?_
      rintro e a' w' ⟨ex1, s2, E', hx, h1, h2, h3, rfl, rfl⟩
      cases e <;> first
        | exact hx.elim
        | (refine wp_mono (runC_ok hmix hT hc y s2 st' ex hok.2 hr E' a' w' h1 h3) ?_
           rintro e2 a2 w2 ⟨ex2, st2, E2, g0, g1, g2, g3, g4⟩
           exact ⟨ex2, st2, E2, g0, g1, h2.trans g2, g3, g4⟩)
    · rename_i hne
      refine wp_mono (runC_ok hmix hT hc x st st' ex hok.1 hr E a w h ha) ?_
      rintro e a' w' ⟨ex1, s2, E', hx, h1, h2, h3, rfl, rfl⟩
      cases ex1 with
      | normal => exact absurd hr (hne _)
      | exit n => cases e <;> first | exact hx.elim | exact ⟨_, s2, E', hx, h1, h2, h3, rfl, rfl⟩
      | ret => cases e <;> first | exact hx.elim | exact ⟨_, s2, E', hx, h1, h2, h3, rfl, rfl⟩
  | .cond c x y, st, st', ex, hok, hr, E, a, w, h, ha => by
    simp only [codeOk, Bool.and_eq_true] at hok
    rw [runC, evR_eq] at hr
    unfold condR at hr
    have hcv := ha.ev c
    split at hr
    · rename_i hce
      rw [hce] at hcv
      generalize hcx : a.eval c = cv at hcv
      cases hcv
      exact wp_cond_split hcx (fun _ => runC_ok hmix hT hc x st st' ex hok.1 hr E a w h ha) (fun e => by cases e)
    · rename_i hce
      rw [hce] at hcv
      generalize hcx : a.eval c = cv at hcv
      cases hcv
      exact wp_cond_split hcx (fun e => by cases e) (fun _ => runC_ok hmix hT hc y st st' ex hok.2 hr E a w h ha)
    · cases hr
  | .block id x, st, st', ex, hok, hr, E, a, w, h, ha => by
    rw [runC] at hr
    unfold blockR at hr
    have hok' : codeOk C x = true := by simpa [codeOk] using hok
    refine wp_block ?_
    split at hr
    · rename_i n s1 e1
      refine wp_mono (runC_ok hmix hT hc x st s1 (.exit n) hok' e1 E a w h ha) ?_
      rintro e a' w' ⟨ex1, s2, E', hx, h1, h2, h3, rfl, rfl⟩
      cases e <;> first
        | exact hx.elim
        | (rename_i m
           have hx' : m = n := hx
           subst hx'
           simp only [Exit.inBlock]
           split at hr
           · rename_i e; rw [Nat.beq_eq] at e; cases hr; rw [if_pos e]; exact ⟨.normal, _, E', trivial, h1, h2, h3, rfl, rfl⟩
           · rename_i e; have e := Nat.ne_of_beq_eq_false e; cases hr; rw [if_neg e]; exact ⟨.exit m, _, E', rfl, h1, h2, h3, rfl, rfl⟩)
    · rename_i hne
      refine wp_mono (runC_ok hmix hT hc x st st' ex hok' hr E a w h ha) ?_
      rintro e a' w' ⟨ex1, s2, E', hx, h1, h2, h3, rfl, rfl⟩
      cases ex1 with
      | exit n => exact absurd hr (hne _ _)
      | normal => cases e <;> first | exact hx.elim | exact ⟨_, s2, E', hx, h1, h2, h3, rfl, rfl⟩
      | ret => cases e <;> first | exact hx.elim | exact ⟨_, s2, E', hx, h1, h2, h3, rfl, rfl⟩
  | .loop x, st, st', ex, hok, hr, E, a, w, h, ha => by
    rw [runC] at hr
    have hok' : codeOk C x = true := by simpa [codeOk] using hok
    have key : ∀ (n : Nat) (s : GSt), loopX (runC T call C fuel x) n s = some (ex, st') → ∀ (E1 : Env) (a1 : Act) (w1 : World), HSim E1 s.o w1 → Keep E st.o w E1 s.o w1 → SlotsR E1 a1 s.s →
        Code.rounds P x (At' E st.o w ex st') n a1 w1 := by
      intro n
      induction n with
      | zero => intro s hs; cases hs
      | succ n ih =>
        intro s hs E1 a1 w1 g1 g2 g3
        rw [rounds_succ]
        unfold loopX at hs
        split at hs
        · rename_i s1 e1
          refine wp_mono (runC_ok hmix hT hc x s s1 .normal hok' e1 E1 a1 w1 g1 g3) ?_
          rintro e a' w' ⟨ex1, s2, E', hx, h1, h2, h3, rfl, rfl⟩
          cases e <;> first
            | exact hx.elim
            | exact ih s2 hs E' a' w' h1 (g2.trans h2) h3
        · rename_i hne
          refine wp_mono (runC_ok hmix hT hc x s st' ex hok' hs E1 a1 w1 g1 g3) ?_
          rintro e a' w' ⟨ex1, s2, E', hx, h1, h2, h3, rfl, rfl⟩
          cases ex1 with
          | normal => exact absurd hs (hne _)
          | exit n => cases e <;> first | exact hx.elim | exact ⟨_, _, E', hx, h1, g2.trans h2, h3, rfl, rfl⟩
          | ret => cases e <;> first | exact hx.elim | exact ⟨_, _, E', hx, h1, g2.trans h2, h3, rfl, rfl⟩
    exact wp_loop_rounds fuel (key fuel st hr E a w h (.refl _ _ _) ha)
  | .exit n, st, st', ex, hok, hr, E, a, w, h, ha => by
    simp only [runC, Option.some.injEq, Prod.mk.injEq] at hr
    obtain ⟨rfl, rfl⟩ := hr
    exact wp_exit ⟨.exit n, st, E, rfl, h, .refl _ _ _, ha, rfl, rfl⟩
  | .ret, st, st', ex, hok, hr, E, a, w, h, ha => by
    simp only [runC, Option.some.injEq, Prod.mk.injEq] at hr
    obtain ⟨rfl, rfl⟩ := hr
    exact wp_ret ⟨.ret, st, E, trivial, h, .refl _ _ _, ha, rfl, rfl⟩
  | .rangeFunc .., st, st', ex, hok, hr, E, a, w, h, ha => by simp [runC] at hr
  | .goto .., st, st', ex, hok, hr, E, a, w, h, ha => by simp [runC] at hr
  | .label .., st, st', ex, hok, hr, E, a, w, h, ha => by simp [runC] at hr
  | .scope .., st, st', ex, hok, hr, E, a, w, h, ha => by simp [runC] at hr
  | .refuse .., st, st', ex, hok, hr, E, a, w, h, ha => by simp [runC] at hr

/-! functions -/
def resX (T : Tabs) (st : GSt) : List ResultVar → Option (List GVal)
  | [] => some []
  | .tmp t :: r => match resX T st r with
    | some gs => some (sget st.s t :: gs)
    | none => none
  | .cell a t :: r => match loadX T t (sget st.s a) st.o, resX T st r with
    | some g, some gs => some (g :: gs)
    | _, _ => none
theorem resX_ok (hT : T.Ok P) {st : GSt} : ∀ (rs : List ResultVar) (gs : List GVal) (K : List GVal → Prop), resX T st rs = some gs → K gs → resV P st rs K
  | [], gs, K, h, hk => by simp only [resX, Option.some.injEq] at h; subst h; exact hk
  | .tmp t :: r, gs, K, h, hk => by
    unfold resX at h
    split at h
    · rename_i gs' e; cases h; exact resX_ok hT r gs' _ e hk
    · cases h
  | .cell a t :: r, gs, K, h, hk => by
    unfold resX at h
    split at h
    · rename_i g gs' e1 e2; cases h; exact loadX_ok hT e1 (resX_ok hT r gs' _ e2 hk)
    · cases h

def endX (T : Tabs) (rs : List ResultVar) : Option (Ex × GSt) → Option (GVal × List GObj)
  | some (.exit _, _) => none
  | some (_, st) => match resX T st rs with
    | some gs => some (resG gs, st.o)
    | none => none
  | none => none

noncomputable def runF (T : Tabs) (fuel : Nat) : Nat → CallX
  | 0 => fun _ _ _ => none
  | n + 1 => fun f args O => match T.fn f with
    | some x => if args.length ≤ x.n then forceL (args ++ List.replicate (x.n - args.length) .any) (fun s => endX T x.rs (runC T (runF T fuel n) ⟨x.ro, x.ord⟩ fuel x.body ⟨s, O⟩)) else none
    | none => none

theorem runF_ok (hmix : P.follows .mixedOrders = true) (hT : T.Ok P) {fuel : Nat} : ∀ n, (runF T fuel n).Ok P
  | 0 => fun f args O g O' h => by cases h
  | n + 1 => fun f args O g O' h => by
    have ih := runF_ok hmix hT (fuel := fuel) n
    unfold runF at h
    split at h
    · rename_i x hx
      obtain ⟨⟨fn, h1, h2, h3, h4⟩, h5, h6⟩ := hT.fn _ _ hx
      split at h
      · rename_i hle
        rw [forceL_eq] at h
        refine gcalls_of_wp h1 h2 h3 rfl h5 hle fun E a w hs ha => ?_
        rw [h4]
        unfold endX at h
        split at h
        · cases h
        · rename_i ex st' hne e1
          split at h
          · rename_i gs e2
            cases h
            refine wp_mono (runC_ok hmix hT ih x.body _ st' ex h6 e1 E a w hs ha) ?_
            rintro e a' w' ⟨ex1, s2, E', hx, g1, g2, g3, rfl, rfl⟩
            refine ⟨ex1, s2, E', hx, g1, g2, g3, ?_⟩
            cases ex1 with
            | exit m => exact (hne _ rfl).elim
            | normal => exact resX_ok hT _ _ _ e2 ⟨rfl, rfl⟩
            | ret => exact resX_ok hT _ _ _ e2 ⟨rfl, rfl⟩
          · cases h
        · cases h
      · cases h
    · cases h

/-- what a closed call comes to, by calculation -/
noncomputable def comes (T : Tabs) (fuel : Nat) (f : Nat) (args : List GVal) : Option GVal :=
  match runF T fuel fuel f args [.clock 0] with
  | some (g, X) => match frz X 64 g with
    | some g' => if noStL args = true ∧ g'.noSt = true then some g' else none
    | none => none
  | none => none
theorem comes_ok (hmix : P.follows .mixedOrders = true) (hT : T.Ok P) {fuel f : Nat} {args : List GVal} {g : GVal} (h : comes T fuel f args = some g) : GPure P f args g := by
  unfold comes at h
  split at h
  · rename_i g1 X e
    split at h
    · rename_i g' hz
      split at h
      · rename_i hc
        cases h
        exact ((runF_ok hmix hT fuel f args _ _ _ e).frz hz).pure hc.1 hc.2
      · cases h
    · cases h
  · cases h

end Gv
