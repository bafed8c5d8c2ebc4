/- Code: its verification conditions over ghost states, and that they suffice. -/
import Derived.Test.YtcjiabpfahmjnaaGvDraw
import Derived.Deep.LoopGhost
set_option linter.unusedVariables false
namespace Gv
open Go

inductive Ex where
  | normal
  | exit (n : Nat)
  | ret

def ExR : Exit → Ex → Prop
  | .normal, .normal => True
  | .exit n, .exit m => n = m
  | .ret, .ret => True
  | _, _ => False

def opsv (P : Program) (R : List Nat) (all : List Oper) : List Oper → (GSt → Prop) → GSt → Prop
  | [], K, st => K st
  | o :: r, K, st => match o.guard with
    | none => opv P R st o (fun g O' => opsv P R all r K (st.put o.dst g O'))
    | some (j, want) => match slotOf all j with
      | some d => match sget st.s d with
        | .bool b => if b = want then (b = want → opv P R (st.setS d (.bool want)) o (fun g O' => opsv P R all r K ((st.setS d (.bool want)).put o.dst g O'))) else
            (b = (!want) → opsv P R all r K ((st.setS d (.bool (!want))).put o.dst (.lit (.tuple #[])) st.o))
        | .lit (.tuple _) => opsv P R all r K (st.put o.dst (.lit (.tuple #[])) st.o)
        | _ => False
      | none => False

/-- what a function's conditions lean on: the slots of boxes that are never written; the order in which each region that draws is gone through -/
structure Cfg where
  ro : List Nat
  ord : List (Nat × List (Nat × Nat))

def ordFind : List (Nat × List (Nat × Nat)) → Nat → List (Nat × Nat)
  | [], _ => []
  | (j, l) :: r, id => if j = id then l else ordFind r id
def Cfg.of (C : Cfg) (id : Nat) : List (Nat × Nat) := ordFind C.ord id

/-- the regions that draw are in order -/
def codeOk (C : Cfg) : Code → Bool
  | .region id ops true => drawOk C.ro ops.toList (C.of id)
  | .seq a b => codeOk C a && codeOk C b
  | .cond _ a b => codeOk C a && codeOk C b
  | .block _ a => codeOk C a
  | .loop a => codeOk C a
  | _ => true

/-- what is known of a state is known of another one, which says less -/
def Into (st : GSt) (N : GSt → Prop) : Prop :=
  ∀ E a w, HSim E st.o w → SlotsR E a st.s → ∃ st' E', N st' ∧ HSim E' st'.o w ∧ Keep E st.o w E' st'.o w ∧ SlotsR E' a st'.s

def thenQ (N : GSt → Prop) (Q : Ex → GSt → Prop) : Ex → GSt → Prop
  | .normal, st => N st
  | e, st => Q e st
def blockQ (id : Nat) (Q : Ex → GSt → Prop) : Ex → GSt → Prop
  | .exit n, st => if n = id then Q .normal st else Q (.exit n) st
  | e, st => Q e st

def vc (P : Program) (C : Cfg) : Code → (Ex → GSt → Prop) → GSt → Prop
  | .skip, Q, st => Q .normal st
  | .region id ops draw, Q, st => match draw with
    | false => opsv P C.ro ops.toList ops.toList (Q .normal) st
    | true => ordv P C.ro ops.toList (C.of id) (Q .normal) st
  | .seq a b, Q, st => vc P C a (thenQ (vc P C b Q) Q) st
  | .cond c a b, Q, st => match st.ev c with
    | .bool t => if t = true then (t = true → vc P C a Q st) else (t = false → vc P C b Q st)
    | .ubool => vc P C a Q st ∧ vc P C b Q st
    | _ => False
  | .block id a, Q, st => vc P C a (blockQ id Q) st
  | .loop a, Q, st => ∃ (ι : Type) (I : ι → GSt) (μ : ι → Nat), Into st (fun s => ∃ i, s = I i) ∧ ∀ i, vc P C a (thenQ (fun st' => Into st' (fun s => ∃ j, s = I j ∧ μ j < μ i)) Q) (I i)
  | .exit n, Q, st => Q (.exit n) st
  | .ret, Q, st => Q .ret st
  | _, _, _ => False

def vcLoop (P : Program) (C : Cfg) (a : Code) (Q : Ex → GSt → Prop) (st : GSt) : Prop :=
  ∃ (ι : Type) (I : ι → GSt) (μ : ι → Nat), Into st (fun s => ∃ i, s = I i) ∧ ∀ i, vc P C a (thenQ (fun st' => Into st' (fun s => ∃ j, s = I j ∧ μ j < μ i)) Q) (I i)
theorem vc_loop (P : Program) (C : Cfg) (a : Code) (Q : Ex → GSt → Prop) (st : GSt) : vc P C (.loop a) Q st = vcLoop P C a Q st := by rw [vc, vcLoop]
theorem vcLoop_by {P : Program} {C : Cfg} {a : Code} {Q : Ex → GSt → Prop} {st : GSt} {ι : Type} (I : ι → GSt) (μ : ι → Nat) (h0 : Into st (fun s => ∃ i, s = I i))
    (h : ∀ i, vc P C a (thenQ (fun st' => Into st' (fun s => ∃ j, s = I j ∧ μ j < μ i)) Q) (I i)) : vcLoop P C a Q st := ⟨ι, I, μ, h0, h⟩

section
variable (P : Program) (C : Cfg) (Q : Ex → GSt → Prop) (st : GSt)
theorem vc_skip : vc P C .skip Q st = Q .normal st := by rw [vc]
theorem vc_ops (id : Nat) (ops : Array Oper) : vc P C (.region id ops false) Q st = opsv P C.ro ops.toList ops.toList (Q .normal) st := by rw [vc]
theorem vc_draw (id : Nat) (ops : Array Oper) : vc P C (.region id ops true) Q st = ordv P C.ro ops.toList (C.of id) (Q .normal) st := by rw [vc]
theorem vc_seq (a b : Code) : vc P C (.seq a b) Q st = vc P C a (thenQ (vc P C b Q) Q) st := by rw [vc]
theorem vc_cond (c : Operand) (a b : Code) : vc P C (.cond c a b) Q st = match st.ev c with
    | .bool t => if t = true then (t = true → vc P C a Q st) else (t = false → vc P C b Q st)
    | .ubool => vc P C a Q st ∧ vc P C b Q st
    | _ => False := by rw [vc]
theorem vc_block (id : Nat) (a : Code) : vc P C (.block id a) Q st = vc P C a (blockQ id Q) st := by rw [vc]
theorem vc_exit (n : Nat) : vc P C (.exit n) Q st = Q (.exit n) st := by rw [vc]
theorem vc_ret : vc P C .ret Q st = Q .ret st := by rw [vc]
end

/-- what is left behind: the real act and world, seen from the ghost state that was ahead -/
def Post (E : Env) (O : List GObj) (w : World) (Q : Ex → GSt → Prop) (e : Exit) (a' : Act) (w' : World) : Prop :=
  ∃ ex st' E', ExR e ex ∧ HSim E' st'.o w' ∧ Keep E O w E' st'.o w' ∧ SlotsR E' a' st'.s ∧ Q ex st'

section
variable {P : Program} {R : List Nat}

theorem opsv_sound {all : List Oper} {K : GSt → Prop} {QQ : Exit → Act → World → Prop} : ∀ (ops : List Oper) (st : GSt) (E : Env) (a : Act) (w : World), HSim E st.o w → SlotsR E a st.s → opsv P R all ops K st →
    (∀ st' E' a' w', HSim E' st'.o w' → Keep E st.o w E' st'.o w' → SlotsR E' a' st'.s → K st' → QQ .normal a' w') → wpList P all.toArray QQ ops a w
  | [], st, E, a, w, h, ha, hk, hq => hq st E a w h (.refl _ _ _) ha hk
  | o :: r, st, E, a, w, h, ha, hk, hq => by
    have exec : ∀ st1 : GSt, st1 = st → opv P R st1 o (fun g O' => opsv P R all r K (st1.put o.dst g O')) → o.wp P a w (wpList P all.toArray QQ r) QQ := by
      intro st1 e hk1
      subst e
      refine op_sound h ha hk1 (fun v w' E' O' g h1 h2 h3 h4 => ?_)
      refine opsv_sound r (st1.put o.dst g O') E' _ w' (by rw [GSt.put_o]; exact h1) (ha.put h2.ext h3 O') h4 (fun st' E2 a' w2 g1 g2 g3 g4 => hq st' E2 a' w2 g1 ?_ g3 g4)
      rw [GSt.put_o] at g2
      exact h2.trans g2
    unfold opsv at hk
    split at hk
    · rename_i hg
      refine wpList_plain hg (fun K' hK' => ?_)
      exact Oper.wp_mono (fun a w h => hK' a w h) (exec st rfl hk)
    · rename_i j want hg
      split at hk
      · rename_i d hd
        split at hk
        · rename_i b hb
          obtain ⟨hy, hlt⟩ := yielded_eq ha hd hb
          rw [gcase] at hk
          refine wpList_step (fun K' hK' => ?_)
          by_cases hw : b = want
          · subst hw
            have hwant : Region.wanted o (yielded all.toArray a.tmps) = true := by simp [Region.wanted, hg, hy]
            rw [if_pos hwant]
            exact Oper.wp_mono (fun a w h => hK' a w h) (exec _ (GSt.setS_self hlt hb) (hk.1 rfl))
          · have hw2 : b = !want := by cases b <;> cases want <;> simp_all
            subst hw2
            have hwant : ¬ Region.wanted o (yielded all.toArray a.tmps) = true := by
              simp only [Region.wanted, hg, hy]
              cases want <;> simp
            rw [if_neg hwant]
            have e : st.setS d (.bool !want) = st := GSt.setS_self hlt hb
            have hk2 := hk.2 rfl
            rw [e] at hk2
            refine hK' _ _ (opsv_sound r (st.put o.dst (.lit (.tuple #[])) st.o) E _ w (by rw [GSt.put_o]; exact h) (ha.put (.refl _) (.lit _) _) hk2 (fun st' E2 a' w2 g1 g2 g3 g4 => hq st' E2 a' w2 g1 ?_ g3 g4))
            rw [GSt.put_o] at g2; exact g2
        · rename_i v hb
          have hnot : ¬ Region.wanted o (yielded all.toArray a.tmps) = true := by simp [Region.wanted, hg, yielded_none ha hd hb]
          refine wpList_step (fun K' hK' => ?_)
          rw [if_neg hnot]
          refine hK' _ _ (opsv_sound r (st.put o.dst (.lit (.tuple #[])) st.o) E _ w (by rw [GSt.put_o]; exact h) (ha.put (.refl _) (.lit _) _) hk (fun st' E2 a' w2 g1 g2 g3 g4 => hq st' E2 a' w2 g1 ?_ g3 g4))
          rw [GSt.put_o] at g2; exact g2
        · exact hk.elim
      · exact hk.elim

theorem vc_sound {C : Cfg} (hmix : P.follows .mixedOrders = true) : ∀ (c : Code) (Q : Ex → GSt → Prop) (st : GSt) (E : Env) (a : Act) (w : World), codeOk C c = true → HSim E st.o w → SlotsR E a st.s → vc P C c Q st →
    c.wp P (Post E st.o w Q) a w
  | .skip, Q, st, E, a, w, hcok, h, ha, hk => wp_skip ⟨.normal, st, E, trivial, h, .refl _ _ _, ha, by rw [vc] at hk; exact hk⟩
  | .region id ops draw, Q, st, E, a, w, hcok, h, ha, hk => by
    have hq : ∀ st' E' a' w', HSim E' st'.o w' → Keep E st.o w E' st'.o w' → SlotsR E' a' st'.s → Q .normal st' → Post E st.o w Q .normal a' w' :=
      fun st' E' a' w' h1 h2 h3 h4 => ⟨.normal, st', E', trivial, h1, h2, h3, h4⟩
    have e : ops = ops.toList.toArray := by simp
    cases draw with
    | false =>
      rw [vc] at hk
      refine wp_region_list ?_
      have := opsv_sound (QQ := Post E st.o w Q) ops.toList st E a w h ha hk hq
      rwa [← e] at this
    | true =>
      rw [vc] at hk
      have := draw_sound (QQ := Post E st.o w Q) hmix (by simpa [codeOk] using hcok) id st E a w h ha hk hq
      rwa [← e] at this
  | .seq x y, Q, st, E, a, w, hcok, h, ha, hk => by
    rw [vc] at hk
    simp only [codeOk, Bool.and_eq_true] at hcok
    refine wp_seq (wp_mono (vc_sound hmix x _ st E a w hcok.1 h ha hk) ?_)
    rintro e a' w' ⟨ex, st', E', hx, h1, h2, h3, h4⟩
    cases e <;> cases ex <;> first
      | exact hx.elim
      | (refine wp_mono (vc_sound hmix y _ st' E' a' w' hcok.2 h1 h3 h4) ?_
         rintro e2 a2 w2 ⟨ex2, st2, E2, g0, g1, g2, g3, g4⟩
         exact ⟨ex2, st2, E2, g0, g1, h2.trans g2, g3, g4⟩)
      | exact ⟨_, st', E', hx, h1, h2, h3, h4⟩
  | .cond c x y, Q, st, E, a, w, hcok, h, ha, hk => by
    rw [vc] at hk
    simp only [codeOk, Bool.and_eq_true] at hcok
    have hc := ha.ev c
    split at hk
    · rename_i t hce
      rw [hce] at hc
      rw [gcase1] at hk
      generalize hcv : a.eval c = cv at hc
      cases hc
      refine wp_cond_split hcv (fun e => ?_) (fun e => ?_)
      · exact vc_sound hmix x Q st E a w hcok.1 h ha (hk.1 e)
      · exact vc_sound hmix y Q st E a w hcok.2 h ha (hk.2 e)
    · rename_i hce
      rw [hce] at hc
      generalize hcv : a.eval c = cv at hc
      cases hc
      refine wp_cond_split hcv (fun e => ?_) (fun e => ?_)
      · exact vc_sound hmix x Q st E a w hcok.1 h ha hk.1
      · exact vc_sound hmix y Q st E a w hcok.2 h ha hk.2
    · exact hk.elim
  | .block id x, Q, st, E, a, w, hcok, h, ha, hk => by
    rw [vc] at hk
    refine wp_block (wp_mono (vc_sound hmix x _ st E a w (by simpa [codeOk] using hcok) h ha hk) ?_)
    rintro e a' w' ⟨ex, st', E', hx, h1, h2, h3, h4⟩
    cases e with
    | exit n =>
      cases ex with
      | exit m =>
        have hx' : n = m := hx
        subst hx'
        simp only [Exit.inBlock]
        simp only [blockQ] at h4
        split
        · rename_i e; rw [if_pos e] at h4; exact ⟨.normal, st', E', trivial, h1, h2, h3, h4⟩
        · rename_i e; rw [if_neg e] at h4; exact ⟨.exit n, st', E', rfl, h1, h2, h3, h4⟩
      | _ => exact hx.elim
    | _ => cases ex <;> first | exact hx.elim | exact ⟨_, st', E', hx, h1, h2, h3, h4⟩
  | .loop x, Q, st, E, a, w, hcok, h, ha, hk => by
    rw [vc] at hk
    obtain ⟨ι, I, μ, hw0, hround⟩ := hk
    obtain ⟨_, E0, ⟨i0, rfl⟩, h0, k0, s0⟩ := hw0 E a w h ha
    refine wp_loop_ghost (fun n a' w' => ∃ i E', μ i = n ∧ HSim E' (I i).o w' ∧ Keep E st.o w E' (I i).o w' ∧ SlotsR E' a' (I i).s) (μ i0) ⟨i0, E0, rfl, h0, k0, s0⟩ ?_
    rintro n a1 w1 ⟨i, E1, rfl, h1, k1, s1⟩
    refine wp_mono (vc_sound hmix x _ (I i) E1 a1 w1 (by simpa [codeOk] using hcok) h1 s1 (hround i)) ?_
    rintro e a' w' ⟨ex, st', E', hx, g1, g2, g3, g4⟩
    cases e <;> cases ex <;> first
      | exact hx.elim
      | (obtain ⟨_, E2, ⟨j, rfl, hlt⟩, q1, q2, q3⟩ := g4 E' a' w' g1 g3
         exact ⟨μ j, hlt, j, E2, rfl, q1, (k1.trans g2).trans q2, q3⟩)
      | exact ⟨_, st', E', hx, g1, k1.trans g2, g3, g4⟩
  | .exit n, Q, st, E, a, w, hcok, h, ha, hk => wp_exit ⟨.exit n, st, E, rfl, h, .refl _ _ _, ha, by rw [vc] at hk; exact hk⟩
  | .ret, Q, st, E, a, w, hcok, h, ha, hk => wp_ret ⟨.ret, st, E, trivial, h, .refl _ _ _, ha, by rw [vc] at hk; exact hk⟩
  | .rangeFunc .., Q, st, E, a, w, hcok, h, ha, hk => by simp [vc] at hk
  | .goto .., Q, st, E, a, w, hcok, h, ha, hk => by simp [vc] at hk
  | .label .., Q, st, E, a, w, hcok, h, ha, hk => by simp [vc] at hk
  | .scope .., Q, st, E, a, w, hcok, h, ha, hk => by simp [vc] at hk
  | .refuse .., Q, st, E, a, w, hcok, h, ha, hk => by simp [vc] at hk

/-! functions -/
def resV (P : Program) (st : GSt) : List ResultVar → (List GVal → Prop) → Prop
  | [], K => K []
  | .tmp t :: r, K => resV P st r (fun gs => K (sget st.s t :: gs))
  | .cell a t :: r, K => loadV P t (sget st.s a) st.o (fun g => resV P st r (fun gs => K (g :: gs)))

def resG : List GVal → GVal
  | [g] => g
  | gs => .tuple gs

def resOne (a : Act) : ResultVar → Sem Value
  | .tmp t => pure (a.tmps.getD t undef)
  | .cell x t => do loadVar t (← asAddr (a.tmps.getD x undef))

theorem res_sound {E : Env} {a : Act} {w : World} {st : GSt} (h : HSim E st.o w) (ha : SlotsR E a st.s) : ∀ (rs : List ResultVar) (K : List GVal → Prop), resV P st rs K →
    ∃ vs gs, (rs.mapM (resOne a)).run P w = .ok vs w ∧ vs.length = gs.length ∧
      (∀ (i : Nat) g, gs[i]? = some g → ∃ v, vs[i]? = some v ∧ VR E v g) ∧ K gs
  | [], K, hk => ⟨[], [], by simp, rfl, by simp, hk⟩
  | .tmp t :: r, K, hk => by
    obtain ⟨vs, gs, h1, h2, h3, h4⟩ := res_sound h ha r _ hk
    refine ⟨a.tmps.getD t undef :: vs, sget st.s t :: gs, ?_, by simp [h2], fun i g hg => ?_, h4⟩
    · simp only [List.mapM_cons, Sem.run_bind, resOne, Sem.run_pure, Result.andThen_ok, h1]
    · cases i with
      | zero => simp only [List.getElem?_cons_zero, Option.some.injEq] at hg; subst hg; exact ⟨_, rfl, ha.ev (.tmp t)⟩
      | succ i => simp only [List.getElem?_cons_succ] at hg; obtain ⟨v, hv, hr⟩ := h3 i g hg; exact ⟨v, hv, hr⟩
  | .cell x t :: r, K, hk => by
    obtain ⟨v, g, hrun, hv, hk2⟩ := load_val h (ha.ev (.tmp x)) hk
    obtain ⟨vs, gs, h1, h2, h3, h4⟩ := res_sound h ha r _ hk2
    have hrun2 : (do loadVar t (← asAddr (a.tmps.getD x undef)) : Sem Value).run P w = .ok v w := by
      have hrun' : (Instr.loadAt t (a.tmps.getD x undef)).run P w = .ok v w := hrun
      generalize a.tmps.getD x undef = xv at hrun' ⊢
      unfold Instr.loadAt at hrun'
      cases xv with
      | pointer p =>
        cases p with
        | some p => simpa [Instr.sureAddr, asAddr] using hrun'
        | none => simp [Instr.sureAddr] at hrun'
      | _ => simp [Instr.sureAddr] at hrun'
    refine ⟨v :: vs, g :: gs, ?_, by simp [h2], fun i g' hg => ?_, h4⟩
    · rw [List.mapM_cons, Sem.run_bind, resOne, hrun2]
      simp only [Sem.run_bind, Sem.run_pure, Result.andThen_ok, h1]
    · cases i with
      | zero => simp only [List.getElem?_cons_zero, Option.some.injEq] at hg; subst hg; exact ⟨v, rfl, hv⟩
      | succ i => simp only [List.getElem?_cons_succ] at hg; obtain ⟨v', hv', hr⟩ := h3 i g' hg; exact ⟨v', hv', hr⟩

/-- the state at a function's start -/
def gstart (n : Nat) (args : List GVal) (O : List GObj) : GSt := ⟨args ++ List.replicate (n - args.length) .any, O⟩

def retQ (P : Program) (rs : List ResultVar) (K : GVal → List GObj → Prop) : Ex → GSt → Prop
  | .normal, st => resV P st rs (fun gs => K (resG gs) st.o)
  | .ret, st => resV P st rs (fun gs => K (resG gs) st.o)
  | .exit _, _ => False

/-- A FUNCTION'S CONTRACT FROM ITS CODE'S CONDITIONS. R: the slots of boxes that are never written. -/
theorem gcalls_of_wp {f : FuncId} {fn : Func} {c : Code} {n : Nat} {rs : Array ResultVar} {args : List GVal} {O : List GObj} {K : GVal → List GObj → Prop}
    (hf : P.funcs[f]? = some fn) (hb : fn.body = some c) (hn : fn.ntmps = n) (hr : fn.results = rs) (hen : enterable P f = true) (hargs : args.length ≤ n)
    (hwp : ∀ (E : Env) (a : Act) (w : World), HSim E O w → SlotsR E a (gstart n args O).s → c.wp P (Post E O w (retQ P rs.toList K)) a w) : GCalls P f args O K := by
  refine ⟨hen, fun E w vs h ha => calls_of_wp hf hb ?_⟩
  have hsl : SlotsR E { tmps := vs ++ Array.replicate (fn.ntmps - vs.size) undef, defers := [] } (gstart n args O).s := by
    refine ⟨?_, rfl, fun i g hg => ?_⟩
    · simp [gstart, hn, ha.1]
    · simp only [gstart] at hg
      by_cases hi : i < args.length
      · rw [List.getElem?_append_left hi] at hg
        have := ha.2 i g hg
        have e : (vs ++ Array.replicate (fn.ntmps - vs.size) undef).getD i undef = vs.getD i undef := by
          simp only [Array.getD_eq_getD_getElem?]; rw [Array.getElem?_append_left (by rw [ha.1]; exact hi)]
        show VR E ((vs ++ Array.replicate (fn.ntmps - vs.size) undef).getD i undef) g
        rw [e]; exact this
      · rw [List.getElem?_append_right (by omega)] at hg
        have : g = .any := by
          have := List.mem_of_getElem? hg
          exact List.eq_of_mem_replicate this
        subst this; exact .any _
  refine wp_mono (hwp E _ w h hsl) ?_
  rintro e a' w' ⟨ex, st', E', hx, h1, h2, h3, h4⟩
  have fin : resV P st' rs.toList (fun gs => K (resG gs) st'.o) → a'.defers = [] ∧ ∃ v, (results fn a'.tmps).run P w' = .ok v w' ∧
      ∃ v' E' O' g, Ending.returned v = .returned v' ∧ HSim E' O' w' ∧ Keep E O w E' O' w' ∧ VR E' v' g ∧ K g O' := by
    intro hk
    obtain ⟨us, gs, q1, q2, q3, q4⟩ := res_sound (P := P) h1 h3 rs.toList _ hk
    have hrun : (results fn a'.tmps).run P w' = .ok (if h : us.toArray.size = 1 then us.toArray[0] else .tuple us.toArray) w' := by
      have hc : ∀ f : ResultVar → Sem Value, (∀ x, f x = resOne a' x) → (List.mapM f rs.toList).run P w' = .ok us w' := fun f hf => by rw [show f = resOne a' from funext hf]; exact q1
      unfold results
      rw [hr, Array.mapM_eq_mapM_toList]
      simp only [Sem.run_bind, Sem.run_map, Sem.run_pure]
      rw [hc _ (fun x => by cases x <;> rfl)]
      simp only [Result.andThen_ok]
    refine ⟨h3.defers, _, hrun, _, E', st'.o, resG gs, rfl, h1, h2, ?_, q4⟩
    cases us with
    | nil =>
      cases gs with
      | nil => exact .tuple _ _ rfl (by simp)
      | cons _ _ => simp at q2
    | cons u us =>
      cases gs with
      | nil => simp at q2
      | cons g gs =>
        cases us with
        | nil =>
          cases gs with
          | cons _ _ => simp at q2
          | nil =>
            obtain ⟨v, hv, hrr⟩ := q3 0 g rfl
            simp at hv; subst hv
            exact hrr
        | cons u2 us =>
          cases gs with
          | nil => simp at q2
          | cons g2 gs =>
            simp only [List.size_toArray, List.length_cons]
            rw [dif_neg (by omega)]
            refine .tuple _ _ (by simpa using q2) (fun j g' hj => ?_)
            obtain ⟨v, hv, hrr⟩ := q3 j g' hj
            have e : (u :: u2 :: us).toArray.getD j (.tuple #[]) = v := by simp only [Array.getD_eq_getD_getElem?, List.getElem?_toArray, hv, Option.getD_some]
            rw [e]; exact hrr
  cases e with
  | normal => cases ex <;> first | exact hx.elim | exact fin h4
  | ret => cases ex <;> first | exact hx.elim | exact fin h4
  | exit m => cases ex <;> first | exact hx.elim | exact h4.elim
  | _ => cases ex <;> exact hx.elim

theorem gcalls_of_vc (hmix : P.follows .mixedOrders = true) {f : FuncId} {fn : Func} {c : Code} {n : Nat} {rs : Array ResultVar} (C : Cfg) {args : List GVal} {O : List GObj} {K : GVal → List GObj → Prop}
    (hf : P.funcs[f]? = some fn) (hb : fn.body = some c) (hn : fn.ntmps = n) (hr : fn.results = rs) (hen : enterable P f = true) (hargs : args.length ≤ n) (hcok : codeOk C c = true)
    (hvc : vc P C c (retQ P rs.toList K) (gstart n args O)) : GCalls P f args O K :=
  gcalls_of_wp hf hb hn hr hen hargs fun E a w h ha => vc_sound hmix c _ (gstart n args O) E a w hcok h ha hvc

end
end Gv
