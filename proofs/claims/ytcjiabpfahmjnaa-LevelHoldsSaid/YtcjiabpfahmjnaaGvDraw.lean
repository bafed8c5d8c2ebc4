/- A region that draws its order: one order stands for all. -/
import Derived.Test.YtcjiabpfahmjnaaGvMono
import Derived.Tactics
set_option linter.unusedVariables false
namespace Gv
open Go

def GSt.setS (st : GSt) (d : Nat) (g : GVal) : GSt := ⟨st.s.set d g, st.o⟩

/-- the objects, whatever the clock says -/
def bare : List GObj → List GObj
  | .clock _ :: r => .clock 0 :: r
  | l => l
theorem bare_get {O : List GObj} {k : Nat} {x : GObj} (h : O[k]? = some x) (hc : x.isClock = false) : (bare O)[k]? = some x := by
  cases O with
  | nil => simp at h
  | cons y r =>
    cases k with
    | zero => simp at h; subst h; cases y <;> simp_all [bare, GObj.isClock]
    | succ k => cases y <;> simpa [bare] using h
theorem bare_get' {O : List GObj} {k : Nat} {x : GObj} (h : (bare O)[k]? = some x) (hc : x.isClock = false) : O[k]? = some x := by
  cases O with
  | nil => simp [bare] at h
  | cons y r =>
    cases k with
    | zero => cases y <;> simp_all [bare] <;> subst h <;> simp [GObj.isClock] at hc
    | succ k => cases y <;> simpa [bare] using h
/-- what an operation of a region that draws may do: 0: it only reads; 1: it is ordered against all others; 2: it adds objects alone -/
def drawC (k : Nat) (O O' : List GObj) (N : Prop) : Prop := (k = 2 → ∃ new, bare O' = bare O ++ new) ∧ N

def ordv (P : Program) (R : List Nat) (all : List Oper) : List (Nat × Nat) → (GSt → Prop) → GSt → Prop
  | [], K, st => K st
  | (i, k) :: r, K, st => match all[i]? with
    | none => False
    | some o => match o.guard with
      | none => opv P R st o (fun g O' => drawC k st.o O' (ordv P R all r K (st.put o.dst g O')))
      | some (j, want) => match slotOf all j with
        | some d => match sget st.s d with
          | .bool b => if b = want then (b = want → opv P R (st.setS d (.bool want)) o (fun g O' => drawC k st.o O' (ordv P R all r K ((st.setS d (.bool want)).put o.dst g O')))) else
              (b = (!want) → ordv P R all r K ((st.setS d (.bool (!want))).put o.dst (.lit (.tuple #[])) st.o))
          | .lit (.tuple _) => ordv P R all r K (st.put o.dst (.lit (.tuple #[])) st.o)
          | _ => False
        | none => False

theorem GSt.setS_self {st : GSt} {d : Nat} {g : GVal} (hd : d < st.s.length) (h : st.s.getD d .any = g) : st.setS d g = st := by
  have : st.s[d] = g := by simpa [List.getD, hd] using h
  cases st with
  | mk s o =>
    simp only [GSt.setS]
    congr 1
    simp only at this
    rw [← this, List.set_getElem_self]

section
variable {P : Program} {R : List Nat}

theorem yielded_eq {E : Env} {a : Act} {st : GSt} {all : List Oper} {j d : Nat} {b : Bool} (ha : SlotsR E a st.s) (hd : slotOf all j = some d) (hb : st.s.getD d .any = .bool b) :
    yielded all.toArray a.tmps j = some b ∧ d < st.s.length := by
  have hlt : d < st.s.length := by
    rcases Nat.lt_or_ge d st.s.length with h | h
    · exact h
    · simp [List.getD, List.getElem?_eq_none h] at hb
  have hv := ha.at_ d _ (getD_of (d := GVal.any) hlt)
  rw [hb] at hv
  have hlt2 : d < a.tmps.size := by rw [ha.size]; exact hlt
  generalize hx : a.tmps.getD d undef = x at hv
  cases hv
  have hx2 : a.tmps[d]? = some (.bool b) := by
    have : a.tmps.getD d undef = a.tmps[d] := by simp [Array.getD, hlt2]
    rw [this] at hx
    simp [hlt2, hx]
  refine ⟨?_, hlt⟩
  unfold slotOf at hd
  unfold yielded
  cases ho : all[j]? with
  | none => simp [ho] at hd
  | some o =>
    simp only [ho] at hd
    simp [ho, hd, hx2]

theorem yielded_none {E : Env} {a : Act} {st : GSt} {all : List Oper} {j d : Nat} {v : Array Value} (ha : SlotsR E a st.s) (hd : slotOf all j = some d) (hb : st.s.getD d .any = .lit (.tuple v)) :
    yielded all.toArray a.tmps j = none := by
  have hlt : d < st.s.length := by
    rcases Nat.lt_or_ge d st.s.length with h | h
    · exact h
    · simp [List.getD, List.getElem?_eq_none h] at hb
  have hv := ha.at_ d _ (getD_of (d := GVal.any) hlt)
  rw [hb] at hv
  have hlt2 : d < a.tmps.size := by rw [ha.size]; exact hlt
  generalize hx : a.tmps.getD d undef = x at hv
  cases hv
  have hx2 : a.tmps[d]? = some (.tuple v) := by
    have : a.tmps.getD d undef = a.tmps[d] := by simp [Array.getD, hlt2]
    rw [this] at hx
    simp [hlt2, hx]
  unfold slotOf at hd
  unfold yielded
  cases ho : all[j]? with
  | none => simp [ho] at hd
  | some o =>
    simp only [ho] at hd
    simp [ho, hd, hx2]

/-! any order -/
def readyF (all : List Oper) (L : Nat → Bool) (j : Nat) : Bool := match all[j]? with
  | some o => !L j && (deps o).all L
  | none => false
def addL (L : Nat → Bool) (i : Nat) : Nat → Bool := fun k => k == i || L k

/-- one operation, in whatever order -/
def stepG (P : Program) (R : List Nat) (all : List Oper) (i : Nat) (st : GSt) (N : GSt → Prop) : Prop :=
  match all[i]? with
  | none => False
  | some o => match o.guard with
    | none => opv P R st o (fun g O' => (apartAll R all (masks all []) i = false → ExtO st.o O') ∧ N (st.put o.dst g O'))
    | some (j, want) => match slotOf all j with
      | some d => match sget st.s d with
        | .bool b => (b = want → opv P R st o (fun g O' => (apartAll R all (masks all []) i = false → ExtO st.o O') ∧ N (st.put o.dst g O'))) ∧
            (b = !want → N (st.put o.dst (.lit (.tuple #[])) st.o))
        | .lit (.tuple _) => N (st.put o.dst (.lit (.tuple #[])) st.o)
        | _ => False
      | none => False

theorem stepG_mono {all : List Oper} {i : Nat} {st : GSt} {N N' : GSt → Prop} (hn : ∀ s, N s → N' s) (h : stepG P R all i st N) : stepG P R all i st N' := by
  unfold stepG at h ⊢
  split at h
  · exact h.elim
  · split at h
    · exact opv_mono (fun g O hg => ⟨hg.1, hn _ hg.2⟩) h
    · split at h
      · split at h
        · exact ⟨fun e => opv_mono (fun g O hg => ⟨hg.1, hn _ hg.2⟩) (h.1 e), fun e => hn _ (h.2 e)⟩
        · exact hn _ h
        · exact h.elim
      · exact h.elim

def GA (P : Program) (R : List Nat) (all : List Oper) (K : GSt → Prop) : Nat → (Nat → Bool) → GSt → Prop
  | 0, L, st => (∀ j, readyF all L j = false) ∧ K st
  | f + 1, L, st => (∃ j, readyF all L j = true) ∧ ∀ i, readyF all L i = true → stepG P R all i st (GA P R all K f (addL L i))

theorem readyF_add {all : List Oper} {L : Nat → Bool} {i j : Nat} (h : readyF all L j = true) (hij : j ≠ i) : readyF all (addL L i) j = true := by
  unfold readyF at h ⊢
  split at h
  · rename_i o ho
    simp only [Bool.and_eq_true, Bool.not_eq_true', List.all_eq_true] at h ⊢
    refine ⟨by simp [addL, hij, h.1], fun x hx => ?_⟩
    simp [addL, h.2 x hx]
  · cases h

theorem addL_comm (L : Nat → Bool) (i j : Nat) : addL (addL L i) j = addL (addL L j) i := by
  funext k; simp only [addL]
  cases (k == i) <;> cases (k == j) <;> simp

theorem readyF_self {all : List Oper} {L : Nat → Bool} {i : Nat} : readyF all (addL L i) i = false := by
  unfold readyF; split <;> simp [addL]

/-! the masks tell what must be ahead -/
structure Closed (all : List Oper) (L : Nat → Bool) : Prop where
  closed : ∀ (i : Nat) o, all[i]? = some o → L i = true → ∀ j ∈ deps o, L j = true

theorem Closed.add {all : List Oper} {L : Nat → Bool} {i : Nat} (h : Closed all L) (hr : readyF all L i = true) : Closed all (addL L i) := by
  refine ⟨fun k o hk hL j hj => ?_⟩
  unfold readyF at hr
  by_cases hki : k = i
  · subst hki
    rw [hk] at hr
    simp only [Bool.and_eq_true, List.all_eq_true] at hr
    simp [addL, hr.2 j hj]
  · have : L k = true := by simpa [addL, hki] using hL
    simp [addL, h.closed k o hk this j hj]

theorem maskOf_bit (acc : List Nat) (l : List Nat) (s k : Nat) : (l.foldl (fun s j => s ||| 2 ^ j ||| acc.getD j 0) s).testBit k = true → s.testBit k = true ∨ ∃ j ∈ l, k = j ∨ (acc.getD j 0).testBit k = true := by
  induction l generalizing s with
  | nil => intro h; exact .inl h
  | cons x r ih =>
    intro h
    rcases ih _ h with h1 | ⟨j, hj, h1⟩
    · simp only [Nat.testBit_or, Bool.or_eq_true, Nat.testBit_two_pow, decide_eq_true_eq] at h1
      rcases h1 with (h1 | h1) | h1
      · exact .inl h1
      · exact .inr ⟨x, by simp, .inl h1.symm⟩
      · exact .inr ⟨x, by simp, .inr h1⟩
    · exact .inr ⟨j, by simp [hj], h1⟩

theorem masks_spec {all : List Oper} {L : Nat → Bool} (hc : Closed all L) : ∀ (l : List Oper) (acc : List Nat), (∀ k, all[acc.length + k]? = l[k]?) →
    (∀ i, i < acc.length → L i = true → ∀ k, (acc.getD i 0).testBit k = true → L k = true) →
    (∀ i o, all[i]? = some o → ∀ j ∈ deps o, j < i) →
    ∀ i, i < (masks l acc).length → L i = true → ∀ k, ((masks l acc).getD i 0).testBit k = true → L k = true
  | [], acc, _, h, _ => h
  | o :: r, acc, hl, h, hlt => by
    have ho : all[acc.length]? = some o := by have := hl 0; simpa using this
    have hlt' : ∀ j ∈ deps o, j < acc.length := hlt acc.length o ho
    refine masks_spec hc r (acc ++ [maskOf acc o]) (fun k => by have := hl (k + 1); simp only [List.length_append, List.length_cons, List.length_nil]; rw [show acc.length + (0 + 1) + k = acc.length + (k + 1) by omega]; simpa using this) (fun i hi hL k hk => ?_) hlt
    by_cases hi' : i < acc.length
    · have e : (acc ++ [maskOf acc o]).getD i 0 = acc.getD i 0 := by simp [List.getD, List.getElem?_append_left hi']
      rw [e] at hk
      exact h i hi' hL k hk
    · have hie : i = acc.length := by simp at hi; omega
      subst hie
      have e : (acc ++ [maskOf acc o]).getD acc.length 0 = maskOf acc o := by simp [List.getD]
      rw [e] at hk
      unfold maskOf at hk
      rcases maskOf_bit acc (deps o) 0 k hk with h1 | ⟨j, hj, h1⟩
      · simp at h1
      · have hLj := hc.closed acc.length o ho hL j hj
        rcases h1 with rfl | h1
        · exact hLj
        · exact h j (hlt' j hj) hLj k h1

theorem masks_len : ∀ (l : List Oper) (acc : List Nat), (masks l acc).length = acc.length + l.length
  | [], acc => by simp [masks]
  | o :: r, acc => by rw [masks, masks_len r]; simp; omega


structure Sound (R : List Nat) (all : List Oper) : Prop where
  lt : ∀ i o, all[i]? = some o → ∀ j ∈ deps o, j < i
  grd : ∀ i o j want, all[i]? = some o → o.guard = some (j, want) → ((masks all []).getD i 0).testBit j = true
  apart : ∀ i j o o', all[i]? = some o → all[j]? = some o' → comparable (masks all []) i j = true ∨ apartB all o o' = true

theorem ready_free {all : List Oper} {L : Nat → Bool} {i j : Nat} (hlt : ∀ i o, all[i]? = some o → ∀ j ∈ deps o, j < i) (hc : Closed all L) (hi : readyF all L i = true) (hj : L j = false) (hij : j ≠ i) :
    ((masks all []).getD i 0).testBit j = false := by
  cases hb : ((masks all []).getD i 0).testBit j with
  | false => rfl
  | true =>
    have hil : i < all.length := by
      unfold readyF at hi
      split at hi
      · rename_i o ho; exact (List.getElem?_eq_some_iff.1 ho).1
      · cases hi
    have := masks_spec (hc.add hi) all [] (by simp) (by simp) hlt i (by rw [masks_len]; simpa using hil) (by simp [addL]) j hb
    simp [addL, hij, hj] at this

theorem readyF_un {all : List Oper} {L : Nat → Bool} {i : Nat} (h : readyF all L i = true) : L i = false := by
  unfold readyF at h
  split at h
  · simp only [Bool.and_eq_true, Bool.not_eq_true'] at h; exact h.1
  · cases h

theorem ready_incomparable {all : List Oper} {L : Nat → Bool} {i j : Nat} (hlt : ∀ i o, all[i]? = some o → ∀ j ∈ deps o, j < i) (hc : Closed all L) (hi : readyF all L i = true) (hj : readyF all L j = true) (hij : j ≠ i) :
    comparable (masks all []) i j = false := by
  simp only [comparable, Bool.or_eq_false_iff]
  exact ⟨⟨by simpa using fun e => hij e.symm, ready_free hlt hc hi (readyF_un hj) hij⟩, ready_free hlt hc hj (readyF_un hi) (Ne.symm hij)⟩

def StS (R : List Nat) (all : List Oper) (o : Oper) (st st' : GSt) : Prop := (∀ d ∈ looks all o, sget st'.s d = sget st.s d) ∧ (regB R o = false → ExtO st.o st'.o)

theorem StS.same {all : List Oper} {o : Oper} {st st' : GSt} (h : StS R all o st st') : SameFor o st st' := by
  intro x hx
  cases x with
  | tmp t => exact h.1 t (by simp only [looks, List.mem_append, List.mem_filterMap]; exact .inl ⟨.tmp t, hx, rfl⟩)
  | _ => rfl

def Yields (P : Program) (R : List Nat) (all : List Oper) (i : Nat) (d : Option Nat) (o : Oper) (st : GSt) (v : GVal) : Prop :=
  ∀ st', StS R all o st st' → ∀ N : GSt → Prop, N (st'.put d v st'.o) → stepG P R all i st' N

theorem quiet_step {all : List Oper} {i : Nat} {o : Oper} {st : GSt} {N : GSt → Prop} (ho : all[i]? = some o) (hq : quietB R o = true) (h : stepG P R all i st N) :
    ∃ v, N (st.put o.dst v st.o) ∧ Yields P R all i o.dst o st v := by
  unfold stepG at h
  simp only [ho] at h
  cases hg : o.guard with
  | none =>
    simp only [hg] at h
    obtain ⟨v, h1, h2⟩ := opv_quiet hq h
    refine ⟨v, h1.2, fun st' hs N' hn => ?_⟩
    unfold stepG
    simp only [ho, hg]
    exact h2 st' hs.same hs.2 _ ⟨fun _ => .refl _, hn⟩
  | some p =>
    obtain ⟨j, want⟩ := p
    simp only [hg] at h
    cases hd : slotOf all j with
    | none => simp [hd] at h
    | some d =>
      simp only [hd] at h
      have hlook : d ∈ looks all o := by simp [looks, hg, hd]
      split at h
      · rename_i b hb
        by_cases hw : b = want
        · obtain ⟨v, h1, h2⟩ := opv_quiet hq (h.1 hw)
          refine ⟨v, h1.2, fun st' hs N' hn => ?_⟩
          unfold stepG
          simp only [ho, hg, hd, hs.1 d hlook, hb]
          exact ⟨fun _ => h2 st' hs.same hs.2 _ ⟨fun _ => .refl _, hn⟩, fun e => by subst hw; cases b <;> cases e⟩
        · have hw2 : b = !want := by cases b <;> cases want <;> simp_all
          refine ⟨.lit (.tuple #[]), h.2 hw2, fun st' hs N' hn => ?_⟩
          unfold stepG
          simp only [ho, hg, hd, hs.1 d hlook, hb]
          exact ⟨fun e => absurd e hw, fun _ => hn⟩
      · rename_i v hb
        refine ⟨.lit (.tuple #[]), h, fun st' hs N' hn => ?_⟩
        unfold stepG
        simp only [ho, hg, hd, hs.1 d hlook, hb]
        exact hn
      · exact h.elim

theorem sget_set_ne {s : List GVal} {d t : Nat} {g : GVal} (h : d ≠ t) : sget (s.set d g) t = sget s t := by
  simp [sget, List.getD, List.getElem?_set_ne h]

theorem put_comm {st : GSt} {d0 dj : Option Nat} {v g : GVal} {O' : List GObj} (h : ∀ d, d0 = some d → dj ≠ some d) : ((st.put d0 v st.o).put dj g O') = ((st.put dj g O').put d0 v O') := by
  cases d0 with
  | none => cases dj <;> rfl
  | some d =>
    cases dj with
    | none => rfl
    | some e =>
      have hne : d ≠ e := fun he => h d rfl (he ▸ rfl)
      simp only [GSt.put]
      rw [List.set_comm _ _ hne]

theorem congr_step {all : List Oper} {j : Nat} {oj : Oper} {st : GSt} {d0 : Option Nat} {v : GVal} {N : GSt → Prop} (ho : all[j]? = some oj)
    (h1 : ∀ d, d0 = some d → d ∉ looks all oj) (h2 : ∀ d, d0 = some d → oj.dst ≠ some d) (h : stepG P R all j (st.put d0 v st.o) N) :
    stepG P R all j st (fun st' => (∃ g O', st' = st.put oj.dst g O' ∧ (apartAll R all (masks all []) j = false → ExtO st.o O')) ∧ N (st'.put d0 v st'.o)) := by
  have hs : ∀ d ∈ looks all oj, sget (st.put d0 v st.o).s d = sget st.s d := by
    intro d hd
    cases d0 with
    | none => rfl
    | some e => exact sget_set_ne (fun he => h1 e rfl (he ▸ hd))
  have hsame : SameFor oj st (st.put d0 v st.o) := StS.same (R := []) ⟨hs, fun _ => by rw [GSt.put_o]; exact .refl _⟩
  have hex : ∀ N' : GVal → List GObj → Prop, opv P R (st.put d0 v st.o) oj N' → opv P R st oj N' := fun N' hh => by
    rw [opv_congr hsame (GSt.put_o _ _ _ _)] at hh; exact hh
  unfold stepG at h ⊢
  simp only [ho] at h ⊢
  have fin : ∀ g O', ((apartAll R all (masks all []) j = false → ExtO (st.put d0 v st.o).o O') ∧ N ((st.put d0 v st.o).put oj.dst g O')) →
      (apartAll R all (masks all []) j = false → ExtO st.o O') ∧ ((∃ g' O2, st.put oj.dst g O' = st.put oj.dst g' O2 ∧ (apartAll R all (masks all []) j = false → ExtO st.o O2)) ∧ N ((st.put oj.dst g O').put d0 v (st.put oj.dst g O').o)) := by
    intro g O' ⟨q1, q2⟩
    rw [GSt.put_o] at q1
    refine ⟨q1, ⟨g, O', rfl, q1⟩, ?_⟩
    rw [GSt.put_o, ← put_comm h2]; exact q2
  split at h
  · exact opv_mono fin (hex _ h)
  · rename_i k want hg
    split at h
    · rename_i d hd
      have hlook : d ∈ looks all oj := by simp [looks, hg, hd]
      rw [hs d hlook] at h
      split at h
      · refine ⟨fun e => opv_mono fin (hex _ (h.1 e)), fun e => ?_⟩
        have := h.2 e
        rw [GSt.put_o] at this
        exact (fin (.lit (.tuple #[])) st.o ⟨fun _ => by rw [GSt.put_o]; exact .refl _, this⟩).2
      · rw [GSt.put_o] at h
        exact (fin (.lit (.tuple #[])) st.o ⟨fun _ => by rw [GSt.put_o]; exact .refl _, h⟩).2
      · exact h.elim
    · exact h.elim

theorem apartB_spec {all : List Oper} {x y : Oper} (h : apartB all x y = true) : (∀ d, x.dst = some d → d ∉ looks all y) ∧ (∀ d, x.dst = some d → y.dst ≠ some d) ∧ (∀ d, y.dst = some d → d ∉ looks all x) := by
  refine ⟨fun d hd => ?_, fun d hd => ?_, fun d hd => ?_⟩ <;> simp [apartB, hd] at h
  · exact h.1.1
  · exact h.1.2
  · exact h.2

theorem comparable_comm (ms : List Nat) (i j : Nat) : comparable ms i j = comparable ms j i := by
  rw [Bool.eq_iff_iff]
  simp only [comparable, Bool.or_eq_true, beq_iff_eq]
  constructor
  · rintro ((h | h) | h)
    · exact .inl (.inl h.symm)
    · exact .inr h
    · exact .inl (.inr h)
  · rintro ((h | h) | h)
    · exact .inl (.inl h.symm)
    · exact .inr h
    · exact .inl (.inr h)

theorem qfirst {all : List Oper} {K : GSt → Prop} (hS : Sound R all) {i : Nat} {o : Oper} (ho : all[i]? = some o) (hq : quietB R o = true) : ∀ (f : Nat) (L : Nat → Bool) (st : GSt), Closed all L → readyF all L i = true →
    stepG P R all i st (GA P R all K f (addL L i)) → GA P R all K (f + 1) L st := by
  intro f
  induction f with
  | zero =>
    intro L st hc hr h
    refine ⟨⟨i, hr⟩, fun j hj => ?_⟩
    by_cases hji : j = i
    · subst hji; exact h
    · obtain ⟨v, hN, _⟩ := quiet_step ho hq h
      have := hN.1 j
      rw [readyF_add hj hji] at this; cases this
  | succ f ih =>
    intro L st hc hr h
    refine ⟨⟨i, hr⟩, fun j hj => ?_⟩
    by_cases hji : j = i
    · subst hji; exact h
    · obtain ⟨v, hN, hY⟩ := quiet_step ho hq h
      have hinc := ready_incomparable hS.lt hc hr hj hji
      cases hoj : all[j]? with
      | none => unfold readyF at hj; simp [hoj] at hj
      | some oj =>
        have hap := (hS.apart i j o oj ho hoj).resolve_left (by rw [hinc]; simp)
        obtain ⟨a1, a2, a3⟩ := apartB_spec hap
        have hs := congr_step hoj a1 a2 (hN.2 j (readyF_add hj hji))
        refine stepG_mono (fun st' hst' => ?_) hs
        obtain ⟨⟨g, O', rfl, hext⟩, hg⟩ := hst'
        refine ih (addL L j) _ (hc.add hj) (readyF_add hr (Ne.symm hji)) ?_
        have hjl : j < all.length := (List.getElem?_eq_some_iff.1 hoj).1
        have hil : i < all.length := (List.getElem?_eq_some_iff.1 ho).1
        have hcall : regB R o = false → apartAll R all (masks all []) j = false := by
          intro hreg
          cases hh : apartAll R all (masks all []) j with
          | false => rfl
          | true =>
            have := List.all_eq_true.1 hh i (List.mem_range.2 hil)
            rw [comparable_comm, hinc] at this
            simp [ho, hreg] at this
        refine hY _ ⟨fun d hd => ?_, fun hreg => by rw [GSt.put_o]; exact hext (hcall hreg)⟩ _ ?_
        · cases hdj : oj.dst with
          | none => rfl
          | some e => exact sget_set_ne (fun he => a3 e hdj (he ▸ hd))
        · rw [addL_comm]; exact hg

theorem order_sound {all : List Oper} {K : GSt → Prop} (hS : Sound R all) : ∀ (order : List (Nat × Nat)) (L : List Nat) (st : GSt), Closed all (fun k => L.contains k) → orderOk R all (masks all []) order L = true → ordv P R all order K st →
    GA P R all K order.length (fun k => L.contains k) st
  | [], L, st, hc, hok, hk => by
    refine ⟨fun j => ?_, hk⟩
    unfold readyF
    split
    · rename_i o ho
      have hjl : j < all.length := (List.getElem?_eq_some_iff.1 ho).1
      have := List.all_eq_true.1 hok j (List.mem_range.2 hjl)
      simp only [this, Bool.not_true, Bool.false_and]
    · rfl
  | (i, k) :: r, L, st, hc, hok, hk => by
    simp only [orderOk, Bool.and_eq_true] at hok
    obtain ⟨⟨hr, hkind⟩, hrest⟩ := hok
    have hrF : readyF all (fun k => L.contains k) i = true := hr
    have hadd : addL (fun k => L.contains k) i = fun k => (i :: L).contains k := by
      funext x; simp only [addL, List.contains_cons]
    cases ho : all[i]? with
    | none => simp [ho] at hkind
    | some o =>
      simp only [ho] at hkind
      have hc' : Closed all (fun k => (i :: L).contains k) := by rw [← hadd]; exact hc.add hrF
      have ih : ∀ st', ordv P R all r K st' → GA P R all K r.length (addL (fun k => L.contains k) i) st' := fun st' h => by
        rw [hadd]; exact order_sound hS r (i :: L) st' hc' hrest h
      have hcond : ∀ (st1 : GSt) (J : GVal → List GObj → Prop), opv P R st1 o (fun g O' => drawC k st1.o O' (J g O')) →
          opv P R st1 o (fun g O' => (apartAll R all (masks all []) i = false → ExtO st1.o O') ∧ J g O') := by
        intro st1 J h
        by_cases h0 : k = 0
        · subst h0
          simp only [if_true] at hkind
          obtain ⟨v, h1, h2⟩ := opv_quiet hkind h
          exact h2 st1 (fun x _ => rfl) (fun _ => .refl _) _ ⟨fun _ => .refl _, h1.2⟩
        · rw [if_neg h0] at hkind
          simp only [Bool.and_eq_true, Bool.or_eq_true, beq_iff_eq] at hkind
          refine opv_mono (fun g O' hg => ⟨fun hcf => ?_, hg.2⟩) h
          rcases hkind.2 with h2 | h2
          · obtain ⟨new, he⟩ := hg.1 h2
            intro m x hx hxc
            have hx := bare_get hx hxc
            refine bare_get' ?_ hxc
            rw [he, List.getElem?_append_left (List.getElem?_eq_some_iff.1 hx).1]; exact hx
          · rw [h2] at hcf; cases hcf
      have hstep : stepG P R all i st (GA P R all K r.length (addL (fun k => L.contains k) i)) := by
        unfold ordv at hk
        unfold stepG
        simp only [ho] at hk ⊢
        split at hk
        · exact opv_mono (fun g O' hg => ⟨hg.1, ih _ hg.2⟩) (hcond st _ hk)
        · rename_i j want hg
          split at hk
          · rename_i d hd
            split at hk
            · rename_i b hb
              have hlt : d < st.s.length := by
                rcases Nat.lt_or_ge d st.s.length with h | h
                · exact h
                · simp [sget, List.getD, List.getElem?_eq_none h] at hb
              rw [gcase] at hk
              refine ⟨fun e => ?_, fun e => ?_⟩
              · have hk1 := hk.1 e
                rw [GSt.setS_self hlt (by rw [← e]; exact hb)] at hk1
                exact opv_mono (fun g O' hg => ⟨hg.1, ih _ hg.2⟩) (hcond st _ hk1)
              · have hk2 := hk.2 e
                rw [GSt.setS_self hlt (by rw [← e]; exact hb)] at hk2
                exact ih _ hk2
            · exact ih _ hk
            · exact hk.elim
          · exact hk.elim
      by_cases h0 : k = 0
      · subst h0
        simp only [if_true] at hkind
        exact qfirst hS ho hkind r.length _ st hc hrF hstep
      · rw [if_neg h0] at hkind
        simp only [Bool.and_eq_true] at hkind
        refine ⟨⟨i, hrF⟩, fun j hj => ?_⟩
        have hjl : j < all.length := by
          unfold readyF at hj
          split at hj
          · rename_i o' ho'; exact (List.getElem?_eq_some_iff.1 ho').1
          · cases hj
        have := List.all_eq_true.1 hkind.1 j (List.mem_range.2 hjl)
        simp only [Bool.or_eq_true, beq_iff_eq, Bool.not_eq_true'] at this
        rcases this with e | e
        · subst e; exact hstep
        · have hj' : readyB all L j = true := hj
          rw [hj'] at e; cases e


/-! from any order of ghost steps to any order of the machine's -/
theorem GA_sound {all : List Oper} {K : GSt → Prop} {QQ : Exit → Act → World → Prop} : ∀ (f : Nat) (L : Nat → Bool) (st : GSt) (listed : Array Bool) (E : Env) (a : Act) (w : World), HSim E st.o w → SlotsR E a st.s →
    (listed.size = all.length ∧ ∀ j, listed.getD j false = L j) → GA P R all K f L st →
    (∀ st' E' a' w', HSim E' st'.o w' → Keep E st.o w E' st'.o w' → SlotsR E' a' st'.s → K st' → QQ .normal a' w') → wpAny P .any all.toArray QQ f listed a w := by
  intro f
  have hready : ∀ (L : Nat → Bool) (listed : Array Bool), (listed.size = all.length ∧ ∀ j, listed.getD j false = L j) → ∀ j, j ∈ Region.ready .any all.toArray listed ↔ readyF all L j = true := by
    intro L listed hl j
    rw [mem_ready]
    unfold readyF
    constructor
    · rintro ⟨h1, oj, h2, h3⟩
      have h2' : all[j]? = some oj := by simpa using h2
      have hj : j < listed.size := by rw [hl.1]; exact (List.getElem?_eq_some_iff.1 h2').1
      have h1' : L j = false := by rw [← hl.2 j]; simp [Array.getD, hj] at h1 ⊢; exact h1
      simp only [h2', h1', Bool.not_false, Bool.true_and, List.all_eq_true]
      intro x hx
      simp only [deps, List.mem_filterMap] at hx
      obtain ⟨e, he, hx⟩ := hx
      split at hx
      · rename_i hb; cases hx
        rw [← hl.2]; exact h3 e (by simpa using he) hb
      · cases hx
    · intro h
      split at h
      · rename_i oj h2
        simp only [Bool.and_eq_true, Bool.not_eq_true', List.all_eq_true] at h
        have hj : j < listed.size := by rw [hl.1]; exact (List.getElem?_eq_some_iff.1 h2).1
        refine ⟨?_, oj, by simpa using h2, fun e he hb => ?_⟩
        · have := hl.2 j; rw [h.1] at this; simp [Array.getD, hj] at this ⊢; exact this
        · rw [hl.2]
          refine h.2 _ ?_
          simp only [deps, List.mem_filterMap]
          exact ⟨e, by simpa using he, by rw [if_pos hb]⟩
      · cases h
  induction f with
  | zero =>
    intro L st listed E a w h ha hl hg hq
    refine ⟨?_, hq st E a w h (.refl _ _ _) ha hg.2⟩
    rcases hr : Region.ready .any all.toArray listed with _ | ⟨x, r⟩
    · rfl
    · have := (hready L listed hl x).1 (by rw [hr]; simp)
      rw [hg.1 x] at this; cases this
  | succ f ih =>
    intro L st listed E a w h ha hl hg hq
    obtain ⟨⟨j0, hj0⟩, hall⟩ := hg
    refine ⟨fun hr => ?_, fun i hi => ?_⟩
    · have := (hready L listed hl j0).2 hj0
      rw [hr] at this; cases this
    · have hrF := (hready L listed hl i).1 hi
      have hs := hall i hrF
      unfold stepG at hs
      unfold wpOp
      cases ho : all[i]? with
      | none => simp [ho] at hs
      | some o =>
        simp only [ho] at hs
        have ho' : all.toArray[i]? = some o := by simpa using ho
        simp only [ho']
        have hil : i < listed.size := by rw [hl.1]; exact (List.getElem?_eq_some_iff.1 ho).1
        have hl' : (listed.setIfInBounds i true).size = all.length ∧ ∀ j, (listed.setIfInBounds i true).getD j false = addL L i j := by
          refine ⟨by simp [hl.1], fun j => ?_⟩
          by_cases hji : j = i
          · subst hji; simp [addL, Array.getD, hil]
          · rw [getD_set_ne false (Ne.symm hji), hl.2]; simp [addL, hji]
        have exec : opv P R st o (fun g O' => (apartAll R all (masks all []) i = false → ExtO st.o O') ∧ GA P R all K f (addL L i) (st.put o.dst g O')) →
            o.wp P a w (wpAny P .any all.toArray QQ f (listed.setIfInBounds i true)) QQ := by
          intro hk
          refine op_sound h ha hk (fun v w' E' O' g h1 h2 h3 h4 => ?_)
          refine ih (addL L i) (st.put o.dst g O') _ E' _ w' (by rw [GSt.put_o]; exact h1) (ha.put h2.ext h3 O') hl' h4.2 (fun st' E2 a' w2 g1 g2 g3 g4 => hq st' E2 a' w2 g1 ?_ g3 g4)
          rw [GSt.put_o] at g2
          exact h2.trans g2
        split at hs
        · rename_i hg
          rw [if_pos (by simp [Region.wanted, hg])]
          exact .inl (exec hs)
        · rename_i j want hg
          split at hs
          · rename_i d hd
            split at hs
            · rename_i b hb
              obtain ⟨hy, hlt⟩ := yielded_eq ha hd hb
              by_cases hw : b = want
              · subst hw
                rw [if_pos (by simp [Region.wanted, hg, hy])]
                exact .inl (exec (hs.1 rfl))
              · have hw2 : b = !want := by cases b <;> cases want <;> simp_all
                subst hw2
                rw [if_neg (by simp only [Region.wanted, hg, hy]; cases want <;> simp)]
                have hk2 := hs.2 rfl
                refine ih (addL L i) (st.put o.dst (.lit (.tuple #[])) st.o) _ E _ w (by rw [GSt.put_o]; exact h) (ha.put (.refl _) (.lit _) _) hl' hk2 (fun st' E2 a' w2 g1 g2 g3 g4 => hq st' E2 a' w2 g1 ?_ g3 g4)
                rw [GSt.put_o] at g2; exact g2
            · rename_i v hb
              rw [if_neg (by simp [Region.wanted, hg, yielded_none ha hd hb])]
              refine ih (addL L i) (st.put o.dst (.lit (.tuple #[])) st.o) _ E _ w (by rw [GSt.put_o]; exact h) (ha.put (.refl _) (.lit _) _) hl' hs (fun st' E2 a' w2 g1 g2 g3 g4 => hq st' E2 a' w2 g1 ?_ g3 g4)
              rw [GSt.put_o] at g2; exact g2
            · exact hs.elim
          · exact hs.elim

theorem drawOk_sound {all : List Oper} {order : List (Nat × Nat)} (h : drawOk R all order = true) : Sound R all ∧ orderOk R all (masks all []) order [] = true ∧ order.length = all.length := by
  unfold drawOk at h
  simp only [Bool.and_eq_true, beq_iff_eq] at h
  obtain ⟨⟨h1, h2⟩, h3⟩ := h
  have hi : ∀ i o, all[i]? = some o → _ := fun i o ho => by
    have := List.all_eq_true.1 h1 i (List.mem_range.2 (List.getElem?_eq_some_iff.1 ho).1)
    simp only [ho, Bool.and_eq_true] at this
    exact this
  refine ⟨⟨fun i o ho j hj => ?_, fun i o j want ho hg => ?_, fun i j o o' ho ho' => ?_⟩, h2, h3⟩
  · have := List.all_eq_true.1 (hi i o ho).1.1 j hj
    simpa using this
  · have := (hi i o ho).1.2
    simpa [hg] using this
  · have := List.all_eq_true.1 (hi i o ho).2 j (List.mem_range.2 (List.getElem?_eq_some_iff.1 ho').1)
    simpa [ho'] using this

theorem draw_sound {all : List Oper} {order : List (Nat × Nat)} {K : GSt → Prop} {QQ : Exit → Act → World → Prop} (hmix : P.follows .mixedOrders = true) (hok : drawOk R all order = true) (id : Nat) (st : GSt) (E : Env) (a : Act) (w : World) (h : HSim E st.o w) (ha : SlotsR E a st.s)
    (hk : ordv P R all order K st)
    (hq : ∀ st' E' a' w', HSim E' st'.o w' → Keep E st.o w E' st'.o w' → SlotsR E' a' st'.s → K st' → QQ .normal a' w') : (Code.region id all.toArray true).wp P QQ a w := by
  obtain ⟨hS, hord, hlen⟩ := drawOk_sound hok
  have hga := order_sound (P := P) (K := K) hS order [] st ⟨fun i o _ hL => by simp at hL⟩ hord hk
  refine wp_region_any hmix ?_
  have := GA_sound (QQ := QQ) order.length (fun k => ([] : List Nat).contains k) st (Array.replicate all.toArray.size false) E a { w with drawn := w.drawn + 1 } (h.of_heap rfl) ha ⟨by simp, fun j => by simp [Array.getD]⟩ hga
    (fun st' E' a' w' h1 h2 h3 h4 => hq st' E' a' w' h1 ((Keep.of_heap (E := E) (O := st.o) (w := w) (w' := { w with drawn := w.drawn + 1 }) rfl rfl rfl).trans h2) h3 h4)
  rw [hlen] at this
  simpa using this

end
end Gv
