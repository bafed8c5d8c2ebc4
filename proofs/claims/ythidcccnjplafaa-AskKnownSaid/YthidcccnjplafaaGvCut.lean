/- A calculation cut in parts. -/
import Derived.Test.YthidcccnjplafaaGvTab
set_option linter.unusedVariables false
namespace Gv
open Go

variable {P : Program} {T : Tabs}

def frontN : Nat → Code → List Code
  | n + 1, .seq a b => a :: frontN n b
  | _, _ => []
def tailN : Nat → Code → Code
  | n + 1, .seq a b => tailN n b
  | _, c => c
noncomputable def runL (T : Tabs) (call : CallX) (C : Cfg) (fuel : Nat) : List Code → GSt → Option GSt
  | [], st => some st
  | c :: r, st => match runC T call C fuel c st with
    | some (.normal, st') => runL T call C fuel r st'
    | _ => none
theorem runL_ok {call : CallX} {C : Cfg} {fuel : Nat} : ∀ (n : Nat) (c : Code) (st st' : GSt), runL T call C fuel (frontN n c) st = some st' → runC T call C fuel c st = runC T call C fuel (tailN n c) st'
  | 0, c, st, st', h => by
    simp only [frontN, runL, Option.some.injEq] at h; subst h; rfl
  | n + 1, c, st, st', h => by
    cases c with
    | seq a b =>
      simp only [frontN, runL] at h
      split at h
      · rename_i s1 e1
        rw [runC, e1]
        exact runL_ok n b s1 st' h
      · cases h
    | _ => simp only [frontN, runL, Option.some.injEq] at h; subst h; rfl

theorem contR_bind {k k2 : GSt → Option GSt} {f : GSt → Option GSt} (hk : ∀ s, k s = (k2 s).bind f) (st : GSt) (d : Option Nat) (r : Option (GVal × List GObj)) : contR k st d r = (contR k2 st d r).bind f := by
  unfold contR
  cases r with
  | none => rfl
  | some p => obtain ⟨g, O'⟩ := p; simp only [putX_eq]; exact hk _
theorem guardR_bind {a b : Option GSt} {f : GSt → Option GSt} (w : Bool) (g : GVal) : guardR (a.bind f) (b.bind f) w g = (guardR a b w g).bind f := by
  unfold guardR
  cases g <;> try rfl
  · rename_i b'
    show (match eqB b' w with | true => a.bind f | false => b.bind f) = (match eqB b' w with | true => a | false => b).bind f
    cases eqB b' w <;> rfl
  · rename_i v; cases v <;> rfl
theorem opsX_append {call : CallX} {R : List Nat} {all : List Oper} (b : List Oper) : ∀ (a : List Oper) (st : GSt), opsX T call R all (a ++ b) st = (opsX T call R all a st).bind (opsX T call R all b)
  | [], st => by simp [opsX]
  | o :: r, st => by
    have ih := opsX_append (call := call) (R := R) (all := all) b r
    rw [List.cons_append, opsX, opsX]
    split
    · exact contR_bind ih _ _ _
    · split
      · rw [contR_bind ih, putX_eq, putX_eq, ih]; exact guardR_bind _ _
      · rfl
theorem opsX_cut {call : CallX} {R : List Nat} {all : List Oper} (n : Nat) {l : List Oper} {st st' : GSt} (h : opsX T call R all (l.take n) st = some st') : opsX T call R all l st = opsX T call R all (l.drop n) st' := by
  have := opsX_append (T := T) (call := call) (R := R) (all := all) (l.drop n) (l.take n) st
  rw [List.take_append_drop, h] at this
  exact this

/-- what is left of the code behind n parts: its first region's operations -/
def headOps : Code → List Oper
  | .seq (.region _ ops false) _ => ops.toList
  | _ => []
def headRest : Code → Code
  | .seq _ b => b
  | c => c
def headIs : Code → Bool
  | .seq (.region _ _ false) _ => true
  | _ => false
theorem head_run {call : CallX} {C : Cfg} {fuel : Nat} {c : Code} (h : headIs c = true) (st : GSt) : runC T call C fuel c st = seqR (normR (opsX T call C.ro (headOps c) (headOps c) st)) (runC T call C fuel (headRest c)) := by
  unfold headIs at h
  split at h
  · rw [runC, runC]; rfl
  · cases h

/-- the end of a calculation -/
noncomputable def lastX (T : Tabs) (rs : List ResultVar) (r : Option (Ex × GSt)) : Option GVal :=
  match endX T rs r with
  | some (g, X) => match frz X 64 g with
    | some g' => if g'.noSt = true then some g' else none
    | none => none
  | none => none
theorem comes_by {fuel f : Nat} {x : FnX} {g : GVal} (hf : T.fn f = some x) (hx : fuel ≠ 0) (h : lastX T x.rs (runC T (runF T fuel (fuel - 1)) ⟨x.ro, x.ord⟩ fuel x.body (gstart x.n [] [.clock 0])) = some g) : comes T fuel f [] = some g := by
  obtain ⟨m, rfl⟩ := Nat.exists_eq_succ_of_ne_zero hx
  unfold comes
  simp only [runF, hf, List.length_nil, Nat.zero_le, if_true, forceL_eq, noStL, true_and]
  exact h
end Gv
