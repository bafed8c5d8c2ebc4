/- The tables that a calculation looks up, for any program. -/
import Derived.Test.YtcjiabpfahmjnaaGvRun2
set_option linter.unusedVariables false
namespace Gv
open Go

def fnx (fn : Func) (ro : List Nat) (ord : List (Nat × List (Nat × Nat))) : FnX := ⟨fn.body.getD .skip, fn.ntmps, fn.results.toList, ro, ord⟩
def findFn : List (Nat × FnX) → Nat → Option FnX
  | [], _ => none
  | (f, x) :: r, g => if f = g then some x else findFn r g

def FnOk (P : Program) (f : Nat) (x : FnX) : Prop :=
  (∃ fn, P.funcs[f]? = some fn ∧ fn.body = some x.body ∧ fn.ntmps = x.n ∧ fn.results.toList = x.rs) ∧ enterable P f = true ∧ codeOk ⟨x.ro, x.ord⟩ x.body = true

theorem FnOk.mk {P : Program} {f : Nat} {fn : Func} {ro : List Nat} {ord : List (Nat × List (Nat × Nat))} (h : P.funcs[f]? = some fn) (hb : fn.body.isSome = true) (hn : (fn.name != "runtime.NumGoroutine") = true)
    (hc : codeOk ⟨ro, ord⟩ (fn.body.getD .skip) = true) : FnOk P f (fnx fn ro ord) := by
  obtain ⟨c, hc'⟩ := Option.isSome_iff_exists.1 hb
  refine ⟨⟨fn, h, by simp [fnx, hc'], rfl, rfl⟩, ?_, hc⟩
  unfold enterable
  rw [h]
  simp only [hb, hn, Bool.and_self]

theorem findFn_ok {P : Program} : ∀ {l : List (Nat × FnX)}, (∀ p ∈ l, FnOk P p.1 p.2) → ∀ f x, findFn l f = some x → FnOk P f x
  | [], _, f, x, h => by cases h
  | (g, y) :: r, hl, f, x, h => by
    unfold findFn at h
    split at h
    · rename_i e; cases h; subst e; exact hl (_, _) (by simp)
    · exact findFn_ok (fun p hp => hl p (by simp [hp])) f x h

def tabsOf (P : Program) (fns : List (Nat × FnX)) (ys : List Nat := []) : Tabs where
  yes f := ys.contains f
  tab := Gv.tab P
  fld := Gv.fld P
  els := Gv.els P
  arr := Gv.arr P
  zer := Gv.zer P
  plc := Gv.plc P
  elt := Gv.elt P
  keyT := Gv.keyT P
  zeroG := Gv.zeroG P
  aggT := Gv.aggT P
  isBool t := match P.underlying t with | some .bool => true | _ => false
  isStr t := match P.underlying t with | some .string => true | _ => false
  isIface t := match P.underlying t with | some (.interface _) => true | _ => false
  isFunc t := match P.underlying t with | some (.func _ _ _) => true | _ => false
  isPtr t := match P.underlying t with | some (.pointer _) => true | _ => false
  isSlice t := match P.underlying t with | some (.slice _) => true | _ => false
  isMap t := match P.underlying t with | some (.map _ _) => true | _ => false
  intK t := match P.underlying t with | some (.int k) => some k | _ => none
  plain t := match P.underlying t with | some (.interface _) => false | some _ => true | none => false
  fn := findFn fns

theorem tabsOf_ok {P : Program} {fns : List (Nat × FnX)} {ys : List Nat} (h : ∀ p ∈ fns, FnOk P p.1 p.2) (hy : ∀ f ∈ ys, GPure P f [] (.bool true) := by simp) : (tabsOf P fns ys).Ok P where
  yes f e := hy f (by simpa [tabsOf] using e)
  tab _ _ e := e
  fld _ _ _ e := e
  els _ _ e := e
  arr _ _ e := e
  zer _ _ e := e
  plc _ _ e := e
  elt _ _ e := e
  keyT _ _ e := e
  zeroG _ _ e := e
  aggT _ _ e := e
  isBool t e := by simp only [tabsOf] at e; split at e <;> simp_all
  isStr t e := by simp only [tabsOf] at e; split at e <;> simp_all
  isIface _ e := e
  isFunc _ e := e
  isPtr _ e := e
  isSlice _ e := e
  isMap _ e := e
  intK t k e := by simp only [tabsOf] at e; split at e <;> simp_all
  plain _ e := e
  fn := findFn_ok h

end Gv
