/- What comes behind a call or a loop is not looked at yet. -/
import Derived.Test.YtcjiabpfahmjnaaGvCongr
set_option linter.unusedVariables false
namespace Gv
open Go
class Hold (α : Type) where
  val : α
def GCallsI (P : Program) (f : FuncId) (as : List GVal) (O : List GObj) [k : Hold (GVal → List GObj → Prop)] : Prop := GCalls P f as O k.val
def vcSLoopI (P : Program) (R : List Nat) (st : GSt) [a : Hold SCode] [q : Hold (Ex → GSt → Prop)] : Prop := vcSLoop P R a.val q.val st
theorem op_funcI (P : Program) (R : List Nat) (st : GSt) (d : Option Nat) (K : GVal → List GObj → Prop) (f : FuncId) (as : List Operand) (ts : Array TypeId) : opS P R st d (.call ⟨.value (.func f), as.toArray, ts⟩) K = @GCallsI P f (as.map st.ev) st.o ⟨K⟩ := op_func P R st d K f as ts
theorem vcS_loopI (P : Program) (R : List Nat) (Q : Ex → GSt → Prop) (st : GSt) (a : SCode) : vcS P R (.loop a) Q st = @vcSLoopI P R st ⟨a⟩ ⟨Q⟩ := vcS_loop P R Q st a
theorem op_closureI (P : Program) (R : List Nat) (st : GSt) (d : Option Nat) (K : GVal → List GObj → Prop) (t : Nat) (as : List Operand) (ts : Array TypeId) : opS P R st d (.call ⟨.value (.tmp t), as.toArray, ts⟩) K = match st.ev (.tmp t) with | .func (.func n) first caps => @GCallsI P n (first ++ as.map st.ev ++ caps) st.o ⟨K⟩ | _ => False := op_closure P R st d K t as ts
theorem hold_mk {α : Type} (x : α) : (Hold.mk x).val = x := rfl
end Gv
