/- From a pure call over ghost values to the kit's frame. -/
import Derived.Test.YtcjiabpfahmjnaaGvTab
import Derived.RowKit3
set_option linter.unusedVariables false
namespace Gv
open Go

/-- nothing is known -/
def Env.nil : Env := ⟨fun _ _ => none, fun _ => none⟩
theorem HSim.start (w : World) : HSim Env.nil [] w :=
  ⟨⟨0, (fun c hc => by cases hc), fun _ _ => rfl⟩, (fun b o v h => by cases h), (fun b o v h => by cases h), (fun i x hx => by simp at hx), fun i j oi oj b _ hi => by simp at hi⟩

theorem Keep.grown {E E' : Env} {O' : List GObj} {w w' : World} (h : Keep E [] w E' O' w') : Go.RowKit.Grown w w' := by
  refine ⟨⟨h.os, h.out, fun i hi => ?_⟩, h.frz, h.size⟩
  have e := h.heap i hi (fun ⟨j, x, hx, _⟩ => by simp at hx)
  rw [e]
  cases hw : w.heap[i]? with
  | none => simp
  | some x => cases x <;> simp

/-- a closed law that is calculated to true -/
theorem GPure.law {P : Program} {f : FuncId} (h : GPure P f [] (.bool true)) (w : World) :
    Calls P f #[] w fun e w' => e = .returned (.bool true) ∧ Go.RowKit.Grown w w' := by
  refine (h.2 Env.nil w #[] (HSim.start w) ⟨rfl, fun i g hg => by simp at hg⟩).mono ?_
  rintro e w' ⟨v, E', O', g, rfl, h1, h2, h3, rfl, rfl⟩
  cases h3
  exact ⟨rfl, h2.grown⟩

end Gv
