/- The law FlatLines gives true. -/
import Derived.Test.YtcjiabpfahmjnaaSB1
set_option linter.unusedVariables false
set_option linter.unusedSimpArgs false
set_option maxRecDepth 20000
namespace Gv.Try
open Go Gv Go.Proofs

theorem okRow_len {m o : List (List Int)} (h : rightI m o = true) (id : Int) : (parI m o id).length ≤ 4 := by
  rw [rightI, Bool.and_eq_true] at h
  have get : ∀ (l : List (List Int)) (most frm : Int) (a b : Nat), okG a b most frm l = true → ∀ k, (l.getD k []).length ≤ 4 := by
    intro l most frm a b h k
    by_cases e : k < l.length
    · refine okG_row h _ ?_
      simp [List.getD, e]
    · simp [List.getD, List.getElem?_eq_none (Nat.le_of_not_lt e)]
  unfold parI
  split
  · exact get _ _ _ _ _ h.1 _
  · split
    · exact get _ _ _ _ _ h.2 _
    · simp


end Gv.Try
