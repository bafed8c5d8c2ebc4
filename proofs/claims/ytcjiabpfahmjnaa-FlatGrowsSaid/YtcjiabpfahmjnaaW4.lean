/- FlatGrows: from the readings. -/
import Derived.Test.YtcjiabpfahmjnaaSA7
import Derived.Test.YtcjiabpfahmjnaaW3
set_option linter.unusedVariables false
namespace Gv.Try
open Go Gv Go.Proofs
theorem w4 {g0 g1 g2 : List GVal} (h0 : Den rawS g0) (h1 : Den .bool g1) (h2 : Den (.int .i64) g2) : GPure Try.prog 4 ([rawS.val g0] ++ [Sh.val .bool g1] ++ [Sh.val (.int .i64) g2]) (.bool true) := by
  obtain ⟨x, y, rfl, _, _⟩ := den_raw h0
  obtain ⟨b, rfl⟩ := h1
  obtain ⟨n, rfl, _⟩ := h2
  cases b
  · exact spec4f x y n c15
  · exact spec4t x y n c15
end Gv.Try
