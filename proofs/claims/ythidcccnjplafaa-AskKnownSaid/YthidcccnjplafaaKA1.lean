/- A calculation in parts. -/
import Derived.Test.YthidcccnjplafaaKS
namespace Gv.Try
open Go Gv Go.Proofs
set_option maxRecDepth 1000000
theorem c1 : runL T1 (runF T1 400 399) ⟨x7.ro, x7.ord⟩ 400 (frontN 7 x7.body) (gstart x7.n [] [.clock 0]) = some st1 := by kernel_rfl
end Gv.Try
