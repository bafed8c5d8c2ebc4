/- A calculation in parts. -/
import Derived.Test.YthidcccnjplafaaKS
namespace Gv.Try
open Go Gv Go.Proofs
set_option maxRecDepth 1000000
theorem c2 : opsX T1 (runF T1 400 399) x7.ro (headOps (tailN 7 x7.body)) ((headOps (tailN 7 x7.body)).take 45) st1 = some st2 := by kernel_rfl
end Gv.Try
