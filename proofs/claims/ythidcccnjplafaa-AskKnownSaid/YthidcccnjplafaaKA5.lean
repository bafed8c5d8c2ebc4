/- A calculation in parts. -/
import Derived.Test.YthidcccnjplafaaKS
namespace Gv.Try
open Go Gv Go.Proofs
set_option maxRecDepth 1000000
theorem c4 : opsX T1 (runF T1 400 399) x7.ro (headOps (tailN 7 x7.body)) (((((headOps (tailN 7 x7.body)).drop 45).drop 10).drop 12).take 11) st3 = some st4 := by kernel_rfl
end Gv.Try
