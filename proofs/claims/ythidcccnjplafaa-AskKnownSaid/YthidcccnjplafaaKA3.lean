/- A calculation in parts. -/
import Derived.Test.YthidcccnjplafaaKS
namespace Gv.Try
open Go Gv Go.Proofs
set_option maxRecDepth 1000000
theorem c2b : opsX T1 (runF T1 400 399) x7.ro (headOps (tailN 7 x7.body)) (((headOps (tailN 7 x7.body)).drop 45).take 10) st2 = some st2b := by kernel_rfl
end Gv.Try
