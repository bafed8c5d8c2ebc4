/- A calculation in parts. -/
import Derived.Test.YthidcccnjplafaaKS
namespace Gv.Try
open Go Gv Go.Proofs
set_option maxRecDepth 1000000
theorem c5 : lastX T1 x7.rs (seqR (normR (opsX T1 (runF T1 400 399) x7.ro (headOps (tailN 7 x7.body)) (((((headOps (tailN 7 x7.body)).drop 45).drop 10).drop 12).drop 11) st4)) (runC T1 (runF T1 400 399) ⟨x7.ro, x7.ord⟩ 400 (headRest (tailN 7 x7.body)))) = some (.bool true) := by kernel_rfl
end Gv.Try
