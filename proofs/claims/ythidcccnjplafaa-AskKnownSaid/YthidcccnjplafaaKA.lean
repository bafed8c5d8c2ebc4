/- A calculation in parts. -/
import Derived.Test.YthidcccnjplafaaKA1
import Derived.Test.YthidcccnjplafaaKA2
import Derived.Test.YthidcccnjplafaaKA3
import Derived.Test.YthidcccnjplafaaKA4
import Derived.Test.YthidcccnjplafaaKA5
import Derived.Test.YthidcccnjplafaaKA6
namespace Gv.Try
open Go Gv Go.Proofs
set_option maxRecDepth 1000000
theorem k7 : comes T1 400 7 [] = some (.bool true) := by
  refine comes_by (x := x7) (by kernel_rfl) (by omega) ?_
  rw [show (400 - 1 : Nat) = 399 from rfl, runL_ok 7 x7.body _ st1 c1, head_run (by kernel_rfl), opsX_cut 45 c2, opsX_cut 10 c2b, opsX_cut 12 c3, opsX_cut 11 c4]
  exact c5
end Gv.Try
