import Derived.Test.YthidcccnjplafaaTabK
namespace Gv.Try
open Go Gv Go.Proofs
set_option maxRecDepth 1000000
theorem k11 : comes T 400 11 [] = some (.bool true) := by kernel_rfl
noncomputable def T1 : Tabs := tabsOf Try.prog fns [11]
theorem T1_ok : T1.Ok Try.prog := tabsOf_ok fns_ok (by simpa using comes_ok mix T_ok k11)
end Gv.Try
