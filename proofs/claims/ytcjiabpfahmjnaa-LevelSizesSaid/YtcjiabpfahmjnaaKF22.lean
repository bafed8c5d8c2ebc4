import Derived.Test.YtcjiabpfahmjnaaTabA
namespace Gv.Try
open Go Gv
set_option maxRecDepth 1000000
theorem k22 : comes T 400 22 [] = some (.bool true) := by kernel_rfl
end Gv.Try
