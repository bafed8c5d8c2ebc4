import Derived.Test.YtcjiabpfahmjnaaTabF
namespace Gv.Try
open Go Gv
set_option maxRecDepth 1000000
theorem k15 : comes T 400 15 [] = some (.bool true) := by kernel_rfl
end Gv.Try
