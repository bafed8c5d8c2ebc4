import Derived.Test.YtbfokpenlkdekaaTabC
namespace Gv.Try
open Go Gv
set_option maxRecDepth 1000000
theorem k8 : comes T 400 8 [] = some (.bool true) := by kernel_rfl
end Gv.Try
