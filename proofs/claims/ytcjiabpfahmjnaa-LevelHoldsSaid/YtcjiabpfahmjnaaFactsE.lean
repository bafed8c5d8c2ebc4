import Derived.Test.YtcjiabpfahmjnaaFactsA
import Derived.Test.YtcjiabpfahmjnaaGvTab
import Derived.Test.YtcjiabpfahmjnaaProg
import Derived.KernelRfl
set_option maxRecDepth 100000
namespace Gv.Try
open Go Gv Go.Proofs
theorem els59 : els Try.prog 59 = (some (2, true)) := by kernel_rfl
theorem elt59 : elt Try.prog 59 = (some (2, (16, [(.int (.i64) 0), (.int (.i64) 0)]))) := by kernel_rfl
theorem fld62_0 : fld Try.prog 62 0 = (some (0, (1, false))) := by kernel_rfl
theorem fld62_1 : fld Try.prog 62 1 = (some (1, (1, false))) := by kernel_rfl
theorem notInt59 : notInt Try.prog 59 = true := by kernel_rfl
theorem notInt62 : notInt Try.prog 62 = false := by kernel_rfl
theorem plc62 : plc Try.prog 62 = (some (.inl [(0, 1), (1, 1)])) := by kernel_rfl
theorem tab62 : tab Try.prog 62 = (some (2, true)) := by kernel_rfl
theorem und59 : Go.Program.underlying Try.prog 59 = (some (.slice 62)) := by kernel_rfl
theorem zer62 : zer Try.prog 62 = (some [(.int (.i64) 0), (.int (.i64) 0)]) := by kernel_rfl
end Gv.Try
