import Derived.Test.YtcjiabpfahmjnaaGvTab
import Derived.Test.YtcjiabpfahmjnaaProg
import Derived.KernelRfl
set_option maxRecDepth 100000
namespace Gv.Try
open Go Gv Go.Proofs
theorem els22 : els Try.prog 22 = (some (1, false)) := by kernel_rfl
theorem els25 : els Try.prog 25 = (some (1, false)) := by kernel_rfl
theorem els29 : els Try.prog 29 = (some (5, true)) := by kernel_rfl
theorem els46 : els Try.prog 46 = (some (1, false)) := by kernel_rfl
theorem elt22 : elt Try.prog 22 = (some (1, (8, [(.int (.i64) 0)]))) := by kernel_rfl
theorem elt25 : elt Try.prog 25 = (some (1, (24, [(.slice [] (.nil))]))) := by kernel_rfl
theorem elt29 : elt Try.prog 29 = (some (5, (48, [(.int (.i64) 0), (.int (.i64) 0), (.slice [] (.nil)), (.bool false), (.bool false)]))) := by kernel_rfl
theorem elt46 : elt Try.prog 46 = (some (1, (24, [(.slice [] (.nil))]))) := by kernel_rfl
theorem fld24_0 : fld Try.prog 24 0 = (some (0, (1, false))) := by kernel_rfl
theorem fld24_1 : fld Try.prog 24 1 = (some (1, (1, false))) := by kernel_rfl
theorem fld27_0 : fld Try.prog 27 0 = (some (0, (1, false))) := by kernel_rfl
theorem fld27_1 : fld Try.prog 27 1 = (some (1, (1, false))) := by kernel_rfl
theorem fld32_0 : fld Try.prog 32 0 = (some (0, (1, false))) := by kernel_rfl
theorem fld32_1 : fld Try.prog 32 1 = (some (1, (1, false))) := by kernel_rfl
theorem fld37_0 : fld Try.prog 37 0 = (some (0, (1, false))) := by kernel_rfl
theorem fld37_1 : fld Try.prog 37 1 = (some (1, (1, false))) := by kernel_rfl
theorem fld37_2 : fld Try.prog 37 2 = (some (2, (1, false))) := by kernel_rfl
theorem fld37_3 : fld Try.prog 37 3 = (some (3, (1, false))) := by kernel_rfl
theorem fld37_4 : fld Try.prog 37 4 = (some (4, (1, false))) := by kernel_rfl
theorem keyT90 : keyT Try.prog 90 = (some ((.mk [(.int)] false), 4)) := by kernel_rfl
theorem notInt22 : notInt Try.prog 22 = true := by kernel_rfl
theorem notInt24 : notInt Try.prog 24 = false := by kernel_rfl
theorem notInt25 : notInt Try.prog 25 = true := by kernel_rfl
theorem notInt27 : notInt Try.prog 27 = false := by kernel_rfl
theorem notInt29 : notInt Try.prog 29 = true := by kernel_rfl
theorem notInt3 : notInt Try.prog 3 = false := by kernel_rfl
theorem notInt32 : notInt Try.prog 32 = false := by kernel_rfl
theorem notInt37 : notInt Try.prog 37 = false := by kernel_rfl
theorem notInt46 : notInt Try.prog 46 = true := by kernel_rfl
theorem notInt79 : notInt Try.prog 79 = false := by kernel_rfl
theorem notInt88 : notInt Try.prog 88 = false := by kernel_rfl
theorem notInt90 : notInt Try.prog 90 = false := by kernel_rfl
theorem plc32 : plc Try.prog 32 = (some (.inl [(0, 1), (1, 1)])) := by kernel_rfl
theorem plc37 : plc Try.prog 37 = (some (.inl [(0, 1), (1, 1), (2, 1), (3, 1), (4, 1)])) := by kernel_rfl
theorem tab22 : tab Try.prog 22 = (some (1, false)) := by kernel_rfl
theorem tab24 : tab Try.prog 24 = (some (2, true)) := by kernel_rfl
theorem tab25 : tab Try.prog 25 = (some (1, false)) := by kernel_rfl
theorem tab27 : tab Try.prog 27 = (some (2, true)) := by kernel_rfl
theorem tab29 : tab Try.prog 29 = (some (1, false)) := by kernel_rfl
theorem tab3 : tab Try.prog 3 = (some (1, false)) := by kernel_rfl
theorem tab32 : tab Try.prog 32 = (some (2, true)) := by kernel_rfl
theorem tab37 : tab Try.prog 37 = (some (5, true)) := by kernel_rfl
theorem tab4 : tab Try.prog 4 = (some (1, false)) := by kernel_rfl
theorem und22 : Go.Program.underlying Try.prog 22 = (some (.slice 3)) := by kernel_rfl
theorem und25 : Go.Program.underlying Try.prog 25 = (some (.slice 22)) := by kernel_rfl
theorem und29 : Go.Program.underlying Try.prog 29 = (some (.slice 37)) := by kernel_rfl
theorem und3 : Go.Program.underlying Try.prog 3 = (some (.int (.i64))) := by kernel_rfl
theorem und4 : Go.Program.underlying Try.prog 4 = (some (.bool)) := by kernel_rfl
theorem und46 : Go.Program.underlying Try.prog 46 = (some (.slice 29)) := by kernel_rfl
theorem und79 : Go.Program.underlying Try.prog 79 = (some (.func #[37] #[4] false)) := by kernel_rfl
theorem und88 : Go.Program.underlying Try.prog 88 = (some (.func #[3] #[4] false)) := by kernel_rfl
theorem und90 : Go.Program.underlying Try.prog 90 = (some (.map 3 4)) := by kernel_rfl
theorem und94 : Go.Program.underlying Try.prog 94 = (some (.int (.u64))) := by kernel_rfl
theorem zer24 : zer Try.prog 24 = (some [(.slice [] (.nil)), (.slice [] (.nil))]) := by kernel_rfl
theorem zer27 : zer Try.prog 27 = (some [(.slice [] (.nil)), (.slice [] (.nil))]) := by kernel_rfl
theorem zer32 : zer Try.prog 32 = (some [(.slice [] (.nil)), (.slice [] (.nil))]) := by kernel_rfl
theorem zer37 : zer Try.prog 37 = (some [(.int (.i64) 0), (.int (.i64) 0), (.slice [] (.nil)), (.bool false), (.bool false)]) := by kernel_rfl
theorem zeroG4 : zeroG Try.prog 4 = (some (.bool false)) := by kernel_rfl
end Gv.Try
