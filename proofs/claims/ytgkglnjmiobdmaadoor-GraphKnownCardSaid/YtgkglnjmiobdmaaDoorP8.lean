import Derived.Test.YtgkglnjmiobdmaaDoorP5
import Derived.Test.YtgkglnjmiobdmaaDoorProg
import Derived.KernelRfl
import Derived.Test.YtgkglnjmiobdmaaDoorP6
import Derived.Test.YtgkglnjmiobdmaaDoorP7
import Derived.Lib.BytesEntry
import Derived.Laws.Externs
import Derived.WalkKit
import Derived.Shelf.SlSortCmp.WholeK
import Derived.Deep.RegionWith
import Derived.Shelf.SlMaps.Clone
set_option maxRecDepth 100000
namespace Gv.Tryd
open Go Gv Go.Proofs
theorem aggT40 : aggT Tryd.prog 40 = (some [(.int), (.int), (.int), (.int), (.int), (.int), (.int), (.int), (.int), (.int), (.int), (.int), (.int), (.int), (.int), (.int), (.int), (.int), (.int), (.int), (.int), (.int), (.int), (.int), (.int), (.int), (.int), (.int), (.int), (.int), (.int), (.int)]) := by kernel_rfl
theorem arr40 : arr Tryd.prog 40 = (some (32, (1, false))) := by kernel_rfl
theorem arr68 : arr Tryd.prog 68 = (some (60, (1, false))) := by kernel_rfl
theorem arr80 : arr Tryd.prog 80 = (some (6, (1, false))) := by kernel_rfl
theorem els130 : els Tryd.prog 130 = (some (1, false)) := by kernel_rfl
theorem els22 : els Tryd.prog 22 = (some (3, true)) := by kernel_rfl
theorem els23 : els Tryd.prog 23 = (some (1, false)) := by kernel_rfl
theorem els29 : els Tryd.prog 29 = (some (33, true)) := by kernel_rfl
theorem els30 : els Tryd.prog 30 = (some (32, true)) := by kernel_rfl
theorem els48 : els Tryd.prog 48 = (some (4, true)) := by kernel_rfl
theorem elt130 : elt Tryd.prog 130 = (some (1, (16, [(.lit (.nilIface))]))) := by kernel_rfl
theorem elt22 : elt Tryd.prog 22 = (some (3, (40, [(.int (.i64) 0), (.int (.i64) 0), (.slice [] (.nil))]))) := by kernel_rfl
theorem elt23 : elt Tryd.prog 23 = (some (1, (8, [(.int (.i64) 0)]))) := by kernel_rfl
theorem elt29 : elt Tryd.prog 29 = (some (33, (56, [(.int (.u8) 0), (.int (.u8) 0), (.int (.u8) 0), (.int (.u8) 0), (.int (.u8) 0), (.int (.u8) 0), (.int (.u8) 0), (.int (.u8) 0), (.int (.u8) 0), (.int (.u8) 0), (.int (.u8) 0), (.int (.u8) 0), (.int (.u8) 0), (.int (.u8) 0), (.int (.u8) 0), (.int (.u8) 0), (.int (.u8) 0), (.int (.u8) 0), (.int (.u8) 0), (.int (.u8) 0), (.int (.u8) 0), (.int (.u8) 0), (.int (.u8) 0), (.int (.u8) 0), (.int (.u8) 0), (.int (.u8) 0), (.int (.u8) 0), (.int (.u8) 0), (.int (.u8) 0), (.int (.u8) 0), (.int (.u8) 0), (.int (.u8) 0), (.slice [] (.nil))]))) := by kernel_rfl
theorem elt30 : elt Tryd.prog 30 = (some (32, (32, [(.int (.u8) 0), (.int (.u8) 0), (.int (.u8) 0), (.int (.u8) 0), (.int (.u8) 0), (.int (.u8) 0), (.int (.u8) 0), (.int (.u8) 0), (.int (.u8) 0), (.int (.u8) 0), (.int (.u8) 0), (.int (.u8) 0), (.int (.u8) 0), (.int (.u8) 0), (.int (.u8) 0), (.int (.u8) 0), (.int (.u8) 0), (.int (.u8) 0), (.int (.u8) 0), (.int (.u8) 0), (.int (.u8) 0), (.int (.u8) 0), (.int (.u8) 0), (.int (.u8) 0), (.int (.u8) 0), (.int (.u8) 0), (.int (.u8) 0), (.int (.u8) 0), (.int (.u8) 0), (.int (.u8) 0), (.int (.u8) 0), (.int (.u8) 0)]))) := by kernel_rfl
theorem elt48 : elt Tryd.prog 48 = (some (4, (64, [(.slice [] (.nil)), (.slice [] (.nil)), (.int (.i64) 0), (.int (.i64) 0)]))) := by kernel_rfl
theorem elt95 : elt Tryd.prog 95 = (some (1, (1, [(.int (.u8) 0)]))) := by kernel_rfl
theorem fld25_0 : fld Tryd.prog 25 0 = (some (0, (1, false))) := by kernel_rfl
theorem fld25_1 : fld Tryd.prog 25 1 = (some (1, (1, false))) := by kernel_rfl
theorem fld25_2 : fld Tryd.prog 25 2 = (some (2, (1, false))) := by kernel_rfl
theorem fld25_3 : fld Tryd.prog 25 3 = (some (3, (1, false))) := by kernel_rfl
theorem fld32_0 : fld Tryd.prog 32 0 = (some (0, (1, false))) := by kernel_rfl
theorem fld32_1 : fld Tryd.prog 32 1 = (some (1, (1, false))) := by kernel_rfl
theorem fld32_2 : fld Tryd.prog 32 2 = (some (2, (1, false))) := by kernel_rfl
theorem fld42_0 : fld Tryd.prog 42 0 = (some (0, (32, true))) := by kernel_rfl
theorem fld42_1 : fld Tryd.prog 42 1 = (some (32, (1, false))) := by kernel_rfl
theorem fld64_0 : fld Tryd.prog 64 0 = (some (0, (1, false))) := by kernel_rfl
theorem fld66_0 : fld Tryd.prog 66 0 = (some (0, (1, false))) := by kernel_rfl
theorem fld66_1 : fld Tryd.prog 66 1 = (some (1, (1, false))) := by kernel_rfl
theorem fld66_2 : fld Tryd.prog 66 2 = (some (2, (1, false))) := by kernel_rfl
theorem fld88_0 : fld Tryd.prog 88 0 = (some (0, (32, true))) := by kernel_rfl
theorem keyT62 : keyT Tryd.prog 62 = (some ((.mk [(.int), (.int), (.int), (.int), (.int), (.int), (.int), (.int), (.int), (.int), (.int), (.int), (.int), (.int), (.int), (.int), (.int), (.int), (.int), (.int), (.int), (.int), (.int), (.int), (.int), (.int), (.int), (.int), (.int), (.int), (.int), (.int)] true), 30)) := by kernel_rfl
theorem keyT77 : keyT Tryd.prog 77 = (some ((.mk [(.int), (.int), (.int), (.int), (.int), (.int), (.int), (.int), (.int), (.int), (.int), (.int), (.int), (.int), (.int), (.int), (.int), (.int), (.int), (.int), (.int), (.int), (.int), (.int), (.int), (.int), (.int), (.int), (.int), (.int), (.int), (.int)] true), 4)) := by kernel_rfl
theorem notInt105 : notInt Tryd.prog 105 = false := by kernel_rfl
theorem notInt108 : notInt Tryd.prog 108 = false := by kernel_rfl
theorem notInt117 : notInt Tryd.prog 117 = false := by kernel_rfl
theorem notInt130 : notInt Tryd.prog 130 = true := by kernel_rfl
theorem notInt141 : notInt Tryd.prog 141 = false := by kernel_rfl
theorem notInt143 : notInt Tryd.prog 143 = false := by kernel_rfl
theorem notInt144 : notInt Tryd.prog 144 = false := by kernel_rfl
theorem notInt148 : notInt Tryd.prog 148 = false := by kernel_rfl
theorem notInt20 : notInt Tryd.prog 20 = false := by kernel_rfl
theorem notInt22 : notInt Tryd.prog 22 = true := by kernel_rfl
theorem notInt23 : notInt Tryd.prog 23 = true := by kernel_rfl
theorem notInt25 : notInt Tryd.prog 25 = false := by kernel_rfl
theorem notInt26 : notInt Tryd.prog 26 = false := by kernel_rfl
theorem notInt29 : notInt Tryd.prog 29 = true := by kernel_rfl
theorem notInt3 : notInt Tryd.prog 3 = false := by kernel_rfl
theorem notInt30 : notInt Tryd.prog 30 = true := by kernel_rfl
theorem notInt32 : notInt Tryd.prog 32 = false := by kernel_rfl
theorem notInt35 : notInt Tryd.prog 35 = false := by kernel_rfl
theorem notInt40 : notInt Tryd.prog 40 = false := by kernel_rfl
theorem notInt48 : notInt Tryd.prog 48 = true := by kernel_rfl
theorem notInt50 : notInt Tryd.prog 50 = false := by kernel_rfl
theorem notInt62 : notInt Tryd.prog 62 = false := by kernel_rfl
theorem notInt73 : notInt Tryd.prog 73 = false := by kernel_rfl
theorem notInt77 : notInt Tryd.prog 77 = false := by kernel_rfl
theorem notInt79 : notInt Tryd.prog 79 = false := by kernel_rfl
theorem notInt95 : notInt Tryd.prog 95 = true := by kernel_rfl
theorem notInt96 : notInt Tryd.prog 96 = false := by kernel_rfl
theorem plc32 : plc Tryd.prog 32 = (some (.inl [(0, 1), (1, 1), (2, 1)])) := by kernel_rfl
theorem plc40 : plc Tryd.prog 40 = (some (.inr 1)) := by kernel_rfl
theorem plc42 : plc Tryd.prog 42 = (some (.inl [(0, 32), (32, 1)])) := by kernel_rfl
theorem plc64 : plc Tryd.prog 64 = (some (.inl [(0, 1)])) := by kernel_rfl
theorem plc80 : plc Tryd.prog 80 = (some (.inr 1)) := by kernel_rfl
theorem plc88 : plc Tryd.prog 88 = (some (.inl [(0, 32), (32, 1)])) := by kernel_rfl
theorem tab105 : tab Tryd.prog 105 = (some (3, true)) := by kernel_rfl
theorem tab108 : tab Tryd.prog 108 = (some (1, false)) := by kernel_rfl
theorem tab144 : tab Tryd.prog 144 = (some (1, false)) := by kernel_rfl
theorem tab22 : tab Tryd.prog 22 = (some (1, false)) := by kernel_rfl
theorem tab23 : tab Tryd.prog 23 = (some (1, false)) := by kernel_rfl
theorem tab25 : tab Tryd.prog 25 = (some (4, true)) := by kernel_rfl
theorem tab26 : tab Tryd.prog 26 = (some (1, false)) := by kernel_rfl
theorem tab29 : tab Tryd.prog 29 = (some (1, false)) := by kernel_rfl
theorem tab3 : tab Tryd.prog 3 = (some (1, false)) := by kernel_rfl
theorem tab30 : tab Tryd.prog 30 = (some (1, false)) := by kernel_rfl
theorem tab32 : tab Tryd.prog 32 = (some (3, true)) := by kernel_rfl
theorem tab35 : tab Tryd.prog 35 = (some (1, false)) := by kernel_rfl
theorem tab4 : tab Tryd.prog 4 = (some (1, false)) := by kernel_rfl
theorem tab40 : tab Tryd.prog 40 = (some (32, true)) := by kernel_rfl
theorem tab42 : tab Tryd.prog 42 = (some (33, true)) := by kernel_rfl
theorem tab5 : tab Tryd.prog 5 = (some (1, false)) := by kernel_rfl
theorem tab60 : tab Tryd.prog 60 = (some (1, false)) := by kernel_rfl
theorem tab62 : tab Tryd.prog 62 = (some (1, false)) := by kernel_rfl
theorem tab66 : tab Tryd.prog 66 = (some (3, true)) := by kernel_rfl
theorem tab77 : tab Tryd.prog 77 = (some (1, false)) := by kernel_rfl
theorem tab84 : tab Tryd.prog 84 = (some (1, false)) := by kernel_rfl
theorem und110 : Go.Program.underlying Tryd.prog 110 = (some (.int (.u8))) := by kernel_rfl
theorem und117 : Go.Program.underlying Tryd.prog 117 = (some (.int (.u64))) := by kernel_rfl
theorem und130 : Go.Program.underlying Tryd.prog 130 = (some (.slice 35)) := by kernel_rfl
theorem und133 : Go.Program.underlying Tryd.prog 133 = (some (.int (.i64))) := by kernel_rfl
theorem und141 : Go.Program.underlying Tryd.prog 141 = (some (.int (.u32))) := by kernel_rfl
theorem und143 : Go.Program.underlying Tryd.prog 143 = (some (.int (.u64))) := by kernel_rfl
theorem und144 : Go.Program.underlying Tryd.prog 144 = (some (.int (.u64))) := by kernel_rfl
theorem und148 : Go.Program.underlying Tryd.prog 148 = (some (.pointer 3)) := by kernel_rfl
theorem und20 : Go.Program.underlying Tryd.prog 20 = (some (.interface #[])) := by kernel_rfl
theorem und22 : Go.Program.underlying Tryd.prog 22 = (some (.slice 66)) := by kernel_rfl
theorem und23 : Go.Program.underlying Tryd.prog 23 = (some (.slice 3)) := by kernel_rfl
theorem und26 : Go.Program.underlying Tryd.prog 26 = (some (.pointer 64)) := by kernel_rfl
theorem und29 : Go.Program.underlying Tryd.prog 29 = (some (.slice 42)) := by kernel_rfl
theorem und3 : Go.Program.underlying Tryd.prog 3 = (some (.int (.i64))) := by kernel_rfl
theorem und30 : Go.Program.underlying Tryd.prog 30 = (some (.slice 40)) := by kernel_rfl
theorem und4 : Go.Program.underlying Tryd.prog 4 = (some (.bool)) := by kernel_rfl
theorem und40 : Go.Program.underlying Tryd.prog 40 = (some (.array 32 5)) := by kernel_rfl
theorem und48 : Go.Program.underlying Tryd.prog 48 = (some (.slice 25)) := by kernel_rfl
theorem und5 : Go.Program.underlying Tryd.prog 5 = (some (.int (.u8))) := by kernel_rfl
theorem und50 : Go.Program.underlying Tryd.prog 50 = (some (.func #[40] #[4] false)) := by kernel_rfl
theorem und60 : Go.Program.underlying Tryd.prog 60 = (some (.int (.i64))) := by kernel_rfl
theorem und62 : Go.Program.underlying Tryd.prog 62 = (some (.map 40 30)) := by kernel_rfl
theorem und68 : Go.Program.underlying Tryd.prog 68 = (some (.array 60 4)) := by kernel_rfl
theorem und73 : Go.Program.underlying Tryd.prog 73 = (some (.func #[50] #[] false)) := by kernel_rfl
theorem und77 : Go.Program.underlying Tryd.prog 77 = (some (.map 40 4)) := by kernel_rfl
theorem und79 : Go.Program.underlying Tryd.prog 79 = (some (.func #[40] #[30] false)) := by kernel_rfl
theorem und80 : Go.Program.underlying Tryd.prog 80 = (some (.array 6 5)) := by kernel_rfl
theorem und84 : Go.Program.underlying Tryd.prog 84 = (some (.pointer 88)) := by kernel_rfl
theorem und86 : Go.Program.underlying Tryd.prog 86 = (some (.pointer 84)) := by kernel_rfl
theorem und89 : Go.Program.underlying Tryd.prog 89 = (some (.pointer 60)) := by kernel_rfl
theorem und9 : Go.Program.underlying Tryd.prog 9 = (some (.string)) := by kernel_rfl
theorem und95 : Go.Program.underlying Tryd.prog 95 = (some (.slice 5)) := by kernel_rfl
theorem und96 : Go.Program.underlying Tryd.prog 96 = (some (.func #[40, 40] #[3] false)) := by kernel_rfl
theorem zer105 : zer Tryd.prog 105 = (some [(.lit (.pointer none)), (.lit (.pointer none)), (.int (.u64) 0)]) := by kernel_rfl
theorem zer144 : zer Tryd.prog 144 = (some [(.int (.u64) 0)]) := by kernel_rfl
theorem zer3 : zer Tryd.prog 3 = (some [(.int (.i64) 0)]) := by kernel_rfl
theorem zer32 : zer Tryd.prog 32 = (some [(.slice [] (.nil)), (.slice [] (.nil)), (.int (.i64) 0)]) := by kernel_rfl
theorem zer40 : zer Tryd.prog 40 = (some [(.int (.u8) 0), (.int (.u8) 0), (.int (.u8) 0), (.int (.u8) 0), (.int (.u8) 0), (.int (.u8) 0), (.int (.u8) 0), (.int (.u8) 0), (.int (.u8) 0), (.int (.u8) 0), (.int (.u8) 0), (.int (.u8) 0), (.int (.u8) 0), (.int (.u8) 0), (.int (.u8) 0), (.int (.u8) 0), (.int (.u8) 0), (.int (.u8) 0), (.int (.u8) 0), (.int (.u8) 0), (.int (.u8) 0), (.int (.u8) 0), (.int (.u8) 0), (.int (.u8) 0), (.int (.u8) 0), (.int (.u8) 0), (.int (.u8) 0), (.int (.u8) 0), (.int (.u8) 0), (.int (.u8) 0), (.int (.u8) 0), (.int (.u8) 0)]) := by kernel_rfl
theorem zer42 : zer Tryd.prog 42 = (some [(.int (.u8) 0), (.int (.u8) 0), (.int (.u8) 0), (.int (.u8) 0), (.int (.u8) 0), (.int (.u8) 0), (.int (.u8) 0), (.int (.u8) 0), (.int (.u8) 0), (.int (.u8) 0), (.int (.u8) 0), (.int (.u8) 0), (.int (.u8) 0), (.int (.u8) 0), (.int (.u8) 0), (.int (.u8) 0), (.int (.u8) 0), (.int (.u8) 0), (.int (.u8) 0), (.int (.u8) 0), (.int (.u8) 0), (.int (.u8) 0), (.int (.u8) 0), (.int (.u8) 0), (.int (.u8) 0), (.int (.u8) 0), (.int (.u8) 0), (.int (.u8) 0), (.int (.u8) 0), (.int (.u8) 0), (.int (.u8) 0), (.int (.u8) 0), (.slice [] (.nil))]) := by kernel_rfl
theorem zer60 : zer Tryd.prog 60 = (some [(.int (.i64) 0)]) := by kernel_rfl
theorem zer62 : zer Tryd.prog 62 = (some [(.lit (.map none))]) := by kernel_rfl
theorem zer64 : zer Tryd.prog 64 = (some [(.lit (.map none))]) := by kernel_rfl
theorem zer66 : zer Tryd.prog 66 = (some [(.int (.i64) 0), (.int (.i64) 0), (.slice [] (.nil))]) := by kernel_rfl
theorem zer68 : zer Tryd.prog 68 = (some [(.bool false), (.bool false), (.bool false), (.bool false), (.bool false), (.bool false), (.bool false), (.bool false), (.bool false), (.bool false), (.bool false), (.bool false), (.bool false), (.bool false), (.bool false), (.bool false), (.bool false), (.bool false), (.bool false), (.bool false), (.bool false), (.bool false), (.bool false), (.bool false), (.bool false), (.bool false), (.bool false), (.bool false), (.bool false), (.bool false), (.bool false), (.bool false), (.bool false), (.bool false), (.bool false), (.bool false), (.bool false), (.bool false), (.bool false), (.bool false), (.bool false), (.bool false), (.bool false), (.bool false), (.bool false), (.bool false), (.bool false), (.bool false), (.bool false), (.bool false), (.bool false), (.bool false), (.bool false), (.bool false), (.bool false), (.bool false), (.bool false), (.bool false), (.bool false), (.bool false)]) := by kernel_rfl
theorem zer77 : zer Tryd.prog 77 = (some [(.lit (.map none))]) := by kernel_rfl
theorem zer80 : zer Tryd.prog 80 = (some [(.int (.u8) 0), (.int (.u8) 0), (.int (.u8) 0), (.int (.u8) 0), (.int (.u8) 0), (.int (.u8) 0)]) := by kernel_rfl
theorem zer84 : zer Tryd.prog 84 = (some [(.lit (.pointer none))]) := by kernel_rfl
theorem zer88 : zer Tryd.prog 88 = (some [(.int (.u8) 0), (.int (.u8) 0), (.int (.u8) 0), (.int (.u8) 0), (.int (.u8) 0), (.int (.u8) 0), (.int (.u8) 0), (.int (.u8) 0), (.int (.u8) 0), (.int (.u8) 0), (.int (.u8) 0), (.int (.u8) 0), (.int (.u8) 0), (.int (.u8) 0), (.int (.u8) 0), (.int (.u8) 0), (.int (.u8) 0), (.int (.u8) 0), (.int (.u8) 0), (.int (.u8) 0), (.int (.u8) 0), (.int (.u8) 0), (.int (.u8) 0), (.int (.u8) 0), (.int (.u8) 0), (.int (.u8) 0), (.int (.u8) 0), (.int (.u8) 0), (.int (.u8) 0), (.int (.u8) 0), (.int (.u8) 0), (.int (.u8) 0), (.lit (.nilIface))]) := by kernel_rfl
theorem zeroG30 : zeroG Tryd.prog 30 = (some (.slice [] (.nil))) := by kernel_rfl
theorem zeroG4 : zeroG Tryd.prog 4 = (some (.bool false)) := by kernel_rfl
set_option linter.defProp false in
def fbFu := And.intro aggT40 <| And.intro arr40 <| And.intro arr68 <| And.intro arr80 <| And.intro els130 <| And.intro els22 <| And.intro els23 <| And.intro els29 <| And.intro els30 <| And.intro els48 <| And.intro elt130 <| And.intro elt22 <| And.intro elt23 <| And.intro elt29 <| And.intro elt30 <| And.intro elt48 <| And.intro elt95 <| And.intro fld25_0 <| And.intro fld25_1 <| And.intro fld25_2 <| And.intro fld25_3 <| And.intro fld32_0 <| And.intro fld32_1 <| And.intro fld32_2 <| And.intro fld42_0 <| And.intro fld42_1 <| And.intro fld64_0 <| And.intro fld66_0 <| And.intro fld66_1 <| And.intro fld66_2 <| And.intro fld88_0 <| And.intro keyT62 <| And.intro keyT77 <| And.intro notInt105 <| And.intro notInt108 <| And.intro notInt117 <| And.intro notInt130 <| And.intro notInt141 <| And.intro notInt143 <| And.intro notInt144 <| And.intro notInt148 <| And.intro notInt20 <| And.intro notInt22 <| And.intro notInt23 <| And.intro notInt25 <| And.intro notInt26 <| And.intro notInt29 <| And.intro notInt3 <| And.intro notInt30 <| And.intro notInt32 <| And.intro notInt35 <| And.intro notInt40 <| And.intro notInt48 <| And.intro notInt50 <| And.intro notInt62 <| And.intro notInt73 <| And.intro notInt77 <| And.intro notInt79 <| And.intro notInt95 <| And.intro notInt96 <| And.intro plc32 <| And.intro plc40 <| And.intro plc42 <| And.intro plc64 <| And.intro plc80 <| And.intro plc88 <| And.intro tab105 <| And.intro tab108 <| And.intro tab144 <| And.intro tab22 <| And.intro tab23 <| And.intro tab25 <| And.intro tab26 <| And.intro tab29 <| And.intro tab3 <| And.intro tab30 <| And.intro tab32 <| And.intro tab35 <| And.intro tab4 <| And.intro tab40 <| And.intro tab42 <| And.intro tab5 <| And.intro tab60 <| And.intro tab62 <| And.intro tab66 <| And.intro tab77 <| And.intro tab84 <| And.intro und110 <| And.intro und117 <| And.intro und130 <| And.intro und133 <| And.intro und141 <| And.intro und143 <| And.intro und144 <| And.intro und148 <| And.intro und20 <| And.intro und22 <| And.intro und23 <| And.intro und26 <| And.intro und29 <| And.intro und3 <| And.intro und30 <| And.intro und4 <| And.intro und40 <| And.intro und48 <| And.intro und5 <| And.intro und50 <| And.intro und60 <| And.intro und62 <| And.intro und68 <| And.intro und73 <| And.intro und77 <| And.intro und79 <| And.intro und80 <| And.intro und84 <| And.intro und86 <| And.intro und89 <| And.intro und9 <| And.intro und95 <| And.intro und96 <| And.intro zer105 <| And.intro zer144 <| And.intro zer3 <| And.intro zer32 <| And.intro zer40 <| And.intro zer42 <| And.intro zer60 <| And.intro zer62 <| And.intro zer64 <| And.intro zer66 <| And.intro zer68 <| And.intro zer77 <| And.intro zer80 <| And.intro zer84 <| And.intro zer88 <| And.intro zeroG30 <| zeroG4
end Gv.Tryd

/- Contracts: digits, prefixes, whether a string begins so. -/
set_option linter.unusedVariables false
set_option linter.unusedSimpArgs false
set_option maxRecDepth 20000
set_option maxHeartbeats 4000000
namespace Gv.Tryd
open Go Gv Go.Proofs
theorem mixS : Tryd.prog.follows .mixedOrders = true := by kernel_rfl
end Gv.Tryd
/- Contract: hex.Parse. -/
set_option linter.unusedVariables false
set_option linter.unusedSimpArgs false
set_option maxRecDepth 20000
set_option maxHeartbeats 4000000
namespace Gv.Tryd
open Go Gv Go.Proofs
end Gv.Tryd
/- bytes.Compare, at this program. -/
set_option linter.unusedVariables false
set_option maxRecDepth 100000
namespace Gv.Tryd
open Go Gv Go.Proofs
def lies (w : World) (a : Option Addr) (l : List UInt8) : Prop := l ≠ [] → ∃ p, a = some p ∧ ∀ (j : Nat) x, l[j]? = some x → w.cell? (p.add j) = some (.int .u8 x.toNat)
theorem run_bytesOf {P : Program} {w : World} {a : Option Addr} {l : List UInt8} (c : Nat) (h : lies w a l) : (Extern.Bytes.bytesOf (.slice a l.length c)).run P w = .ok ⟨l.toArray⟩ w := by
  cases a with
  | none =>
    cases l with
    | nil => rfl
    | cons x r => obtain ⟨p, hp, _⟩ := h (by simp); cases hp
  | some p =>
    cases l with
    | nil => rfl
    | cons x r =>
      obtain ⟨q, hq, hc⟩ := h (by simp)
      cases hq
      have := Lib.run_loadBytesX (P := P) w ((x :: r).map fun c => (c.toNat : Int)) p .empty (fun j y hy => by
        rw [List.getElem?_map] at hy
        cases hq : (x :: r)[j]? with
        | none => rw [hq] at hy; cases hy
        | some z => rw [hq] at hy; simp at hy; subst hy; exact hc j z hq)
      have e : Lib.bytesOf ((x :: r).map fun c => (c.toNat : Int)) = x :: r := by simp [Lib.bytesOf, List.map_map, Function.comp_def]
      rw [e, List.length_map] at this
      simpa [Extern.Bytes.bytesOf] using this
def cmpL (a b : List UInt8) : Int := Extern.BytealgCompare.cmp ⟨a.toArray⟩ ⟨b.toArray⟩
theorem run_compare {P : Program} {w : World} {a b : Option Addr} {x y : List UInt8} (c d : Nat) (h : lies w a x) (k : lies w b y) :
    (Extern.BytealgCompare.compare #[.slice a x.length c, .slice b y.length d]).run P w = .ok (.int .i64 (cmpL x y)) w := by
  change Sem.run P (do
    let p ← Extern.Bytes.bytesOf (.slice a x.length c)
    let q ← Extern.Bytes.bytesOf (.slice b y.length d)
    pure (goInt (Extern.BytealgCompare.cmp p q))) w = _
  simp only [Sem.run_bind, run_bytesOf c h, run_bytesOf d k, Result.andThen_ok]
  rfl
set_option maxHeartbeats 2000000 in
theorem calls21 (w : World) (a b : Option Addr) (x y : List UInt8) (c d : Nat) (h : lies w a x) (k : lies w b y) :
    Calls Tryd.prog 50 #[.slice a x.length c, .slice b y.length d] w fun e w' => e = .returned (.int .i64 (cmpL x y)) ∧ w' = w := by
  go_enter Tryd.func50, Tryd.ntmps50
  go_wp2
  rw [run_callFunc_extern Tryd.func68 (by kernel_rfl) (by kernel_rfl) (by kernel_rfl) (e := Extern.BytealgCompare.compare) (by kernel_rfl), run_compare c d h k]
  simp only [Result.andThen]
  rw [Oper.upon_value]
  go_wp2
  go_ret
  exact ⟨rfl, rfl⟩
end Gv.Tryd
/- slices.SortFunc over rows of structs, as a contract over ghost values. -/
set_option linter.unusedVariables false
namespace Gv
open Go Go.Proofs Go.Shelf Go.RowKit Go.Lib Go.Sort

section
variable {P : Program} {ρ : Ren}
set_option maxHeartbeats 2000000 in
theorem insertion_none (L : SlLaysF0.n20 P ρ) (p : Option Addr) (cap : Nat) (fv : Value) (w : World) :
    Calls P (ρ.f 20) #[.slice p 0 cap, .int .i64 0, .int .i64 0, fv] w fun e w' => e = .returned (.tuple #[]) ∧ w' = w := by
  have mixed := L.mixed; have t0 := L.t0; have a0 := L.a0; have z0 := L.z0; have v0 := L.v0; have t3 := L.t3; have a3 := L.a3; have z3 := L.z3; have v3 := L.v3; have t4 := L.t4; have a4 := L.a4; have z4 := L.z4; have v4 := L.v4; have t22 := L.t22; have a22 := L.a22; have z22 := L.z22; have v22 := L.v22; have t25 := L.t25; have a25 := L.a25; have z25 := L.z25; have v25 := L.v25
  obtain ⟨_, _, FG⟩ := L.f20
  go_enter FG, SlBodyF.n20_ntmps ρ
  go_wp2
  refine wp_loop_rounds 1 ?_
  rw [rounds_succ]
  go_wp2
  go_end0
  exact ⟨rfl, rfl⟩

set_option maxHeartbeats 2000000 in
theorem pdq_none (L : SlLaysF0.n14 P ρ) (p : Option Addr) (cap : Nat) (lim : Int) (fv : Value) (w : World) :
    Calls P (ρ.f 14) #[.slice p 0 cap, .int .i64 0, .int .i64 0, .int .i64 lim, fv] w fun e w' => e = .returned (.tuple #[]) ∧ w' = w := by
  have mixed := L.mixed; have t0 := L.t0; have a0 := L.a0; have z0 := L.z0; have v0 := L.v0; have t3 := L.t3; have a3 := L.a3; have z3 := L.z3; have v3 := L.v3; have t4 := L.t4; have a4 := L.a4; have z4 := L.z4; have v4 := L.v4; have t5 := L.t5; have a5 := L.a5; have z5 := L.z5; have v5 := L.v5; have t9 := L.t9; have a9 := L.a9; have z9 := L.z9; have v9 := L.v9; have t22 := L.t22; have a22 := L.a22; have z22 := L.z22; have v22 := L.v22; have t25 := L.t25; have a25 := L.a25; have z25 := L.z25; have v25 := L.v25; have t39 := L.t39; have a39 := L.a39; have z39 := L.z39; have v39 := L.v39; have t45 := L.t45; have a45 := L.a45; have z45 := L.z45; have v45 := L.v45; have t46 := L.t46; have a46 := L.a46; have z46 := L.z46; have v46 := L.v46; have t50 := L.t50; have a50 := L.a50; have z50 := L.z50; have v50 := L.v50; have t53 := L.t53; have a53 := L.a53; have z53 := L.z53; have v53 := L.v53; have t55 := L.t55; have a55 := L.a55; have z55 := L.z55; have v55 := L.v55; have t66 := L.t66; have a66 := L.a66; have z66 := L.z66; have v66 := L.v66; have t70 := L.t70; have a70 := L.a70; have z70 := L.z70; have v70 := L.v70; have t76 := L.t76; have a76 := L.a76; have z76 := L.z76; have v76 := L.v76; have t77 := L.t77; have a77 := L.a77; have z77 := L.z77; have v77 := L.v77
  have e20 : ∀ args w, (callFunc (ρ.f 20) args).run P w = .ok (.enter (ρ.f 20) args) w := L.f20.enters rfl
  have hi := fun W => insertion_none (P := P) (ρ := ρ) { L with } p cap fv W
  obtain ⟨_, _, FG⟩ := L.f14
  go_enter FG, SlBodyF.n14_ntmps ρ
  go_wp2
  refine wp_loop_rounds 1 ?_
  rw [rounds_succ]
  go_wp2_with (go_at_fn (ρ.f 20); refine (hi _).mono ?_; rintro e w' ⟨rfl, rfl⟩)
  (try simp only [Exit.inBlock, Exit.then]); refine bodyPost_ret (results_none rfl _ _ _) rfl ?_
  exact ⟨rfl, rfl⟩

set_option maxHeartbeats 2000000 in
theorem sort_none (L : SlLaysF0.n6 P ρ) (p : Option Addr) (cap : Nat) (fv : Value) (w : World) :
    Calls P (ρ.f 6) #[.slice p 0 cap, fv] w fun e w' => e = .returned (.tuple #[]) ∧ w' = w := by
  have mixed := L.mixed; have t0 := L.t0; have a0 := L.a0; have z0 := L.z0; have v0 := L.v0; have t3 := L.t3; have a3 := L.a3; have z3 := L.z3; have v3 := L.v3; have t4 := L.t4; have a4 := L.a4; have z4 := L.z4; have v4 := L.v4; have t5 := L.t5; have a5 := L.a5; have z5 := L.z5; have v5 := L.v5; have t9 := L.t9; have a9 := L.a9; have z9 := L.z9; have v9 := L.v9; have t22 := L.t22; have a22 := L.a22; have z22 := L.z22; have v22 := L.v22; have t25 := L.t25; have a25 := L.a25; have z25 := L.z25; have v25 := L.v25; have t39 := L.t39; have a39 := L.a39; have z39 := L.z39; have v39 := L.v39; have t45 := L.t45; have a45 := L.a45; have z45 := L.z45; have v45 := L.v45; have t46 := L.t46; have a46 := L.a46; have z46 := L.z46; have v46 := L.v46; have t50 := L.t50; have a50 := L.a50; have z50 := L.z50; have v50 := L.v50; have t53 := L.t53; have a53 := L.a53; have z53 := L.z53; have v53 := L.v53; have t55 := L.t55; have a55 := L.a55; have z55 := L.z55; have v55 := L.v55; have t66 := L.t66; have a66 := L.a66; have z66 := L.z66; have v66 := L.v66; have t70 := L.t70; have a70 := L.a70; have z70 := L.z70; have v70 := L.v70; have t76 := L.t76; have a76 := L.a76; have z76 := L.z76; have v76 := L.v76; have t77 := L.t77; have a77 := L.a77; have z77 := L.z77; have v77 := L.v77
  have e14 : ∀ args w, (callFunc (ρ.f 14) args).run P w = .ok (.enter (ρ.f 14) args) w := L.f14.enters rfl
  have e15 : ∀ args w, (callFunc (ρ.f 15) args).run P w = .ok (.enter (ρ.f 15) args) w := enters_of L.f15 (by kernel_rfl) rfl
  have hp := fun lim W => pdq_none (P := P) (ρ := ρ) { L with } p cap lim fv W
  have hl : ∀ W, Calls P (ρ.f 15) #[.int .u64 0] W fun e w' => e = .returned (.int .i64 (Lib.bitLen 0 : Nat)) ∧ w' = W := fun W => by
    have h := Any.bits_Len (SlLaysF0.n15.bits (P := P) (ρ := ρ) { L with }) 0 W (by omega) (by omega)
    exact h
  obtain ⟨_, _, FG⟩ := L.f6
  go_enter FG, SlBodyF.n6_ntmps ρ
  go_wp2_with (first | (go_at_fn (ρ.f 15); refine (hl _).mono ?_; rintro e w' ⟨rfl, rfl⟩) | (go_at_fn (ρ.f 14); refine (hp _ _).mono ?_; rintro e w' ⟨rfl, rfl⟩))
  go_end0
  exact ⟨rfl, rfl⟩
end

theorem flatMap_at {α : Type} (G : α → List GVal) (k : Nat) (hG : ∀ x, (G x).length = k) : ∀ (xs : List α) (t : Nat), (xs.map G).flatten[t]? = (xs[t / k]?).bind fun x => (G x)[t % k]?
  | [], t => by simp
  | x :: r, t => by
    rw [List.map_cons, List.flatten_cons]
    by_cases h : t < k
    · rw [List.getElem?_append_left (by rw [hG]; exact h), Nat.div_eq_of_lt h, Nat.mod_eq_of_lt h]
      rfl
    · rw [List.getElem?_append_right (by rw [hG]; omega), hG, flatMap_at G k hG r]
      by_cases hk : k = 0
      · subst hk
        have : ∀ y, G y = [] := fun y => List.eq_nil_of_length_eq_zero (hG y)
        simp [this]
      · have e : t = (t - k) + k := by omega
        have e1 : t / k = (t - k) / k + 1 := by
          conv => lhs; rw [e]
          rw [Nat.add_div_right _ (by omega)]
        have e2 : t % k = (t - k) % k := by
          conv => lhs; rw [e]
          rw [Nat.add_mod_right]
        rw [e1, e2, List.getElem?_cons_succ]

section
variable {α : Type} [Inhabited α]
theorem sortWorld_at (enc : α → List Value) (k : Nat) (w : World) (blk off m : Nat) (dk : Array α) (os : Array Obj) {cur : Array Value} {el : TypeId} {fr : Nat × Nat} (hc : w.heap[blk]? = some (.cells cur el fr)) :
    (sortWorldK enc k w blk off m dk os).os = w.os ∧ (sortWorldK enc k w blk off m dk os).output = w.output ∧ w.heap.size ≤ (sortWorldK enc k w blk off m dk os).heap.size ∧
    (∀ b, b < w.heap.size → b ≠ blk → (sortWorldK enc k w blk off m dk os).heap[b]? = w.heap[b]?) ∧
    (sortWorldK enc k w blk off m dk os).heap[blk]? = some (.cells (putCells id off (flatK enc k dk) cur) el fr) := by
  have e : (sortWorldK enc k w blk off m dk os).heap = (w.heap.modify blk (onCells (putCells id off (flatK enc k dk)))) ++ os := rfl
  have hlt := (Array.getElem?_eq_some_iff.1 hc).1
  refine ⟨rfl, rfl, by rw [e]; simp, fun b hb hn => ?_, ?_⟩
  · rw [e, Array.getElem?_append, if_pos (by simpa using hb), Array.getElem?_modify, if_neg (fun h => hn h.symm)]
  · rw [e, Array.getElem?_append, if_pos (by simpa using hlt), Array.getElem?_modify, if_pos rfl, hc]; rfl

theorem putCells_at (off : Nat) (d : Array Value) (c : Array Value) (j : Nat) (hj : j < d.size) (hc : off + j < c.size) : (putCells id off d c)[off + j]? = some d[j]! := by
  simp only [putCells, Array.getElem?_mapIdx, Array.getElem?_eq_getElem hc, Option.map_some]
  rw [if_pos ⟨by omega, by omega⟩, show off + j - off = j by omega]; rfl
theorem putCells_size (off : Nat) (d : Array Value) (c : Array Value) : (putCells id off d c).size = c.size := by simp [putCells]
theorem getBang_of {β : Type} [Inhabited β] {l : List β} {i : Nat} {x : β} (h : l[i]? = some x) : l[i]! = x := by simp [h]
end

theorem set_same {β : Type} {l : List β} {i : Nat} {x : β} (h : l[i]? = some x) : l.set i x = l := by
  apply List.ext_getElem?
  intro j
  rw [List.getElem?_set]
  by_cases e : i = j
  · subst e; rw [if_pos rfl, h, if_pos (List.getElem?_eq_some_iff.1 h).1]
  · rw [if_neg e]

theorem gcalls_sort {P : Program} {ρ : Ren} {α : Type} [Inhabited α] (L : SlLaysF0.n6 P ρ) (k : Nat) (aE : ∀ w, (isAgg (ρ.t 24)).run P w = .ok true w) (zE : ∀ w, (Go.sizeOf (ρ.t 24)).run P w = .ok k w)
    (enc : α → List Value) (G : α → List GVal) (hk : ∀ x, (enc x).length = k) (h1 : ∀ x, ∀ v ∈ enc x, v.oneCell' = true) (hG : ∀ x, (G x).length = k)
    (hdet : ∀ E x (j : Nat) g v, (G x)[j]? = some g → VR E v g → (enc x)[j]? = some v) (hback : ∀ E x (j : Nat) g, (G x)[j]? = some g → ∃ v, (enc x)[j]? = some v ∧ VR E v g)
    (cf : α → α → Int) (hO : SWO (ltOf cf)) (c : FuncId) (eg : ∀ args w, (callFunc c args).run P w = .ok (.enter c args) w)
    (hcmp : ∀ x y W, Calls P c #[.agg (enc x).toArray, .agg (enc y).toArray] W fun e w' => e = .returned (.int .i64 (cf x y)) ∧ ∃ q os', w' = grow (W.drewN q) os')
    (hen : enterable P (ρ.f 6) = true) (xs : List α) (hsz : xs.length < 4611686018427387904) {O : List GObj} {o st : Nat} (hOo : O[o]? = some (.row st k (xs.map G))) (hc : clockOf O = none) :
    GCalls P (ρ.f 6) [.own o st 0 xs.length, .func (.func c) [] []] O (fun r O' => r = .tuple [] ∧ ∃ ys : List α, ys.Perm xs ∧ ys.Pairwise (fun a b => ¬ cf b a < 0) ∧ O' = O.set o (.row st k (ys.map G))) := by
  refine ⟨hen, fun E w vs hs ha => ?_⟩
  obtain ⟨hvs, hva⟩ := ha
  have h2 : vs.size = 2 := hvs
  have hv0 := hva 0 _ rfl
  have hv1 := hva 1 _ rfl
  obtain ⟨v0, v1, rfl⟩ : ∃ a b, vs = #[a, b] := by
    refine ⟨vs[0], vs[1], Array.ext (by simp [h2]) fun i a b => ?_⟩
    have : i = 0 ∨ i = 1 := by omega
    rcases this with rfl | rfl <;> rfl
  have e0 : (#[v0, v1] : Array Value).getD 0 undef = v0 := rfl
  have e1 : (#[v0, v1] : Array Value).getD 1 undef = v1 := rfl
  rw [e0] at hv0; rw [e1] at hv1
  clear hva hvs h2 e0 e1
  cases hv1 with
  | func _ fs cs _ _ hf hkk hfs hcs =>
    have ef : fs = #[] := Array.eq_empty_of_size_eq_zero hf
    have ec : cs = #[] := Array.eq_empty_of_size_eq_zero hkk
    subst ef; subst ec
    have hreal := hs.real _ _ hOo
    cases hv0 with
    | own a _ cap _ _ _ l hl hcap hadr =>
      obtain ⟨l', hl', hsz', hrow, hm⟩ := hreal
      rw [hl] at hl'; cases hl'
      by_cases hx : xs = []
      · subst hx
        refine (sort_none L a cap _ w).mono ?_
        rintro e w' ⟨rfl, rfl⟩
        exact ⟨_, E, O, .tuple [], rfl, hs, .refl _ _ _, .tuple _ _ rfl (fun j g h => by simp at h), rfl, [], .refl _, .nil, (set_same hOo).symm⟩
      · have hpos : 0 < xs.length := List.length_pos_iff.2 hx
        rcases hadr with h0 | ⟨b, hb, rfl, htot⟩
        · omega
        rw [hb] at hm
        obtain ⟨cur, el, hw, hcs', hle, hrows, hsn⟩ := hm
        have hmul : (0 : Nat) * l.size = 0 := Nat.zero_mul _
        rw [hmul, Nat.add_zero]
        have hle' : l.off + xs.length * k ≤ cur.size := by rw [hcs']; simpa using hle
        have hlt := (Array.getElem?_eq_some_iff.1 hw).1
        have hcell : ∀ t, t < xs.length * k → ∃ v, cur[l.off + t]? = some v ∧ (flatK enc k xs.toArray)[t]! = v := fun t ht => by
          have hk0 : 0 < k := Nat.pos_of_ne_zero fun e => by subst e; simp at ht
          have hd : t / k < xs.length := Nat.div_lt_of_lt_mul (by rw [Nat.mul_comm]; exact ht)
          have hmd : t % k < k := Nat.mod_lt _ hk0
          have hx? : xs[t / k]? = some xs[t / k] := List.getElem?_eq_getElem hd
          have hg : (G xs[t / k])[t % k]? = some ((G xs[t / k])[t % k]'(by rw [hG]; exact hmd)) := List.getElem?_eq_getElem _
          obtain ⟨v, q1, _, q3⟩ := hrows t _ (by rw [flatMap_at G k hG, hx?]; exact hg)
          refine ⟨v, q1, ?_⟩
          rw [get_flatK _ _ _ _ (by simpa using ht)]
          have := hdet E _ _ _ _ hg q3
          have e1 : xs.toArray[t / k]! = xs[t / k] := by
            rw [getElem!_pos _ _ (by simpa using hd)]; rfl
          rw [e1]; exact getBang_of this
        have hH : HoldsK enc k w b l.off xs.toArray := fun t ht => by
          have ht' : t < xs.length * k := by simpa using ht
          obtain ⟨v, q1, q2⟩ := hcell t ht'
          refine ⟨?_, ?_⟩
          · show w.cell? _ = some (flatK enc k xs.toArray)[t]!
            rw [q2]; simp [World.cell?, hw, q1]
          · simp [World.frozen?, hw]
        have hcmp' : CmpLays P c #[] enc k cf b l.off xs.toArray.size w := fun m os dk _ x y => hcmp x y _
        refine (AnyQ.slices_SortFunc L k aE zE enc hk h1 cf hO c #[] b l.off cap xs.toArray w eg hcmp' hH hlt (by simpa using hsz)).mono ?_
        rintro e w' ⟨rfl, d', n, os, ⟨p1, p2, p3⟩, hsort, rfl⟩
        have hlen : d'.size = xs.length := by simpa using p1
        have hperm : d'.toList.Perm xs := by
          have q1 : d'.extract 0 xs.toArray.size = d' := by rw [← p1]; simp
          have q2 : xs.toArray.extract 0 xs.toArray.size = xs.toArray := by simp
          rw [q1, q2] at p3; exact p3
        have hpw : d'.toList.Pairwise (fun a b => ¬ cf b a < 0) := by
          rw [List.pairwise_iff_getElem]
          intro i j hi hj hij
          have := hsort i j (Nat.zero_le _) hij (by simp at hj; rw [← p1]; exact hj)
          rw [getElem!_pos d' j (by simpa using hj), getElem!_pos d' i (by simpa using hi)] at this
          simpa [ltOf] using this
        obtain ⟨s1, s2, s3, s4, s5⟩ := sortWorld_at enc k w b l.off n d' os hw
        have hup := hs.upd (E' := E) (w' := sortWorldK enc k w b l.off n d' os) (obj' := .row st k (d'.toList.map G)) (b := b) (t := b) hOo (.inl (by simp [GObj.blk, hl, hb])) (.inl rfl) (.refl E) hs.fin ⟨rfl, rfl⟩ s1 ⟨s2, trivial⟩ s3 s4 (fun _ _ _ _ hv => hv)
          (fun o v hv => by rw [hsn o] at hv; cases hv)
          (by
            refine ⟨l, hl, hsz', fun y hy => ?_, ?_⟩
            · obtain ⟨z, _, rfl⟩ := List.mem_map.1 hy; exact hG z
            rw [hb]
            refine ⟨_, el, s5, by rw [putCells_size]; exact hcs', by simp [hlen]; rw [← hcs']; exact hle', fun j g hj => ?_, hsn⟩
            rw [flatMap_at G k hG] at hj
            cases hq : d'.toList[j / k]? with
            | none => rw [hq] at hj; cases hj
            | some x =>
              rw [hq] at hj
              have hj' : (G x)[j % k]? = some g := hj
              obtain ⟨v, q1, q2⟩ := hback E x _ g hj'
              have hi : j / k < d'.size := by simpa using (List.getElem?_eq_some_iff.1 hq).1
              have hk0 : 0 < k := Nat.pos_of_ne_zero fun e => by
                have := (List.getElem?_eq_some_iff.1 hj').1; rw [hG, e] at this; omega
              have hjk : j < d'.size * k := (Nat.div_lt_iff_lt_mul hk0).1 hi
              have e3 : d'[j / k]! = x := by
                rw [getElem!_pos d' (j / k) hi]
                have := (List.getElem?_eq_some_iff.1 hq).2
                simpa using this
              refine ⟨v, ?_, h1 x v (List.mem_of_getElem? q1), q2⟩
              rw [putCells_at l.off _ _ j (by simpa using hjk) (by rw [hlen] at hjk; omega), get_flatK _ _ _ _ hjk, e3, getBang_of q1])
          (fun kk hkk => by simp [GObj.blk, hl, hb] at hkk; exact hkk.symm)
        exact ⟨_, E, _, .tuple [], rfl, hup.1, hup.2, .tuple _ _ rfl (fun j g h => by simp at h), rfl, d'.toList, hperm, hpw, rfl⟩
end Gv
/- bytes.Compare as a contract; the sort's closure. -/
set_option linter.unusedVariables false
set_option maxRecDepth 100000
namespace Gv.Tryd
open Go Gv Go.Proofs Go.Shelf Go.RowKit Go.Lib Go.Sort
theorem lies_heap {w : World} {b : Nat} {X : Array Value} {t : TypeId} {fz : Nat × Nat} {x : List UInt8} (h : w.heap[b]? = some (.cells X t fz)) (hc : ∀ (j : Nat) z, x[j]? = some z → X[j]? = some (.int .u8 z.toNat)) : lies w (some ⟨b, 0, none⟩) x := fun _ =>
  ⟨_, rfl, fun j z hj => by
    have h1 := hc j z hj
    by_cases h0 : j = 0
    · subst h0; simpa [World.cell?, h, Addr.add] using h1
    · simpa [World.cell?, h, Addr.add, h0] using h1⟩
abbrev Hs := { l : List UInt8 // l.length = 32 }
set_option maxHeartbeats 2000000 in
theorem sortClosure (x y : Hs) (W : World) : Calls Tryd.prog 49 #[.agg (bytesV x.1).toArray, .agg (bytesV y.1).toArray] W fun e w' => e = .returned (.int .i64 (cmpL x.1 y.1)) ∧ ∃ q os', w' = grow (W.drewN q) os' := by
  have hx : (bytesV x.1).toArray.size = 32 := by simp [bytesV, x.2]
  have hy : (bytesV y.1).toArray.size = 32 := by simp [bytesV, y.2]
  have cx : ∀ (j : Nat) z, x.1[j]? = some z → (bytesV x.1).toArray[j]? = some (.int .u8 z.toNat) := fun j z h => by simp [bytesV, h]
  have cy : ∀ (j : Nat) z, y.1[j]? = some z → (bytesV y.1).toArray[j]? = some (.int .u8 z.toNat) := fun j z h => by simp [bytesV, h]
  have lx : x.1.length = 32 := x.2
  have ly : y.1.length = 32 := y.2
  have hcmp : ∀ w a b, lies w a x.1 → lies w b y.1 → Calls Tryd.prog 50 #[.slice a 32 32, .slice b 32 32] w fun e w' => e = .returned (.int .i64 (cmpL x.1 y.1)) ∧ w' = w := fun w a b h1 h2 => by
    have := calls21 w a b x.1 y.1 32 32 h1 h2
    rwa [lx, ly] at this
  generalize cmpL x.1 y.1 = r at *
  generalize (bytesV x.1).toArray = X at *
  generalize (bytesV y.1).toArray = Y at *
  have hA : ((W.alloc (Obj.cells X 40)).alloc (Obj.cells Y 40)).drew.heap[W.heap.size]? = some (.cells X 40) := by
    show ((W.alloc (Obj.cells X 40)).alloc (Obj.cells Y 40)).heap[W.heap.size]? = _
    rw [Gv.alloc_old _ _ _ (by simp), Gv.alloc_new]
  have hB : ((W.alloc (Obj.cells X 40)).alloc (Obj.cells Y 40)).drew.heap[W.heap.size + 1]? = some (.cells Y 40) := by
    have e : W.heap.size + 1 = (W.alloc (Obj.cells X 40)).heap.size := by simp
    rw [e]
    exact Gv.alloc_new _ _
  have hc := hcmp _ _ _ (lies_heap hA cx) (lies_heap hB cy)
  go_enter Tryd.func49, Tryd.ntmps49
  go_wp2
  go_region_with (go_at_call 50; refine hc.mono ?_; rintro e w' ⟨rfl, rfl⟩)
  go_wp2
  go_ret
  exact ⟨rfl, 1, _, by rw [alloc_eq_grow, alloc_eq_grow, grow_grow]; rfl⟩
end Gv.Tryd
/- slices.SortFunc of hashes by their bytes, as a contract. -/
set_option linter.unusedVariables false
set_option maxRecDepth 100000
namespace Go.Proofs
open Go.Shelf
def Tryd.sortSp_ren : Go.Shelf.Ren := ⟨fun | 6 => 48 | 15 => 67 | 14 => 66 | 28 => 81 | 29 => 82 | 20 => 73 | 21 => 74 | 22 => 75 | 23 => 76 | 24 => 77 | 25 => 78 | 26 => 79 | 27 => 80 | 46 => 83 | 47 => 84 | 48 => 85 | 49 => 86 | 50 => 87 | 57 => 88 | n => n, fun | 22 => 30 | 24 => 40 | 25 => 96 | 3 => 3 | 39 => 117 | 0 => 0 | 53 => 141 | 55 => 143 | 4 => 4 | 46 => 134 | 45 => 133 | 50 => 138 | 5 => 5 | 9 => 9 | 66 => 144 | 70 => 148 | 76 => 150 | 77 => 151 | n => n, fun | n => n⟩
theorem Tryd.sortSp : Go.Proofs.SlLaysF0.n6 Tryd.prog Tryd.sortSp_ren := {
  mixed := by kernel_rfl
  f6 := ⟨Tryd.f48.name, by decide, Tryd.func48.trans (congrArg some (by kernel_rfl))⟩
  f14 := ⟨Tryd.f66.name, by decide, Tryd.func66.trans (congrArg some (by kernel_rfl))⟩
  f15 := Tryd.func67.trans (congrArg some (by kernel_rfl))
  f20 := ⟨Tryd.f73.name, by decide, Tryd.func73.trans (congrArg some (by kernel_rfl))⟩
  f21 := ⟨Tryd.f74.name, by decide, Tryd.func74.trans (congrArg some (by kernel_rfl))⟩
  f22 := ⟨Tryd.f75.name, by decide, Tryd.func75.trans (congrArg some (by kernel_rfl))⟩
  f23 := ⟨Tryd.f76.name, by decide, Tryd.func76.trans (congrArg some (by kernel_rfl))⟩
  f24 := ⟨Tryd.f77.name, by decide, Tryd.func77.trans (congrArg some (by kernel_rfl))⟩
  f25 := ⟨Tryd.f78.name, by decide, Tryd.func78.trans (congrArg some (by kernel_rfl))⟩
  f26 := ⟨Tryd.f79.name, by decide, Tryd.func79.trans (congrArg some (by kernel_rfl))⟩
  f27 := ⟨Tryd.f80.name, by decide, Tryd.func80.trans (congrArg some (by kernel_rfl))⟩
  f28 := Tryd.func81.trans (congrArg some (by kernel_rfl))
  f29 := Tryd.func82.trans (congrArg some (by kernel_rfl))
  f46 := ⟨Tryd.f83.name, by decide, Tryd.func83.trans (congrArg some (by kernel_rfl))⟩
  f47 := Tryd.func84.trans (congrArg some (by kernel_rfl))
  f48 := Tryd.func85.trans (congrArg some (by kernel_rfl))
  f49 := ⟨Tryd.f86.name, by decide, Tryd.func86.trans (congrArg some (by kernel_rfl))⟩
  f50 := ⟨Tryd.f87.name, by decide, Tryd.func87.trans (congrArg some (by kernel_rfl))⟩
  f57 := ⟨Tryd.f88.name, by decide, Tryd.func88.trans (congrArg some (by kernel_rfl))⟩
  t0 := Tryd.underlying0
  a0 := Tryd.isAgg0
  z0 := Tryd.sizeOf0
  v0 := Tryd.zeroValue0
  t3 := Tryd.underlying3
  a3 := Tryd.isAgg3
  z3 := Tryd.sizeOf3
  v3 := Tryd.zeroValue3
  t4 := Tryd.underlying4
  a4 := Tryd.isAgg4
  z4 := Tryd.sizeOf4
  v4 := Tryd.zeroValue4
  t5 := Tryd.underlying5
  a5 := Tryd.isAgg5
  z5 := Tryd.sizeOf5
  v5 := Tryd.zeroValue5
  t9 := Tryd.underlying9
  a9 := Tryd.isAgg9
  z9 := Tryd.sizeOf9
  v9 := Tryd.zeroValue9
  t22 := Tryd.underlying30
  a22 := Tryd.isAgg30
  z22 := Tryd.sizeOf30
  v22 := Tryd.zeroValue30
  t25 := Tryd.underlying96
  a25 := Tryd.isAgg96
  z25 := Tryd.sizeOf96
  v25 := Tryd.zeroValue96
  t39 := Tryd.underlying117
  a39 := Tryd.isAgg117
  z39 := Tryd.sizeOf117
  v39 := Tryd.zeroValue117
  t45 := Tryd.underlying133
  a45 := Tryd.isAgg133
  z45 := Tryd.sizeOf133
  v45 := Tryd.zeroValue133
  t46 := Tryd.underlying134
  a46 := Tryd.isAgg134
  z46 := Tryd.sizeOf134
  v46 := Tryd.zeroValue134
  t50 := Tryd.underlying138
  a50 := Tryd.isAgg138
  z50 := Tryd.sizeOf138
  v50 := Tryd.zeroValue138
  t53 := Tryd.underlying141
  a53 := Tryd.isAgg141
  z53 := Tryd.sizeOf141
  v53 := Tryd.zeroValue141
  t55 := Tryd.underlying143
  a55 := Tryd.isAgg143
  z55 := Tryd.sizeOf143
  v55 := Tryd.zeroValue143
  t66 := Tryd.underlying144
  a66 := Tryd.isAgg144
  z66 := Tryd.sizeOf144
  v66 := Tryd.zeroValue144
  t70 := Tryd.underlying148
  a70 := Tryd.isAgg148
  z70 := Tryd.sizeOf148
  v70 := Tryd.zeroValue148
  t76 := Tryd.underlying150
  a76 := Tryd.isAgg150
  z76 := Tryd.sizeOf150
  v76 := Tryd.zeroValue150
  t77 := Tryd.underlying151
  a77 := Tryd.isAgg151
  z77 := Tryd.sizeOf151
  v77 := Tryd.zeroValue151 }
end Go.Proofs
namespace Gv.Tryd
open Go Gv Go.Proofs Go.Shelf Go.RowKit Go.Lib Go.Sort
instance : Inhabited Hs := ⟨⟨List.replicate 32 0, by simp⟩⟩
def ltB : List UInt8 → List UInt8 → Bool
  | [], _ => false
  | _, [] => false
  | x :: a, y :: b => if x = y then ltB a b else decide (x < y)
theorem ba_get (x : UInt8) (a : List UInt8) (i : Nat) : (⟨(x :: a).toArray⟩ : ByteArray)[i + 1]! = (⟨a.toArray⟩ : ByteArray)[i]! := by
  by_cases h : i < a.length
  · rw [getElem!_pos _ _ (by show i + 1 < (x :: a).toArray.size; simp; exact h), getElem!_pos _ _ (by show i < a.toArray.size; simpa using h)]
    exact List.getElem_cons_succ x a i (by simp; exact h)
  · rw [getElem!_neg _ _ (by show ¬ i + 1 < (x :: a).toArray.size; simp; omega), getElem!_neg _ _ (by show ¬ i < a.toArray.size; simpa using h)]
theorem ba_zero (x : UInt8) (a : List UInt8) : (⟨(x :: a).toArray⟩ : ByteArray)[0]! = x := by
  rw [getElem!_pos _ _ (by show 0 < (x :: a).toArray.size; simp)]; rfl
theorem cmpL_cons (x y : UInt8) (a b : List UInt8) : cmpL (x :: a) (y :: b) = if x = y then cmpL a b else if x < y then -1 else 1 := by
  unfold cmpL Extern.BytealgCompare.cmp
  have hs : ∀ l : List UInt8, (⟨l.toArray⟩ : ByteArray).size = l.length := fun l => by simp [ByteArray.size]
  simp only [hs, List.length_cons]
  have e : min (a.length + 1) (b.length + 1) = min a.length b.length + 1 := by omega
  rw [e, List.range_succ_eq_map, List.find?_cons, ba_zero, ba_zero]
  by_cases h : x = y
  · subst h
    simp only [bne_self_eq_false, if_true]
    rw [List.find?_map]
    have e2 : ((fun i => (⟨(x :: a).toArray⟩ : ByteArray)[i]! != (⟨(x :: b).toArray⟩ : ByteArray)[i]!) ∘ Nat.succ) = fun i => (⟨a.toArray⟩ : ByteArray)[i]! != (⟨b.toArray⟩ : ByteArray)[i]! := by
      funext i
      simp only [Function.comp, Nat.succ_eq_add_one, ba_get]
    rw [e2]
    cases hq : (List.range (min a.length b.length)).find? fun i => (⟨a.toArray⟩ : ByteArray)[i]! != (⟨b.toArray⟩ : ByteArray)[i]! with
    | none => simp
    | some i => simp only [Option.map_some, Nat.succ_eq_add_one, ba_get]
  · have : (x != y) = true := by simpa using h
    rw [this, if_neg h]
    simp only [ba_zero]
theorem cmpL_ltB : ∀ (a b : List UInt8), a.length = b.length → (decide (cmpL a b < 0) = ltB a b)
  | [], [], _ => by decide
  | x :: a, [], h => by simp at h
  | [], y :: b, h => by simp at h
  | x :: a, y :: b, h => by
    rw [cmpL_cons]
    unfold ltB
    by_cases e : x = y
    · rw [if_pos e, if_pos e]; exact cmpL_ltB a b (by simpa using h)
    · rw [if_neg e, if_neg e]
      by_cases e2 : x < y
      · rw [if_pos e2, decide_eq_true e2]; rfl
      · rw [if_neg e2, decide_eq_false e2]; rfl
theorem ltB_irrefl : ∀ a, ltB a a = false
  | [] => rfl
  | x :: a => by simp [ltB, ltB_irrefl a]
theorem ltB_trans : ∀ {a b c : List UInt8}, a.length = b.length → b.length = c.length → ltB a b = true → ltB b c = true → ltB a c = true
  | [], b, c, _, _, h, _ => by simp [ltB] at h
  | x :: a, [], c, _, _, h, _ => by simp [ltB] at h
  | x :: a, y :: b, [], _, _, _, h => by simp [ltB] at h
  | x :: a, y :: b, z :: c, l1, l2, h1, h2 => by
    simp at l1 l2
    unfold ltB at *
    by_cases e1 : x = y
    · subst e1
      rw [if_pos rfl] at h1
      by_cases e2 : x = z
      · subst e2
        rw [if_pos rfl] at h2 ⊢
        exact ltB_trans l1 l2 h1 h2
      · rw [if_neg e2] at h2 ⊢; exact h2
    · rw [if_neg e1] at h1
      by_cases e2 : y = z
      · subst e2
        rw [if_neg e1]; exact h1
      · rw [if_neg e2] at h2
        have h3 : x < y := of_decide_eq_true h1
        have h4 : y < z := of_decide_eq_true h2
        have h5 : x < z := UInt8.lt_trans h3 h4
        rw [if_neg (UInt8.ne_of_lt h5)]; exact decide_eq_true h5
theorem ltB_total : ∀ {a b : List UInt8}, a.length = b.length → ltB a b = false → ltB b a = false → a = b
  | [], [], _, _, _ => rfl
  | x :: a, [], l, _, _ => by simp at l
  | [], y :: b, l, _, _ => by simp at l
  | x :: a, y :: b, l, h1, h2 => by
    simp at l
    unfold ltB at h1 h2
    by_cases e : x = y
    · subst e
      rw [if_pos rfl] at h1 h2
      rw [ltB_total l h1 h2]
    · rw [if_neg e] at h1
      rw [if_neg (fun h => e h.symm)] at h2
      have h3 := of_decide_eq_false h1
      have h4 := of_decide_eq_false h2
      exact absurd (UInt8.le_antisymm (UInt8.not_lt.1 h4) (UInt8.not_lt.1 h3)) e
def cfH (x y : Hs) : Int := cmpL x.1 y.1
theorem ltH (x y : Hs) : ltOf cfH x y = ltB x.1 y.1 := by
  have := cmpL_ltB x.1 y.1 (by rw [x.2, y.2])
  unfold ltOf cfH; exact this
theorem swoH : SWO (ltOf cfH) where
  irrefl x := by rw [ltH]; exact ltB_irrefl _
  trans x y z h1 h2 := by rw [ltH] at *; exact ltB_trans (by rw [x.2, y.2]) (by rw [y.2, z.2]) h1 h2
  ntrans x y z h1 h2 := by
    rw [ltH] at *
    cases hxz : ltB x.1 z.1 with
    | false => rfl
    | true =>
      cases hyx : ltB y.1 x.1 with
      | false =>
        have e := ltB_total (by rw [x.2, y.2]) h1 hyx
        rw [e] at hxz
        exact (hxz.symm.trans h2)
      | true => exact (ltB_trans (by rw [y.2, x.2]) (by rw [x.2, z.2]) hyx hxz).symm.trans h2
def hsG (l : List Hs) : List (List GVal) := l.map fun x => bytesG x.1
theorem sSort (xs : List Hs) (hsz : xs.length < 4611686018427387904) {O : List GObj} {o st : Nat} (hO : O[o]? = some (.row st 32 (hsG xs))) (hc : clockOf O = none) :
    GCalls Tryd.prog 48 [.own o st 0 xs.length, .func (.func 49) [] []] O (fun r O' => r = .tuple [] ∧ ∃ ys : List Hs, ys.Perm xs ∧ ys.Pairwise (fun a b => ltB b.1 a.1 = false) ∧ O' = O.set o (.row st 32 (hsG ys))) := by
  have h := gcalls_sort (α := Hs) Tryd.sortSp 32 Tryd.isAgg40 Tryd.sizeOf40 (fun x => bytesV x.1) (fun x => bytesG x.1) (fun x => by simp [bytesV, x.2])
    (fun x v hv => by simp only [bytesV, List.mem_map] at hv; obtain ⟨c, _, rfl⟩ := hv; rfl) (fun x => by simp [bytesG, x.2])
    (fun E x j g v hg hv => by
      simp only [bytesG, List.getElem?_map] at hg
      simp only [bytesV, List.getElem?_map]
      cases hq : x.1[j]? with
      | none => rw [hq] at hg; cases hg
      | some c => rw [hq] at hg; simp at hg; subst hg; cases hv; rfl)
    (fun E x j g hg => by
      simp only [bytesG, List.getElem?_map] at hg
      simp only [bytesV, List.getElem?_map]
      cases hq : x.1[j]? with
      | none => rw [hq] at hg; cases hg
      | some c => rw [hq] at hg; simp at hg; subst hg; exact ⟨_, rfl, .int _ _⟩)
    cfH swoH 49 (enters_of Tryd.func49 (by kernel_rfl) rfl) (fun x y W => sortClosure x y W) (by kernel_rfl) xs hsz hO hc
  refine h.mono ?_
  rintro g O' ⟨rfl, ys, h1, h2, rfl⟩
  refine ⟨rfl, ys, h1, h2.imp fun {a b} hab => ?_, rfl⟩
  have := ltH b a
  unfold ltOf at this
  rw [← this]; exact decide_eq_false hab
end Gv.Tryd
set_option linter.unusedVariables false
namespace Gv.Tryd
end Gv.Tryd
/- Contracts: Less, Begins, known, Pick. -/
set_option linter.unusedVariables false
set_option linter.unusedSimpArgs false
set_option maxRecDepth 20000
set_option maxHeartbeats 4000000
namespace Gv.Tryd
open Go Gv Go.Proofs
theorem sol_bytes : ∀ l : List UInt8, allSolid (bytesG l) = True
  | [] => eq_true trivial
  | c :: r => by have := sol_bytes r; simp only [bytesG, List.map_cons, allSolid, GVal.solid, true_and]; exact this
end Gv.Tryd
/- Digits of bytes: the plain theory. -/
set_option linter.unusedVariables false
set_option maxRecDepth 100000
namespace Gv.Tryd
open Go Gv Go.Proofs
theorem cells_eq : ∀ (a b : List UInt8) (n : Nat), a.length = n → b.length = n → cellsEq (List.replicate n Sk.int) (bytesG a) (bytesG b) = some (decide (a = b))
  | [], [], n, h, _ => by subst h; rfl
  | x :: a, [], n, h1, h2 => by simp at h1 h2; omega
  | [], y :: b, n, h1, h2 => by simp at h1 h2; omega
  | x :: a, y :: b, 0, h1, h2 => by simp at h1
  | x :: a, y :: b, n + 1, h1, h2 => by
    have ih := cells_eq a b n (by simpa using h1) (by simpa using h2)
    simp only [bytesG] at ih
    simp only [List.replicate_succ, bytesG, List.map_cons, cellsEq, ceq, if_true, ih]
    congr 1
    have e : (x.toNat : Int) = y.toNat ↔ x = y := ⟨fun h => UInt8.toNat_inj.1 (by omega), fun h => by rw [h]⟩
    rw [Bool.eq_iff_iff]
    simp [e]
end Gv.Tryd
/- HexBack: the walk. -/
set_option linter.unusedVariables false
set_option linter.unusedSimpArgs false
set_option maxRecDepth 20000
set_option maxHeartbeats 4000000
namespace Gv.Tryd
open Go Gv Go.Proofs
theorem cells32 (a b : List UInt8) (ha : a.length = 32) (hb : b.length = 32) : cellsEq [Sk.int, Sk.int, Sk.int, Sk.int, Sk.int, Sk.int, Sk.int, Sk.int, Sk.int, Sk.int, Sk.int, Sk.int, Sk.int, Sk.int, Sk.int, Sk.int, Sk.int, Sk.int, Sk.int, Sk.int, Sk.int, Sk.int, Sk.int, Sk.int, Sk.int, Sk.int, Sk.int, Sk.int, Sk.int, Sk.int, Sk.int, Sk.int] (bytesG a) (bytesG b) = some (decide (a = b)) := cells_eq a b 32 ha hb
end Gv.Tryd
/- Contracts: reference Less, SameHashes, Hash. -/
set_option linter.unusedVariables false
set_option linter.unusedSimpArgs false
set_option maxRecDepth 20000
set_option maxHeartbeats 4000000
namespace Gv.Tryd
open Go Gv Go.Proofs
def h0 : Hs := ⟨List.replicate 32 0, by simp⟩
theorem hsG_len (l : List Hs) : (hsG l).length = l.length := by simp [hsG]
theorem hsG_at (l : List Hs) (i : Nat) (h : i < l.length) : (hsG l).getD i [] = bytesG (l.getD i h0).1 := by simp [hsG, List.getD, h]
theorem all_hsG (l : List Hs) : (∀ x ∈ hsG l, x.length = 32) = True := eq_true fun x hx => by obtain ⟨s, _, rfl⟩ := List.mem_map.1 hx; rw [bytesG_len, s.2]
theorem hsG_app (a b : List Hs) : hsG (a ++ b) = hsG a ++ hsG b := by simp [hsG]
theorem cellsEq_hs (a b : Hs) : cellsEq [Sk.int, Sk.int, Sk.int, Sk.int, Sk.int, Sk.int, Sk.int, Sk.int, Sk.int, Sk.int, Sk.int, Sk.int, Sk.int, Sk.int, Sk.int, Sk.int, Sk.int, Sk.int, Sk.int, Sk.int, Sk.int, Sk.int, Sk.int, Sk.int, Sk.int, Sk.int, Sk.int, Sk.int, Sk.int, Sk.int, Sk.int, Sk.int] (bytesG a.1) (bytesG b.1) = some (decide (a = b)) := by
  refine (cells32 a.1 b.1 a.2 b.2).trans ?_
  exact congrArg some (decide_eq_decide.2 ⟨Subtype.ext, fun h => by rw [h]⟩)
theorem take32 (a : Hs) : List.take 32 (bytesG a.1) = bytesG a.1 := List.take_of_length_le (by rw [bytesG_len, a.2]; omega)
theorem len32 (a : Hs) : (bytesG a.1).length = 32 := by rw [bytesG_len, a.2]
theorem takeH {l : List Hs} {k : Nat} (h : k < l.length) : l.take (k + 1) = l.take k ++ [l.getD k h0] := by
  rw [List.take_add_one]; simp [List.getD, h]
theorem dropH {l : List Hs} {k : Nat} (h : k < l.length) : l.drop k = l.getD k h0 :: l.drop (k + 1) := by
  rw [List.drop_eq_getElem_cons h]; simp [List.getD, h]
end Gv.Tryd
/- Contracts: reference Put, Sort. -/
set_option linter.unusedVariables false
set_option linter.unusedSimpArgs false
set_option maxRecDepth 20000
set_option maxHeartbeats 4000000
namespace Gv.Tryd
open Go Gv Go.Proofs
def idxH : List Hs → Hs → Nat
  | [], _ => 0
  | x :: r, h => if ltB x.1 h.1 = true then idxH r h + 1 else 0
def putH (l : List Hs) (h : Hs) : List Hs :=
  if idxH l h < l.length ∧ l.getD (idxH l h) h0 = h then l else l.take (idxH l h) ++ [h] ++ l.drop (idxH l h)
theorem take_hs (l : List Hs) (n : Nat) : (hsG l).take n = hsG (l.take n) := by simp [hsG, List.map_take]
theorem toNat0 : Int.toNat 0 = 0 := rfl
theorem idxH_cons (x : Hs) (r : List Hs) (h : Hs) : idxH (x :: r) h = if ltB x.1 h.1 = true then idxH r h + 1 else 0 := rfl
def sortR (l : List Hs) : List Hs := l.foldl putH []
end Gv.Tryd
/- Hashes in order, each once: the plain theory. -/
set_option linter.unusedVariables false
namespace Gv.Tryd
open Go Gv Go.Proofs
abbrev LT (a b : Hs) : Prop := ltB a.1 b.1 = true
abbrev SS (l : List Hs) : Prop := l.Pairwise LT
theorem LT.trans {a b c : Hs} (h : LT a b) (k : LT b c) : LT a c := ltB_trans (by rw [a.2, b.2]) (by rw [b.2, c.2]) h k
theorem LT.irrefl (a : Hs) : ¬ LT a a := by unfold LT; rw [ltB_irrefl]; simp
theorem LT.total {a b : Hs} (h : ltB a.1 b.1 = false) (n : a ≠ b) : LT b a := by
  cases e : ltB b.1 a.1 with
  | true => exact e
  | false => exact absurd (Subtype.ext (ltB_total (by rw [a.2, b.2]) h e)) n
theorem putH_nil (h : Hs) : putH [] h = [h] := by simp [putH]
theorem putH_cons (x : Hs) (r : List Hs) (h : Hs) : putH (x :: r) h = if LT x h then x :: putH r h else if x = h then x :: r else h :: x :: r := by
  unfold putH
  rw [idxH_cons]
  by_cases c : LT x h
  · rw [if_pos c, if_pos c]
    simp only [List.length_cons, List.getD_cons_succ, Nat.add_lt_add_iff_right, List.take_succ_cons, List.drop_succ_cons, List.cons_append]
    split <;> rfl
  · rw [if_neg c, if_neg c]
    simp
theorem putH_mem : ∀ (l : List Hs) (h z : Hs), z ∈ putH l h ↔ z ∈ l ∨ z = h
  | [], h, z => by rw [putH_nil]; simp
  | x :: r, h, z => by
    rw [putH_cons]
    have := putH_mem r h z
    split
    · simp only [List.mem_cons, this, or_assoc]
    · split
      · rename_i e; subst e; simp only [List.mem_cons]
        constructor
        · exact .inl
        · rintro (h | h)
          · exact h
          · exact .inl h
      · simp only [List.mem_cons]
        constructor
        · rintro (h | h)
          · exact .inr h
          · exact .inl h
        · rintro (h | h)
          · exact .inr h
          · exact .inl h
theorem putH_ss : ∀ {l : List Hs} (h : Hs), SS l → SS (putH l h)
  | [], h, _ => by rw [putH_nil]; simp [SS]
  | x :: r, h, hs => by
    rw [putH_cons]
    obtain ⟨h1, h2⟩ := List.pairwise_cons.1 hs
    split
    · rename_i c
      refine List.pairwise_cons.2 ⟨fun z hz => ?_, putH_ss h h2⟩
      rcases (putH_mem r h z).1 hz with h3 | rfl
      · exact h1 z h3
      · exact c
    · rename_i c
      split
      · exact hs
      · rename_i n
        have c' : ltB x.1 h.1 = false := by cases e : ltB x.1 h.1 with | true => exact absurd e c | false => rfl
        have hx := LT.total c' n
        refine List.pairwise_cons.2 ⟨fun z hz => ?_, hs⟩
        rcases List.mem_cons.1 hz with rfl | h3
        · exact hx
        · exact hx.trans (h1 z h3)
theorem foldl_put : ∀ (l acc : List Hs), SS acc → SS (l.foldl putH acc) ∧ ∀ z, z ∈ l.foldl putH acc ↔ z ∈ l ∨ z ∈ acc
  | [], acc, h => ⟨h, by simp⟩
  | x :: r, acc, h => by
    obtain ⟨h1, h2⟩ := foldl_put r (putH acc x) (putH_ss x h)
    refine ⟨h1, fun z => ?_⟩
    rw [List.foldl_cons, h2, putH_mem, List.mem_cons]
    constructor
    · rintro (h | h | h)
      · exact .inl (.inr h)
      · exact .inr h
      · exact .inl (.inl h)
    · rintro ((h | h) | h)
      · exact .inr (.inr h)
      · exact .inl h
      · exact .inr (.inl h)
theorem sortR_ss (l : List Hs) : SS (sortR l) := (foldl_put l [] List.Pairwise.nil).1
theorem sortR_mem (l : List Hs) (z : Hs) : z ∈ sortR l ↔ z ∈ l := by
  have := (foldl_put l [] List.Pairwise.nil).2 z
  simpa [sortR] using this
theorem ss_eq : ∀ {a b : List Hs}, SS a → SS b → (∀ z, z ∈ a ↔ z ∈ b) → a = b
  | [], b, _, _, h => by
    cases b with
    | nil => rfl
    | cons y s => exact absurd ((h y).2 (by simp)) (by simp)
  | x :: r, [], _, _, h => absurd ((h x).1 (by simp)) (by simp)
  | x :: r, y :: s, ha, hb, h => by
    obtain ⟨a1, a2⟩ := List.pairwise_cons.1 ha
    obtain ⟨b1, b2⟩ := List.pairwise_cons.1 hb
    have e : x = y := by
      rcases List.mem_cons.1 ((h x).1 (by simp)) with e | hx
      · exact e
      · rcases List.mem_cons.1 ((h y).2 (by simp)) with e | hy
        · exact e.symm
        · exact absurd ((b1 x hx).trans (a1 y hy)) (LT.irrefl y)
    subst e
    refine congrArg (x :: ·) (ss_eq a2 b2 fun z => ⟨fun hz => ?_, fun hz => ?_⟩)
    · rcases List.mem_cons.1 ((h z).1 (List.mem_cons_of_mem _ hz)) with rfl | h3
      · exact absurd (a1 z hz) (LT.irrefl z)
      · exact h3
    · rcases List.mem_cons.1 ((h z).2 (List.mem_cons_of_mem _ hz)) with rfl | h3
      · exact absurd (b1 z hz) (LT.irrefl z)
      · exact h3
def ddT : Hs → List Hs → List Hs
  | _, [] => []
  | x, y :: r => if y = x then ddT y r else y :: ddT y r
theorem ddT_cons (x y : Hs) (r : List Hs) : ddT x (y :: r) = if y = x then ddT y r else y :: ddT y r := rfl
def dd : List Hs → List Hs
  | [] => []
  | x :: r => x :: ddT x r
abbrev WS (l : List Hs) : Prop := l.Pairwise (fun a b => ltB b.1 a.1 = false)
theorem ddT_ss : ∀ (x : Hs) (r : List Hs), WS (x :: r) → SS (x :: ddT x r) ∧ ∀ z, z ∈ x :: ddT x r ↔ z ∈ x :: r
  | x, [], _ => ⟨by simp [ddT, SS], by simp [ddT]⟩
  | x, y :: r, h => by
    obtain ⟨h1, h2⟩ := List.pairwise_cons.1 h
    obtain ⟨i1, i2⟩ := ddT_ss y r h2
    rw [ddT_cons]
    split
    · rename_i e; subst e
      refine ⟨i1, fun z => ?_⟩
      rw [i2]; simp
    · rename_i n
      have hxy : LT x y := LT.total (h1 y (by simp)) n
      refine ⟨List.pairwise_cons.2 ⟨fun z hz => ?_, i1⟩, fun z => ?_⟩
      · rcases List.mem_cons.1 hz with rfl | h3
        · exact hxy
        · exact hxy.trans ((List.pairwise_cons.1 i1).1 z h3)
      · rw [List.mem_cons, i2, List.mem_cons (a := z) (b := x)]
theorem dd_sortR {ys l : List Hs} (hp : ys.Perm l) (hw : WS ys) : dd ys = sortR l := by
  refine ss_eq ?_ (sortR_ss l) fun z => ?_
  · cases ys with
    | nil => exact List.Pairwise.nil
    | cons x r => exact (ddT_ss x r hw).1
  · rw [sortR_mem, ← hp.mem_iff]
    cases ys with
    | nil => rfl
    | cons x r => exact (ddT_ss x r hw).2 z
end Gv.Tryd
/- Contracts: Clone, Compact, hex.Sort. -/
set_option linter.unusedVariables false
set_option linter.unusedSimpArgs false
set_option maxRecDepth 20000
set_option maxHeartbeats 4000000
namespace Gv.Tryd
open Go Gv Go.Proofs
theorem hClone (l : List Hs) (t : Tag) (hl : l.length ≤ 4398046511104) (ht : t = .nil → l = []) : GCalls Tryd.prog 32 [.slice (hsG l) t] [] (fun g O' => (l = [] ∧ g = .slice [] .nil ∧ O' = []) ∨ ∃ st, g = .own 0 st 0 l.length ∧ O' = [.row st 32 (hsG l)]) := by
  refine h32.calls mixS (by simp) ?_
  simp only [gstart, s32, List.cons_append, List.nil_append, List.length_cons, List.length_nil, Nat.reduceAdd, Nat.reduceSub, List.replicate_succ, List.replicate_zero]
  simp +contextual -implicitDefEqProofs (maxSteps := 2000000) (disch := omega) only [binV, optV, ↓buildSliceV, ↓sliceV, ↓appendV, ↓srcV, bound, cutTag, hiTag, fillE, GVal.cells, grp, GVal.ofConst, ↓resV, resG, List.map, List.headD, List.take, List.drop, ↓reduceIte, Nat.reduceEqDiff, Nat.reduceAdd, Nat.reduceSub, Nat.reduceLeDiff, reduceCtorEq, implies_true, ne_eq, ↓asrcV, aggV, Tag.cap, List.replicate, allSolid, GVal.solid, Nat.reduceBEq, Nat.reduceMul, Nat.reduceLT, List.length_map, List.length_range, splice, vcA, ↓vcB, vcC, fbFu, e32, hsG_len, all_hsG]
  refine ⟨fun h => .inl (ht h), fun _ => ⟨fun h => ?_, fun h => ⟨by omega, by omega, by simp, fun st => .inr ⟨st, rfl, rfl⟩⟩⟩⟩
  have h0 : l = [] := by
    cases l with
    | nil => rfl
    | cons a r => simp [hsG] at h
  exact ⟨.inl h0, .inr trivial, fun st => .inr ⟨st, by rw [h0]; rfl, rfl⟩⟩
theorem hSortNil {st : Nat} : GCalls Tryd.prog 48 [.own 0 st 0 0, .func (.func 49) [] []] [.row st 32 []] (fun r O' => r = .tuple [] ∧ O' = [.row st 32 []]) := by
  refine (sSort [] (by simp) (O := [.row st 32 []]) (o := 0) rfl rfl).mono ?_
  rintro g O' ⟨rfl, ys, h1, h2, rfl⟩
  rw [h1.eq_nil]; exact ⟨rfl, rfl⟩
theorem GCalls.nilArg {P : Program} {f : FuncId} {rest : List GVal} {sz : Nat} {K : GVal → List GObj → Prop} (h : ∀ t, GCalls P f (.own 0 t 0 0 :: rest) [.row t sz []] K) : GCalls P f (.slice [] .nil :: rest) [] K := by
  refine ⟨(h 0).1, fun E w vs hs ha => ?_⟩
  obtain ⟨t, hk, ht, hnx, hs, hkeep⟩ := hs.stamp (K := fun t => GCalls P f (.own 0 t 0 0 :: rest) [.row t sz []] K) (show Gv.stamp [] _ from h)
  obtain ⟨h1, h2⟩ := hs.objNil (.row t sz []) (l := ⟨none, 0, sz, 0⟩) ht hnx rfl ⟨_, Env.addLoc_self _ _ _, rfl, by simp, rfl⟩ (by simp [GObj.blk, Env.addLoc_self])
  have ha' : ArgsR (E.addLoc t ⟨none, 0, sz, 0⟩) vs (.own 0 t 0 0 :: rest) := by
    refine ⟨by rw [ha.1]; simp, fun k g hg => ?_⟩
    cases k with
    | zero =>
      simp at hg; subst hg
      have := ha.2 0 _ rfl
      revert this
      generalize vs.getD 0 undef = tv
      intro this
      cases this with
      | slice a len cap xs tag sz c hlen hcap hsz ha hc htag =>
        obtain ⟨_, h1⟩ := htag
        have h0 : len = 0 := by simpa using hlen
        subst h0
        exact .own a 0 cap _ t 0 _ (Env.addLoc_self _ _ _) (Nat.zero_le _) (.inl h1)
    | succ k => exact (ha.2 (k + 1) g (by simpa using hg)).mono h2.ext
  refine (hk.2 _ w vs h1 ha').mono ?_
  rintro e w' ⟨v, E', O', g, q1, q2, q3, q4, q5⟩
  exact ⟨v, E', O', g, q1, q2, (hkeep.trans h2).trans q3, q4, q5⟩
theorem getD_set_ne {l : List Hs} {i j : Nat} {a : Hs} (h : i ≠ j) : (l.set i a).getD j h0 = l.getD j h0 := by
  simp [List.getD, List.getElem?_set, h]
theorem getD_set_eq {l : List Hs} {i : Nat} {a : Hs} (h : i < l.length) : (l.set i a).getD i h0 = a := by
  simp [List.getD, List.getElem?_set, h]
theorem hsG_set (l : List Hs) (i : Nat) (s : Hs) : (hsG l).set i (bytesG s.1) = hsG (l.set i s) := by simp [hsG, List.map_set]
theorem dd_len1 {ys : List Hs} (h : ys.length < 2) : dd ys = ys := by
  match ys, h with
  | [], _ => rfl
  | [x], _ => rfl
theorem hCompact (ys : List Hs) (hl : ys.length ≤ 4398046511104) (st : Nat) :
    GCalls Tryd.prog 51 [.own 0 st 0 ys.length] [.row st 32 (hsG ys)] (fun g O' => g = .own 0 st 0 (dd ys).length ∧ O' = [.row st 32 (hsG (dd ys))]) := by
  refine h51.calls mixS (by simp) ?_
  simp only [gstart, s51, List.cons_append, List.nil_append, List.length_cons, List.length_nil, Nat.reduceAdd, Nat.reduceSub, List.replicate_succ, List.replicate_zero]
  simp +contextual -implicitDefEqProofs (maxSteps := 2000000) (disch := omega) only [drawC, drawK, keepT, ↓op_clear, ↓lenV, binV, optV, ↓loadV, ↓storeV, ↓indexAddrV, ↓sliceV, bound, cutTag, hiTag, GVal.cells, grp, GVal.ofConst, ↓resV, resG, List.map, List.headD, List.take, List.drop, ↓reduceIte, Nat.reduceEqDiff, Nat.reduceAdd, Nat.reduceSub, Nat.reduceLeDiff, reduceCtorEq, implies_true, ne_eq, ↓clearV, aggV, Tag.cap, List.replicate, allSolid, GVal.solid, Nat.reduceBEq, Nat.reduceMul, Nat.reduceLT, List.length_map, List.length_range, splice, vcA, ↓vcB, vcC, fbFu, e51, hsG_len, all_hsG]
  refine ⟨fun h => by rw [dd_len1 (by omega)]; exact ⟨rfl, rfl⟩, fun hn => ?_⟩
  refine vcSLoop_by (ι := { k : Nat // 1 ≤ k ∧ k ≤ ys.length ∧ dd ys = ys.take k ++ ddT (ys.getD (k - 1) h0) (ys.drop k) }) (fun k => ⟨[.own 0 st 0 ys.length, .any, .any, .int .i64 (k.1 : Nat)] ++ List.replicate 57 .any, [.row st 32 (hsG ys)]⟩) (fun k => ys.length - k.1) ?_ ?_
  · refine Into.first ⟨1, by omega, by omega, ?_⟩ ⟨[], by simp⟩ (by simp [WL, leG_self, leG_any, leG_int])
    match ys, hn with
    | x :: r, _ => rfl
  · rintro ⟨k, hk1, hk, he⟩
    by_cases h' : k < ys.length
    · have d0 : ((k : Int) < (ys.length : Int)) = True := eq_true (by omega)
      have ea := hsG_at ys k h'
      have eb := hsG_at ys (k - 1) (by omega)
      rw [dropH h', ddT_cons] at he
      obtain ⟨x, ex⟩ : ∃ x, ys.getD k h0 = x := ⟨_, rfl⟩
      obtain ⟨y, ey⟩ : ∃ y, ys.getD (k - 1) h0 = y := ⟨_, rfl⟩
      rw [ex] at ea he
      rw [ey] at eb he
      have tn : ((k : Int) - 1).toNat = k - 1 := by omega
      simp +contextual -implicitDefEqProofs (maxSteps := 2000000) (disch := omega) only [drawC, drawK, keepT, ↓op_clear, ↓lenV, binV, optV, ↓loadV, ↓storeV, ↓indexAddrV, ↓sliceV, bound, cutTag, hiTag, GVal.cells, grp, GVal.ofConst, ↓resV, resG, List.map, List.headD, List.take, List.drop, ↓reduceIte, Nat.reduceEqDiff, Nat.reduceAdd, Nat.reduceSub, Nat.reduceLeDiff, reduceCtorEq, implies_true, ne_eq, ↓clearV, aggV, Tag.cap, List.replicate, allSolid, GVal.solid, Nat.reduceBEq, Nat.reduceMul, Nat.reduceLT, List.length_map, List.length_range, splice, vcA, ↓vcB, vcC, fbFu, e51, hsG_len, d0, ea, eb, tn, all_hsG, take32, len32, cellsEq_hs x y, Nat.zero_add]
      refine ⟨by omega, by omega, by omega, by omega, by omega, by omega, by omega, fun c => ⟨by omega, by omega, by omega, ?_⟩, fun c => ?_⟩
      · rw [if_pos c] at he
        refine vcSLoop_by (ι := { p : Nat × Nat × List Hs // 1 ≤ p.2.1 ∧ k + p.2.1 ≤ ys.length ∧ p.1 + 1 ≤ k + p.2.1 ∧ p.2.2.length = ys.length ∧ (∀ i, k + p.2.1 ≤ i + 1 → p.2.2.getD i h0 = ys.getD i h0) ∧ dd ys = p.2.2.take p.1 ++ ddT (ys.getD (k + p.2.1 - 1) h0) (ys.drop (k + p.2.1)) }) (fun p => ⟨[.own 0 st 0 ys.length, .any, .any, .int .i64 (p.1.1 : Nat), .own 0 st k (ys.length - k), .int .i64 (p.1.2.1 : Nat)] ++ List.replicate 55 .any, [.row st 32 (hsG p.1.2.2)]⟩) (fun p => ys.length - p.1.2.1) ?_ ?_
        · refine Into.first ⟨(k, 1, ys), by show 1 ≤ 1; omega, by show k + 1 ≤ _; omega, by show k + 1 ≤ k + 1; omega, rfl, fun _ _ => rfl, ?_⟩ ⟨[], by simp⟩ (by simp [WL, leG_self, leG_any, leG_int])
          show dd ys = ys.take k ++ ddT (ys.getD (k + 1 - 1) h0) (ys.drop (k + 1))
          rw [he, Nat.add_sub_cancel, ex, c]
        · rintro ⟨⟨w, q, zs⟩, hq1, hq, hw, hz, hu, hd⟩
          simp only [] at hq1 hq hw hz hu hd
          by_cases h2 : q < ys.length - k
          · have d1 : ((q : Int) < ((ys.length - k : Nat) : Int)) = True := eq_true (by omega)
            have ea := hsG_at zs (k + q) (by omega)
            have eb := hsG_at zs (k + (q - 1)) (by omega)
            rw [dropH (by omega), ddT_cons, ← hu (k + q) (by omega)] at hd
            obtain ⟨x2, ex2⟩ : ∃ x, zs.getD (k + q) h0 = x := ⟨_, rfl⟩
            have ey2 : zs.getD (k + (q - 1)) h0 = ys.getD (k + q - 1) h0 := by rw [hu _ (by omega)]; congr 1; omega
            obtain ⟨y2, ey3⟩ : ∃ x, ys.getD (k + q - 1) h0 = x := ⟨_, rfl⟩
            rw [ex2] at ea hd
            rw [ey2, ey3] at eb
            rw [ey3] at hd
            have tn : ((q : Int) - 1).toNat = q - 1 := by omega
            have ew : List.drop 32 ((hsG zs).getD w []) = [] := by rw [hsG_at zs w (by omega)]; exact List.drop_of_length_le (by rw [len32]; omega)
            simp +contextual -implicitDefEqProofs (maxSteps := 2000000) (disch := omega) only [drawC, drawK, keepT, ↓op_clear, ↓lenV, binV, optV, ↓loadV, ↓storeV, ↓indexAddrV, ↓sliceV, bound, cutTag, hiTag, GVal.cells, grp, GVal.ofConst, ↓resV, resG, List.map, List.headD, List.take, List.drop, ↓reduceIte, Nat.reduceEqDiff, Nat.reduceAdd, Nat.reduceSub, Nat.reduceLeDiff, reduceCtorEq, implies_true, ne_eq, ↓clearV, aggV, Tag.cap, List.replicate, allSolid, GVal.solid, Nat.reduceBEq, Nat.reduceMul, Nat.reduceLT, List.length_map, List.length_range, splice, vcA, ↓vcB, vcC, fbFu, e51, hsG_len, hz, d1, ea, eb, tn, all_hsG, take32, len32, cellsEq_hs x2 y2, Nat.zero_add, ew, List.append_nil, hsG_set]
            refine ⟨by omega, by omega, by omega, by omega, by omega, by omega, by omega, fun c2 => ?_, fun c2 => ?_⟩
            · rw [if_pos c2] at hd
              refine Into.at ⟨(w, q + 1, zs), by show 1 ≤ q + 1; omega, by show k + (q + 1) ≤ _; omega, by show w + 1 ≤ k + (q + 1); omega, hz, fun i hi => hu i (by have : k + (q + 1) ≤ i + 1 := hi; omega), ?_⟩ (by show _ < _; simp; omega) ⟨[], by simp⟩ (by simp [WL, leG_self, leG_any, leG_int])
              show dd ys = zs.take w ++ ddT (ys.getD (k + (q + 1) - 1) h0) (ys.drop (k + (q + 1)))
              have e1 : k + (q + 1) - 1 = k + q := by omega
              have e2 : k + (q + 1) = k + q + 1 := by omega
              rw [hd, e1, e2, ← hu (k + q) (by omega), ex2]
            · rw [if_neg c2] at hd
              refine ⟨by omega, by omega, by omega, by omega, by omega, by omega, by rw [sol_bytes]; trivial, by omega, by rw [hsG_at zs w (by omega), len32]; omega, ?_⟩
              refine Into.at ⟨(w + 1, q + 1, zs.set w x2), by show 1 ≤ q + 1; omega, by show k + (q + 1) ≤ _; omega, by show w + 1 + 1 ≤ k + (q + 1); omega, by show (zs.set w x2).length = _; rw [List.length_set, hz], fun i hi => ?_, ?_⟩ (by show _ < _; simp; omega) ⟨[], by simp⟩ (by simp [WL, leG_self, leG_any, leG_int])
              · have hi' : k + (q + 1) ≤ i + 1 := hi
                show (zs.set w x2).getD i h0 = _
                rw [getD_set_ne (by omega), hu i (by omega)]
              · show dd ys = (zs.set w x2).take (w + 1) ++ ddT (ys.getD (k + (q + 1) - 1) h0) (ys.drop (k + (q + 1)))
                have e1 : k + (q + 1) - 1 = k + q := by omega
                have e2 : k + (q + 1) = k + q + 1 := by omega
                rw [hd, e1, e2, ← hu (k + q) (by omega), ex2, takeH (by rw [List.length_set]; omega), List.take_set_of_le (by omega), getD_set_eq (by omega), List.append_assoc]; rfl
          · have d1 : ((q : Int) < ((ys.length - k : Nat) : Int)) = False := eq_false (by omega)
            simp +contextual -implicitDefEqProofs (maxSteps := 2000000) (disch := omega) only [drawC, drawK, keepT, ↓op_clear, ↓lenV, binV, optV, ↓loadV, ↓storeV, ↓indexAddrV, ↓sliceV, bound, cutTag, hiTag, GVal.cells, grp, GVal.ofConst, ↓resV, resG, List.map, List.headD, List.take, List.drop, ↓reduceIte, Nat.reduceEqDiff, Nat.reduceAdd, Nat.reduceSub, Nat.reduceLeDiff, reduceCtorEq, implies_true, ne_eq, ↓clearV, aggV, Tag.cap, List.replicate, allSolid, GVal.solid, Nat.reduceBEq, Nat.reduceMul, Nat.reduceLT, List.length_map, List.length_range, splice, vcA, ↓vcB, vcC, fbFu, e51, hsG_len, hz, d1, false_imp_iff, true_and, take_hs]
            rw [List.drop_of_length_le (by omega)] at hd
            have e : dd ys = zs.take w := by rw [hd]; simp [ddT]
            refine ⟨by omega, by omega, by omega, by omega, by omega, by omega, ?_, by rw [e]⟩
            have e2 : (dd ys).length = w := by rw [e, List.length_take]; omega
            rw [e2]; rfl
      · rw [if_neg c] at he
        refine Into.at ⟨k + 1, by omega, by omega, ?_⟩ (by show _ < _; simp; omega) ⟨[], by simp⟩ (by simp [WL, leG_self, leG_any, leG_int])
        rw [takeH h', he, Nat.add_sub_cancel, ex, List.append_assoc]; rfl
    · have d0 : ((k : Int) < (ys.length : Int)) = False := eq_false (by omega)
      rw [List.drop_of_length_le (by omega), List.take_of_length_le (by omega)] at he
      simp +contextual -implicitDefEqProofs (maxSteps := 2000000) (disch := omega) only [drawC, drawK, keepT, ↓op_clear, ↓lenV, binV, optV, ↓loadV, ↓storeV, ↓indexAddrV, ↓sliceV, bound, cutTag, hiTag, GVal.cells, grp, GVal.ofConst, ↓resV, resG, List.map, List.headD, List.take, List.drop, ↓reduceIte, Nat.reduceEqDiff, Nat.reduceAdd, Nat.reduceSub, Nat.reduceLeDiff, reduceCtorEq, implies_true, ne_eq, ↓clearV, aggV, Tag.cap, List.replicate, allSolid, GVal.solid, Nat.reduceBEq, Nat.reduceMul, Nat.reduceLT, List.length_map, List.length_range, splice, vcA, ↓vcB, vcC, fbFu, e51, hsG_len, d0, false_imp_iff, true_and]
      have e : dd ys = ys := by rw [he]; simp [ddT]
      rw [e]; exact ⟨rfl, rfl⟩
theorem hCompactNil : GPure Tryd.prog 51 [.slice [] .nil] (.slice [] .none) := by
  refine h51.pure mixS (by simp) ?_
  simp only [gstart, s51, List.cons_append, List.nil_append, List.length_cons, List.length_nil, Nat.reduceAdd, Nat.reduceSub, List.replicate_succ, List.replicate_zero]
  simp +contextual -implicitDefEqProofs (maxSteps := 2000000) (disch := omega) only [drawC, drawK, keepT, ↓op_clear, ↓lenV, binV, optV, ↓loadV, ↓storeV, ↓indexAddrV, ↓sliceV, bound, cutTag, hiTag, GVal.cells, grp, GVal.ofConst, ↓resV, resG, List.map, List.headD, List.take, List.drop, ↓reduceIte, Nat.reduceEqDiff, Nat.reduceAdd, Nat.reduceSub, Nat.reduceLeDiff, reduceCtorEq, implies_true, ne_eq, ↓clearV, aggV, Tag.cap, List.replicate, allSolid, GVal.solid, Nat.reduceBEq, Nat.reduceMul, Nat.reduceLT, List.length_map, List.length_range, splice, vcA, ↓vcB, vcC, fbFu, e51]
  exact fun h => absurd h (by omega)
theorem cSort (l : List Hs) (t : Tag) (hl : l.length ≤ 4398046511104) (ht : t = .nil → l = []) : GCalls Tryd.prog 29 [.slice (hsG l) t] [] (fun g O' => (l = [] ∧ g = .slice [] .none) ∨ ∃ st ys, List.Perm ys l ∧ ys.Pairwise (fun a b => ltB b.1 a.1 = false) ∧ g = .own 0 st 0 (dd ys).length ∧ O' = [.row st 32 (hsG (dd ys))]) := by
  refine h29.calls mixS (by simp) ?_
  simp only [gstart, s29, List.cons_append, List.nil_append, List.length_cons, List.length_nil, Nat.reduceAdd, Nat.reduceSub, List.replicate_succ, List.replicate_zero]
  simp +contextual -implicitDefEqProofs (maxSteps := 2000000) (disch := omega) only [optV, ↓sliceV, bound, cutTag, hiTag, GVal.cells, grp, GVal.ofConst, ↓resV, resG, List.map, List.headD, List.take, List.drop, ↓reduceIte, Nat.reduceEqDiff, Nat.reduceAdd, Nat.reduceSub, Nat.reduceLeDiff, reduceCtorEq, implies_true, ne_eq, Tag.cap, List.replicate, allSolid, GVal.solid, Nat.reduceBEq, Nat.reduceMul, Nat.reduceLT, List.length_map, List.length_range, splice, vcA, ↓vcB, vcC, fbFu, e29]
  refine (hClone l t hl ht).mono ?_
  rintro g O' (⟨rfl, rfl, rfl⟩ | ⟨st, rfl, rfl⟩)
  · simp +contextual -implicitDefEqProofs (maxSteps := 2000000) (disch := omega) only [optV, ↓sliceV, bound, cutTag, hiTag, GVal.cells, grp, GVal.ofConst, ↓resV, resG, List.map, List.headD, List.take, List.drop, ↓reduceIte, Nat.reduceEqDiff, Nat.reduceAdd, Nat.reduceSub, Nat.reduceLeDiff, reduceCtorEq, implies_true, ne_eq, Tag.cap, List.replicate, allSolid, GVal.solid, Nat.reduceBEq, Nat.reduceMul, Nat.reduceLT, List.length_map, List.length_range, splice, vcA, ↓vcB, vcC, fbFu, e29]
    refine GCalls.nilArg (sz := 32) fun st => hSortNil.mono ?_
    rintro g O' ⟨rfl, rfl⟩
    simp +contextual -implicitDefEqProofs (maxSteps := 2000000) (disch := omega) only [optV, ↓sliceV, bound, cutTag, hiTag, GVal.cells, grp, GVal.ofConst, ↓resV, resG, List.map, List.headD, List.take, List.drop, ↓reduceIte, Nat.reduceEqDiff, Nat.reduceAdd, Nat.reduceSub, Nat.reduceLeDiff, reduceCtorEq, implies_true, ne_eq, Tag.cap, List.replicate, allSolid, GVal.solid, Nat.reduceBEq, Nat.reduceMul, Nat.reduceLT, List.length_map, List.length_range, splice, vcA, ↓vcB, vcC, fbFu, e29]
    refine hCompactNil.then ?_ (by rfl)
    simp +contextual -implicitDefEqProofs (maxSteps := 2000000) (disch := omega) only [optV, ↓sliceV, bound, cutTag, hiTag, GVal.cells, grp, GVal.ofConst, ↓resV, resG, List.map, List.headD, List.take, List.drop, ↓reduceIte, Nat.reduceEqDiff, Nat.reduceAdd, Nat.reduceSub, Nat.reduceLeDiff, reduceCtorEq, implies_true, ne_eq, Tag.cap, List.replicate, allSolid, GVal.solid, Nat.reduceBEq, Nat.reduceMul, Nat.reduceLT, List.length_map, List.length_range, splice, vcA, ↓vcB, vcC, fbFu, e29]
    exact .inl trivial
  · simp +contextual -implicitDefEqProofs (maxSteps := 2000000) (disch := omega) only [optV, ↓sliceV, bound, cutTag, hiTag, GVal.cells, grp, GVal.ofConst, ↓resV, resG, List.map, List.headD, List.take, List.drop, ↓reduceIte, Nat.reduceEqDiff, Nat.reduceAdd, Nat.reduceSub, Nat.reduceLeDiff, reduceCtorEq, implies_true, ne_eq, Tag.cap, List.replicate, allSolid, GVal.solid, Nat.reduceBEq, Nat.reduceMul, Nat.reduceLT, List.length_map, List.length_range, splice, vcA, ↓vcB, vcC, fbFu, e29]
    refine (sSort l (by omega) rfl rfl).mono ?_
    rintro _ _ ⟨rfl, ys, hp, hw, rfl⟩
    have hpl := hp.length_eq
    simp +contextual -implicitDefEqProofs (maxSteps := 2000000) (disch := omega) only [optV, ↓sliceV, bound, cutTag, hiTag, GVal.cells, grp, GVal.ofConst, ↓resV, resG, List.map, List.headD, List.take, List.drop, ↓reduceIte, Nat.reduceEqDiff, Nat.reduceAdd, Nat.reduceSub, Nat.reduceLeDiff, reduceCtorEq, implies_true, ne_eq, Tag.cap, List.replicate, allSolid, GVal.solid, Nat.reduceBEq, Nat.reduceMul, Nat.reduceLT, List.length_map, List.length_range, splice, vcA, ↓vcB, vcC, fbFu, e29]
    rw [← hpl]
    refine (hCompact ys (by omega) st).mono ?_
    rintro g O' ⟨rfl, rfl⟩
    simp +contextual -implicitDefEqProofs (maxSteps := 2000000) (disch := omega) only [optV, ↓sliceV, bound, cutTag, hiTag, GVal.cells, grp, GVal.ofConst, ↓resV, resG, List.map, List.headD, List.take, List.drop, ↓reduceIte, Nat.reduceEqDiff, Nat.reduceAdd, Nat.reduceSub, Nat.reduceLeDiff, reduceCtorEq, implies_true, ne_eq, Tag.cap, List.replicate, allSolid, GVal.solid, Nat.reduceBEq, Nat.reduceMul, Nat.reduceLT, List.length_map, List.length_range, splice, vcA, ↓vcB, vcC, fbFu, e29]
    exact .inr ⟨st, ys, hp, hw, rfl, rfl⟩
theorem frzL_same {f : GVal → Option GVal} : ∀ {xs : List GVal}, (∀ x ∈ xs, f x = some x) → frzL f xs = some xs
  | [], _ => rfl
  | x :: xs, h => by rw [frzL, h x (by simp), frzL_same fun y hy => h y (by simp [hy])]
theorem frz_hs (O : List GObj) (n : Nat) (l : List Hs) : frzLL (Gv.frz O (n + 1)) (hsG l) = some (hsG l) :=
  frzLL_same fun x hx => by
    obtain ⟨s, _, rfl⟩ := List.mem_map.1 hx
    exact frzL_same fun y hy => by
      obtain ⟨c, _, rfl⟩ := List.mem_map.1 hy
      simp only [Gv.frz]
theorem hSort (l : List Hs) (t : Tag) (hl : l.length ≤ 4398046511104) (ht : t = .nil → l = []) : GPure Tryd.prog 29 [.slice (hsG l) t] (.slice (hsG (sortR l)) .none) :=
  GCalls.toPure ((cSort l t hl ht).mono fun g O' h => by
    rcases h with ⟨rfl, rfl⟩ | ⟨st, ys, hp, hw, rfl, rfl⟩
    · exact ⟨4, .slice [] .none, by rw [Gv.frz]; rfl, by rw [leA_slice]; rfl⟩
    · rw [dd_sortR hp hw]
      exact ⟨4, .slice (hsG (sortR l)) .none, frz_own rfl (hsG_len _).symm (frz_hs _ 2 _), by rw [leA_slice]⟩)
end Gv.Tryd
/- Maps by hashes: found, written. -/
set_option linter.unusedVariables false
set_option linter.unusedSimpArgs false
set_option maxRecDepth 20000
set_option maxHeartbeats 4000000
namespace Gv.Tryd
open Go Gv Go.Proofs
abbrev hkT : KT := .mk [.int, .int, .int, .int, .int, .int, .int, .int, .int, .int, .int, .int, .int, .int, .int, .int, .int, .int, .int, .int, .int, .int, .int, .int, .int, .int, .int, .int, .int, .int, .int, .int] true
section
variable {α : Type}
def kvG (enc : α → GVal) (m : List (Hs × α)) : List (GVal × GVal) := m.map fun p => (.agg (bytesG p.1.1), enc p.2)
def idxM : List (Hs × α) → Hs → Option Nat
  | [], _ => none
  | p :: r, h => if h = p.1 then some 0 else (idxM r h).map (· + 1)
def look : List (Hs × α) → Hs → Option α
  | [], _ => none
  | p :: r, h => if h = p.1 then some p.2 else look r h
def mset : List (Hs × α) → Hs → α → List (Hs × α)
  | [], h, v => [(h, v)]
  | p :: r, h, v => if h = p.1 then (h, v) :: r else p :: mset r h v
theorem keyEq_h (a b : Hs) : keyEq hkT (.agg (bytesG a.1)) (.agg (bytesG b.1)) = some (decide (a = b)) := cellsEq_hs a b
theorem kfind_h (enc : α → GVal) (h : Hs) : ∀ m : List (Hs × α), kfind hkT (.agg (bytesG h.1)) (kvG enc m) = some (idxM m h)
  | [] => rfl
  | p :: r => by
    rw [show kvG enc (p :: r) = (.agg (bytesG p.1.1), enc p.2) :: kvG enc r from rfl, kfind, keyEq_h, kfind_h enc h r, idxM]
    by_cases e : h = p.1
    · simp [e]
    · simp only [decide_eq_false e, if_neg e]
      cases idxM r h <;> rfl
theorem look_idx (enc : α → GVal) : ∀ (m : List (Hs × α)) (h : Hs) (v : α), look m h = some v → ∃ i, idxM m h = some i ∧ (kvG enc m)[i]? = some (.agg (bytesG h.1), enc v) ∧ ∀ w, (kvG enc m).set i (.agg (bytesG h.1), enc w) = kvG enc (mset m h w)
  | [], h, v, e => by cases e
  | p :: r, h, v, e => by
    rw [look] at e
    by_cases hp : h = p.1
    · rw [if_pos hp] at e
      cases e
      refine ⟨0, by rw [idxM, if_pos hp], by simp [kvG, hp], fun w => by simp [kvG, mset, hp]⟩
    · rw [if_neg hp] at e
      obtain ⟨i, h1, h2, h3⟩ := look_idx enc r h v e
      refine ⟨i + 1, by rw [idxM, if_neg hp, h1]; rfl, by simpa [kvG] using h2, fun w => ?_⟩
      have := h3 w
      simp only [kvG, List.map_cons, List.set_cons_succ, mset, if_neg hp] at this ⊢
      rw [this]
theorem look_none (enc : α → GVal) : ∀ (m : List (Hs × α)) (h : Hs), look m h = none → idxM m h = none ∧ ∀ w, kvG enc m ++ [(.agg (bytesG h.1), enc w)] = kvG enc (mset m h w)
  | [], h, e => ⟨rfl, fun w => rfl⟩
  | p :: r, h, e => by
    rw [look] at e
    by_cases hp : h = p.1
    · rw [if_pos hp] at e; cases e
    · rw [if_neg hp] at e
      obtain ⟨h1, h2⟩ := look_none enc r h e
      refine ⟨by rw [idxM, if_neg hp, h1]; rfl, fun w => ?_⟩
      have := h2 w
      simp only [kvG, List.map_cons, List.cons_append, mset, if_neg hp] at this ⊢
      rw [this]
theorem look_mset (m : List (Hs × α)) (h x : Hs) (v : α) : look (mset m h v) x = if x = h then some v else look m x := by
  induction m with
  | nil => simp [mset, look]
  | cons p r ih =>
    rw [mset]
    by_cases hp : h = p.1
    · rw [if_pos hp, look, look]
      by_cases hx : x = h
      · simp [hx]
      · simp [hx, ← hp]
    · rw [if_neg hp, look, ih, look]
      by_cases hx : x = p.1
      · rw [if_pos hx, if_pos hx, if_neg (by rw [hx]; exact fun e => hp e.symm)]
      · rw [if_neg hx, if_neg hx]
theorem mset_len (m : List (Hs × α)) (h : Hs) (v : α) : (mset m h v).length = if (look m h).isSome then m.length else m.length + 1 := by
  induction m with
  | nil => simp [mset, look]
  | cons p r ih =>
    rw [mset, look]
    by_cases hp : h = p.1
    · simp [hp]
    · rw [if_neg hp, if_neg hp, List.length_cons, ih]
      split <;> simp
end
theorem solidH (h : Hs) : allSolid (bytesG h.1) = True := by
  refine eq_true ?_
  rw [← allSolid_eq]
  intro c hc
  obtain ⟨b, _, rfl⟩ := List.mem_map.1 hc
  rfl
theorem take32a (h : Hs) (X : List GVal) : List.take 32 (bytesG h.1 ++ X) = bytesG h.1 := by rw [List.take_append_of_le_length (by rw [len32]; omega), take32]
theorem drop32a (h : Hs) (X : List GVal) : List.drop 32 (bytesG h.1 ++ X) = X := by rw [List.drop_append_of_le_length (by rw [len32]; omega), List.drop_of_length_le (by rw [len32]; omega)]; rfl
theorem drop33a (h : Hs) (x : GVal) : List.drop 33 (bytesG h.1 ++ [x]) = [] := List.drop_of_length_le (by rw [List.length_append, len32]; simp)
theorem take33a (h : Hs) (x : GVal) : List.take 33 (bytesG h.1 ++ [x]) = bytesG h.1 ++ [x] := List.take_of_length_le (by rw [List.length_append, len32]; simp)
theorem len33 (h : Hs) (x : GVal) : (bytesG h.1 ++ [x]).length = 33 := by rw [List.length_append, len32]; rfl
theorem solid33 (h : Hs) (x : GVal) : allSolid (bytesG h.1 ++ [x]) = (x.solid = true) := by
  rw [← allSolid_eq]
  have := solidH h
  rw [← allSolid_eq] at this
  have := this.mpr trivial
  apply propext
  constructor
  · exact fun q => q x (by simp)
  · intro q c hc
    rcases List.mem_append.1 hc with hc | hc
    · exact this c hc
    · rw [List.mem_singleton.1 hc]; exact q
theorem WL_rfl : ∀ l : List GVal, WL l l
  | [] => trivial
  | x :: r => ⟨by rw [leG_self]; trivial, WL_rfl r⟩
theorem leA_refl (a : GVal) : leA a a := by
  cases a <;> simp [leA, leG_self, WL_rfl]
abbrev encL (l : List Hs) : GVal := .slice (hsG l) .none
abbrev encB (b : Bool) : GVal := .bool b
abbrev GM := List (Hs × List Hs)
abbrev gObj (st s : Nat) (m : GM) : List GObj := [.row st 1 [[.map 1 s]], .map s (kvG encL m)]
theorem gHas1 (m : GM) (h : Hs) (st s i : Nat) (l : List Hs) (hi : idxM m h = some i) (hv : (kvG encL m)[i]? = some (.agg (bytesG h.1), encL l)) : GCalls Tryd.prog 17 [.ptr 0 st 0 0, .agg (bytesG h.1)] (gObj st s m) (fun g O' => g = .bool true ∧ O' = gObj st s m) := by
  refine h17.calls mixS (by simp) ?_
  simp only [gstart, s17, List.cons_append, List.nil_append, List.length_cons, List.length_nil, Nat.reduceAdd, Nat.reduceSub, List.replicate_succ, List.replicate_zero]
  simp +contextual -implicitDefEqProofs (maxSteps := 2000000) (disch := omega) only [drawC, drawK, keepT, ↓loadV, ↓fieldAddrV, ↓boxV, ↓nilV, GVal.cells, grp, GVal.ofConst, ↓resV, resG, List.map, List.headD, List.take, List.drop, ↓reduceIte, Nat.reduceEqDiff, Nat.reduceAdd, Nat.reduceSub, Nat.reduceLeDiff, reduceCtorEq, implies_true, ne_eq, ↓lookupV, keyOk, keyCells, pairG, Tag.cap, List.replicate, allSolid, GVal.solid, Nat.reduceBEq, Nat.reduceMul, Nat.reduceLT, List.length_map, List.length_range, splice, vcA, ↓vcB, vcC, fbFu, e17, kfind_h, hi, hv, len32, take32, solidH]
theorem gHas0 (m : GM) (h : Hs) (st s : Nat) (hi : idxM m h = none) : GCalls Tryd.prog 17 [.ptr 0 st 0 0, .agg (bytesG h.1)] (gObj st s m) (fun g O' => g = .bool false ∧ O' = gObj st s m) := by
  refine h17.calls mixS (by simp) ?_
  simp only [gstart, s17, List.cons_append, List.nil_append, List.length_cons, List.length_nil, Nat.reduceAdd, Nat.reduceSub, List.replicate_succ, List.replicate_zero]
  simp +contextual -implicitDefEqProofs (maxSteps := 2000000) (disch := omega) only [drawC, drawK, keepT, ↓loadV, ↓fieldAddrV, ↓boxV, ↓nilV, GVal.cells, grp, GVal.ofConst, ↓resV, resG, List.map, List.headD, List.take, List.drop, ↓reduceIte, Nat.reduceEqDiff, Nat.reduceAdd, Nat.reduceSub, Nat.reduceLeDiff, reduceCtorEq, implies_true, ne_eq, ↓lookupV, keyOk, keyCells, pairG, Tag.cap, List.replicate, allSolid, GVal.solid, Nat.reduceBEq, Nat.reduceMul, Nat.reduceLT, List.length_map, List.length_range, splice, vcA, ↓vcB, vcC, fbFu, e17, kfind_h, hi, len32, take32, solidH]
theorem gHas (m : GM) (h : Hs) (st s : Nat) : GCalls Tryd.prog 17 [.ptr 0 st 0 0, .agg (bytesG h.1)] (gObj st s m) (fun g O' => g = .bool (look m h).isSome ∧ O' = gObj st s m) := by
  cases e : look m h with
  | some l =>
    obtain ⟨i, hi, hv, _⟩ := look_idx encL m h l e
    revert hi hv
    intro hi hv
    exact gHas1 m h st s i l hi hv
  | none => exact gHas0 m h st s (look_none encL m h e).1
end Gv.Tryd
/- slices.Collect(maps.Keys(set)): the set's hashes, in some order. -/
set_option linter.unusedVariables false
set_option linter.unusedSimpArgs false
set_option maxRecDepth 20000
set_option maxHeartbeats 4000000
namespace Gv.Tryd
open Go Gv Go.Proofs Go.RowKit
def hsB (l : List Hs) : List UInt8 := l.flatMap (·.1)
theorem cellsH_B (l : List Hs) : cellsH l = bytesV (hsB l) := by
  induction l with
  | nil => rfl
  | cons h r ih => simp only [cellsH, hsB, List.flatMap_cons, bytesV, List.map_append] at ih ⊢; rw [ih]
theorem hsG_B (l : List Hs) : (hsG l).flatten = bytesG (hsB l) := by
  induction l with
  | nil => rfl
  | cons h r ih => simp only [hsG, hsB, List.flatMap_cons, List.map_cons, List.flatten_cons, bytesG, List.map_append] at ih ⊢; rw [ih]
theorem vr_key {E : Env} {v : Value} {h : Hs} (hv : VR E v (.agg (bytesG h.1))) : v = encH h := by
  have := argsR_agg (E := E) (vs := #[v]) (l := h.1) ⟨rfl, fun i g hg => by
    match i with
    | 0 => simp at hg; subst hg; simpa using hv
    | i + 1 => simp at hg⟩
  have h2 : v = .agg (bytesV h.1).toArray := by simpa using this
  exact h2
theorem encH_inj {a b : Hs} (h : encH a = encH b) : a = b := by
  have h1 : (bytesV a.1).toArray = (bytesV b.1).toArray := by injection h
  have h2 : bytesV a.1 = bytesV b.1 := by simpa using h1
  refine Subtype.ext ?_
  have : ∀ (x y : List UInt8), bytesV x = bytesV y → x = y := by
    intro x
    induction x with
    | nil => intro y h; cases y with
      | nil => rfl
      | cons => cases h
    | cons c r ih =>
      intro y h
      cases y with
      | nil => cases h
      | cons d s =>
        simp only [bytesV, List.map_cons, List.cons.injEq, Value.int.injEq, true_and] at h
        rw [ih s h.2]
        have : c.toNat = d.toNat := by have := h.1; omega
        rw [UInt8.toNat_inj.1 this]
  exact this _ _ h2
theorem perm_of_map {α β : Type} {f : α → β} (hf : ∀ a b, f a = f b → a = b) {l m : List α} (h : (l.map f).Perm (m.map f)) : l.Perm m := by
  classical
  rw [List.perm_iff_count] at h ⊢
  intro a
  have := h (f a)
  have hc : ∀ x : List α, (x.map f).count (f a) = x.count a := by
    intro x
    induction x with
    | nil => rfl
    | cons b r ih =>
      rw [List.map_cons, List.count_cons, List.count_cons, ih]
      by_cases e : b = a
      · simp [e]
      · have : f b ≠ f a := fun q => e (hf _ _ q)
        simp [e, this]
  rwa [hc, hc] at this
theorem gCollect {α : Type} (enc : α → GVal) (m : List (Hs × α)) (hm : m.length ≤ 1000000000) {O : List GObj} {o st oc stc : Nat} (hO : O[o]? = some (.map st (kvG enc m))) (hOc : O[oc]? = some (.row stc 1 [[.map o st]])) :
    GCalls Tryd.prog 30 [.func (.func 69) [] [.ptr oc stc 0 0]] O (fun g O' => ∃ l : List Hs, l.Perm (m.map (·.1)) ∧ g = .slice (hsG l) .none ∧ O' = O) := by
  refine ⟨by kernel_rfl, fun E w vs hs ha => ?_⟩
  obtain ⟨hsz, hat⟩ := ha
  match vs, hsz with
  | ⟨[v]⟩, _ =>
    have hv := hat 0 _ rfl
    change VR E v _ at hv
    cases hv with
    | func fn fs cs gs ks hf hk hfs hcs =>
      obtain ⟨fs⟩ := fs
      obtain ⟨cs⟩ := cs
      match fs, hf with
      | [], _ =>
        match cs, hk with
        | [c], _ =>
          have hc := hcs 0 _ rfl
          change VR E c (.ptr oc stc 0 0) at hc
          cases hc with
          | ptr b off _ _ _ _ lc hlc hbc hoff =>
            have hre := hs.real _ _ hOc
            obtain ⟨lc2, hlc2, hsz2, _, hre⟩ := hre
            rw [hlc] at hlc2; cases hlc2
            rw [hbc] at hre
            obtain ⟨cur, el, hcw, hcs, hct, hrows, _⟩ := hre
            obtain ⟨q, h1, _, h2⟩ := hrows 0 (.map o st) rfl
            have hoff2 : off = lc.off := by rw [hoff]; omega
            have hcell : w.cell? ⟨b, off, none⟩ = some q := by
              simp only [World.cell?, hcw, hoff2]
              simpa using h1
            have hBm : b < w.heap.size := (Array.getElem?_eq_some_iff.1 hcw).1
            cases h2 with
            | map r o st l hl hb =>
              obtain ⟨b2, es, clock, e, hw, hes, hent, hloc, hsn2, hbo⟩ := map_block hs (VR.map r o st l hl hb) hO
              cases e
              have hln : es.size = m.length := by
                have : es.toList.length = (kvG enc m).length := hes
                rw [Array.length_toList] at this
                rw [this, kvG, List.length_map]
              have hkey : es.toList.map MapEntry.key = (m.map (·.1)).map encH := by
                refine List.ext_getElem? fun i => ?_
                rw [List.getElem?_map, List.getElem?_map, List.getElem?_map]
                cases hi : m[i]? with
                | none =>
                  have : es.toList[i]? = none := by
                    rw [List.getElem?_eq_none_iff] at hi ⊢
                    rw [Array.length_toList]; omega
                  rw [this]; rfl
                | some p =>
                  have hlt := (List.getElem?_eq_some_iff.1 hi).1
                  have hi2 : i < es.toList.length := by rw [Array.length_toList]; omega
                  have he : es.toList[i]? = some (es.toList[i]) := List.getElem?_eq_getElem hi2
                  have := (hent i _ (.agg (bytesG p.1.1), enc p.2) he (by simp [kvG, hi])).1
                  rw [he]
                  exact congrArg some (vr_key this)
              have hks : ∀ e ∈ es.toList, ∃ h : HL, e.key = encH h := by
                intro e he
                have : e.key ∈ es.toList.map MapEntry.key := List.mem_map_of_mem he
                rw [hkey] at this
                obtain ⟨h, _, eh⟩ := List.mem_map.1 this
                exact ⟨h, eh.symm⟩
              have hseq := keysGives Fence.wide 3 trivial rfl (by omega) b off r clock es hbo hks w hBm hcell hw
              have hc := collect Fence.wide 5 trivial trivial rfl (by omega) 69 #[.pointer (some ⟨b, off, none⟩)] trivial (enters_of Tryd.func69 (by kernel_rfl) rfl) _ es.size (by rw [hln]; exact Nat.le_trans hm (by decide)) (by omega) w hseq
              refine (callsIn_wide.1 hc).mono ?_
              rintro e' w' ⟨v, ss, rfl, hS, hrow, hnil, hbel⟩
              have hperm : ss.Perm (m.map (·.1)) := perm_of_map (fun _ _ => encH_inj) (by rw [← hkey]; exact hS)
              rcases hrow.2 with ⟨rfl, hz⟩ | ⟨g, cap, cur, rfl, hbase, hgb, r1, r2, r3, r4⟩
              · have hss : ss = [] := List.eq_nil_of_length_eq_zero hz
                subst hss
                obtain ⟨p1, p2⟩ := hs.belowO hbel
                exact ⟨_, E, O, .slice [] .none, rfl, p1, p2, .slice none 0 0 [] .none 32 (fun _ => undef) rfl (Nat.le_refl _) (by simp) (by simp) (by simp) trivial, [], hperm, rfl, rfl⟩
              · have hcur : ∀ j, j < ss.length * 32 → cur[j]? = (bytesV (hsB ss))[j]? := by
                  intro j hj
                  rw [← cellsH_B, ← r4, List.getElem?_take_of_lt hj, Array.getElem?_toList]
                have hbl : (bytesV (hsB ss)).length = ss.length * 32 := by rw [← cellsH_B, cellsH_len]
                obtain ⟨p1, p2⟩ := hs.belowSeal hbel (n := ss.length * 32) hbase hgb (fun j v hj hv => by
                  rw [hcur j hj] at hv
                  exact bytesV_one _ v (List.mem_of_getElem? hv))
                refine ⟨_, _, O, .slice (hsG ss) .none, rfl, p1, p2, .slice _ _ _ _ _ 32 (fun j => (bytesV (hsB ss)).getD j undef) (by rw [hsG_len]) r1 (fun x hx => by obtain ⟨h, _, rfl⟩ := List.mem_map.1 hx; exact len32 h) (fun _ => ⟨g, 0, rfl, fun j hj => ?_⟩) (fun j gv hj => ?_) trivial, ss, hperm, rfl, rfl⟩
                · show (if g = g then (if 0 + j < ss.length * 32 then cur[0 + j]? else none) else E.snap g (0 + j)) = _
                  rw [if_pos rfl, Nat.zero_add, if_pos hj, hcur j hj, List.getD_eq_getElem?_getD]
                  cases hq2 : (bytesV (hsB ss))[j]? with
                  | none => rw [List.getElem?_eq_none_iff] at hq2; omega
                  | some x => rfl
                · rw [hsG_B, bytesG, List.getElem?_map] at hj
                  rw [List.getD_eq_getElem?_getD, bytesV, List.getElem?_map]
                  cases hq2 : (hsB ss)[j]? with
                  | none => rw [hq2] at hj; cases hj
                  | some x =>
                    rw [hq2] at hj
                    cases hj
                    exact .int _ _
theorem gKeys {α : Type} (enc : α → GVal) (m : List (Hs × α)) {st : Nat} : GCalls Tryd.prog 54 [.map 0 st] [.map st (kvG enc m)] (fun g O' => ∃ stc, g = .func (.func 69) [] [.ptr 1 stc 0 0] ∧ O' = [.map st (kvG enc m), .row stc 1 [[.map 0 st]]]) := by
  refine h54.calls mixS (by simp) ?_
  simp only [gstart, s54, List.cons_append, List.nil_append, List.length_cons, List.length_nil, Nat.reduceAdd, Nat.reduceSub, List.replicate_succ, List.replicate_zero]
  simp +contextual -implicitDefEqProofs (maxSteps := 2000000) (disch := omega) only [↓boxV, GVal.cells, grp, GVal.ofConst, ↓resV, resG, List.map, List.headD, List.take, List.drop, ↓reduceIte, Nat.reduceEqDiff, Nat.reduceAdd, Nat.reduceSub, Nat.reduceLeDiff, reduceCtorEq, implies_true, ne_eq, Tag.cap, List.replicate, allSolid, GVal.solid, Nat.reduceBEq, Nat.reduceMul, Nat.reduceLT, List.length_map, List.length_range, splice, vcA, ↓vcB, vcC, fbFu, e54]
  exact fun s => ⟨s, rfl, rfl⟩
end Gv.Tryd
/- maps.Clone of lists of hashes by hashes. -/
set_option linter.unusedVariables false
set_option maxRecDepth 100000
namespace Go.Proofs
open Go.Shelf
def Tryd.mcl_ren : Go.Shelf.Ren := ⟨fun | 5 => 42 | 7 => 58 | n => n, fun | 4 => 4 | 20 => 20 | 23 => 62 | 25 => 40 | 3 => 30 | n => n, fun | n => n⟩
theorem Tryd.mcl : Go.Proofs.SlLaysW.n5 Tryd.prog Tryd.mcl_ren := {
  mixed := by kernel_rfl
  f5 := ⟨Tryd.f42.name, by decide, Tryd.func42.trans (congrArg some (by kernel_rfl))⟩
  f7 := Tryd.func58.trans (congrArg some (by kernel_rfl))
  t4 := Tryd.underlying4
  a4 := Tryd.isAgg4
  z4 := Tryd.sizeOf4
  v4 := Tryd.zeroValue4
  t20 := Tryd.underlying20
  a20 := Tryd.isAgg20
  z20 := Tryd.sizeOf20
  v20 := Tryd.zeroValue20
  t23 := Tryd.underlying62
  a23 := Tryd.isAgg62
  z23 := Tryd.sizeOf62
  v23 := Tryd.zeroValue62 }
end Go.Proofs
namespace Gv.Tryd
open Go Gv Go.Proofs
theorem cMapClone {O : List GObj} {o st : Nat} {kv : List (GVal × GVal)} (hO : O[o]? = some (.map st kv)) (hc : clockOf O = none) :
    GCalls Tryd.prog 42 [.map o st] O (fun g O' => ∃ st', g = .map O.length st' ∧ O' = O ++ [.map st' kv]) :=
  gcalls_clone (by kernel_rfl) (fun b es clock w hb => AnyW.maps_Clone Tryd.mcl b es clock w hb) hO hc
end Gv.Tryd
