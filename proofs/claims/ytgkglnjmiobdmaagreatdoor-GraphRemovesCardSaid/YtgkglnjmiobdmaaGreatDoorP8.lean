import Derived.Test.YtgkglnjmiobdmaaGreatDoorP5
import Derived.Test.YtgkglnjmiobdmaaGreatDoorProg
import Derived.KernelRfl
import Derived.Test.YtgkglnjmiobdmaaGreatDoorP6
import Derived.Test.YtgkglnjmiobdmaaGreatDoorP7
import Derived.Lib.BytesEntry
import Derived.Laws.Externs
import Derived.WalkKit
import Derived.Shelf.SlSortCmp.WholeK
import Derived.Deep.RegionWith
import Derived.Shelf.SlMaps.Clone
set_option maxRecDepth 100000
namespace Gv.Tryz
open Go Gv Go.Proofs
theorem aggT40 : aggT Tryz.prog 40 = (some [.int, .int, .int, .int, .int, .int, .int, .int, .int, .int, .int, .int, .int, .int, .int, .int, .int, .int, .int, .int, .int, .int, .int, .int, .int, .int, .int, .int, .int, .int, .int, .int]) := by kernel_rfl
theorem arr40 : arr Tryz.prog 40 = (some (32, (1, false))) := by kernel_rfl
theorem arr76 : arr Tryz.prog 76 = (some (60, (1, false))) := by kernel_rfl
theorem arr85 : arr Tryz.prog 85 = (some (6, (1, false))) := by kernel_rfl
theorem els142 : els Tryz.prog 142 = (some (1, false)) := by kernel_rfl
theorem els22 : els Tryz.prog 22 = (some (4, true)) := by kernel_rfl
theorem els23 : els Tryz.prog 23 = (some (1, false)) := by kernel_rfl
theorem els28 : els Tryz.prog 28 = (some (33, true)) := by kernel_rfl
theorem els31 : els Tryz.prog 31 = (some (32, true)) := by kernel_rfl
theorem els35 : els Tryz.prog 35 = (some (3, true)) := by kernel_rfl
theorem els59 : els Tryz.prog 59 = (some (1, false)) := by kernel_rfl
theorem els90 : els Tryz.prog 90 = (some (1, false)) := by kernel_rfl
theorem elt107 : elt Tryz.prog 107 = (some (1, (1, [.int .u8 0]))) := by kernel_rfl
theorem elt142 : elt Tryz.prog 142 = (some (1, (16, [(.lit .nilIface)]))) := by kernel_rfl
theorem elt22 : elt Tryz.prog 22 = (some (4, (64, [.slice [] .nil, .slice [] .nil, .int .i64 0, .int .i64 0]))) := by kernel_rfl
theorem elt23 : elt Tryz.prog 23 = (some (1, (8, [.int .i64 0]))) := by kernel_rfl
theorem elt28 : elt Tryz.prog 28 = (some (33, (56, [.int .u8 0, .int .u8 0, .int .u8 0, .int .u8 0, .int .u8 0, .int .u8 0, .int .u8 0, .int .u8 0, .int .u8 0, .int .u8 0, .int .u8 0, .int .u8 0, .int .u8 0, .int .u8 0, .int .u8 0, .int .u8 0, .int .u8 0, .int .u8 0, .int .u8 0, .int .u8 0, .int .u8 0, .int .u8 0, .int .u8 0, .int .u8 0, .int .u8 0, .int .u8 0, .int .u8 0, .int .u8 0, .int .u8 0, .int .u8 0, .int .u8 0, .int .u8 0, .slice [] .nil]))) := by kernel_rfl
theorem elt31 : elt Tryz.prog 31 = (some (32, (32, [.int .u8 0, .int .u8 0, .int .u8 0, .int .u8 0, .int .u8 0, .int .u8 0, .int .u8 0, .int .u8 0, .int .u8 0, .int .u8 0, .int .u8 0, .int .u8 0, .int .u8 0, .int .u8 0, .int .u8 0, .int .u8 0, .int .u8 0, .int .u8 0, .int .u8 0, .int .u8 0, .int .u8 0, .int .u8 0, .int .u8 0, .int .u8 0, .int .u8 0, .int .u8 0, .int .u8 0, .int .u8 0, .int .u8 0, .int .u8 0, .int .u8 0, .int .u8 0]))) := by kernel_rfl
theorem elt35 : elt Tryz.prog 35 = (some (3, (40, [.int .i64 0, .int .i64 0, .slice [] .nil]))) := by kernel_rfl
theorem elt59 : elt Tryz.prog 59 = (some (1, (24, [.slice [] .nil]))) := by kernel_rfl
theorem elt90 : elt Tryz.prog 90 = (some (1, (1, [(.bool false)]))) := by kernel_rfl
theorem fld30_0 : fld Tryz.prog 30 0 = (some (0, (1, false))) := by kernel_rfl
theorem fld33_0 : fld Tryz.prog 33 0 = (some (0, (1, false))) := by kernel_rfl
theorem fld33_1 : fld Tryz.prog 33 1 = (some (1, (1, false))) := by kernel_rfl
theorem fld33_2 : fld Tryz.prog 33 2 = (some (2, (1, false))) := by kernel_rfl
theorem fld37_0 : fld Tryz.prog 37 0 = (some (0, (1, false))) := by kernel_rfl
theorem fld37_1 : fld Tryz.prog 37 1 = (some (1, (1, false))) := by kernel_rfl
theorem fld37_2 : fld Tryz.prog 37 2 = (some (2, (1, false))) := by kernel_rfl
theorem fld37_3 : fld Tryz.prog 37 3 = (some (3, (1, false))) := by kernel_rfl
theorem fld66_0 : fld Tryz.prog 66 0 = (some (0, (1, false))) := by kernel_rfl
theorem fld68_0 : fld Tryz.prog 68 0 = (some (0, (32, true))) := by kernel_rfl
theorem fld68_1 : fld Tryz.prog 68 1 = (some (32, (1, false))) := by kernel_rfl
theorem fld74_0 : fld Tryz.prog 74 0 = (some (0, (1, false))) := by kernel_rfl
theorem fld74_1 : fld Tryz.prog 74 1 = (some (1, (1, false))) := by kernel_rfl
theorem fld74_2 : fld Tryz.prog 74 2 = (some (2, (1, false))) := by kernel_rfl
theorem fld99_0 : fld Tryz.prog 99 0 = (some (0, (32, true))) := by kernel_rfl
theorem keyT64 : keyT Tryz.prog 64 = (some ((.mk [.int, .int, .int, .int, .int, .int, .int, .int, .int, .int, .int, .int, .int, .int, .int, .int, .int, .int, .int, .int, .int, .int, .int, .int, .int, .int, .int, .int, .int, .int, .int, .int] true), 31)) := by kernel_rfl
theorem keyT88 : keyT Tryz.prog 88 = (some ((.mk [.int, .int, .int, .int, .int, .int, .int, .int, .int, .int, .int, .int, .int, .int, .int, .int, .int, .int, .int, .int, .int, .int, .int, .int, .int, .int, .int, .int, .int, .int, .int, .int] true), 4)) := by kernel_rfl
theorem notInt107 : notInt Tryz.prog 107 = true := by kernel_rfl
theorem notInt108 : notInt Tryz.prog 108 = false := by kernel_rfl
theorem notInt117 : notInt Tryz.prog 117 = false := by kernel_rfl
theorem notInt120 : notInt Tryz.prog 120 = false := by kernel_rfl
theorem notInt129 : notInt Tryz.prog 129 = false := by kernel_rfl
theorem notInt142 : notInt Tryz.prog 142 = true := by kernel_rfl
theorem notInt153 : notInt Tryz.prog 153 = false := by kernel_rfl
theorem notInt155 : notInt Tryz.prog 155 = false := by kernel_rfl
theorem notInt156 : notInt Tryz.prog 156 = false := by kernel_rfl
theorem notInt160 : notInt Tryz.prog 160 = false := by kernel_rfl
theorem notInt20 : notInt Tryz.prog 20 = false := by kernel_rfl
theorem notInt22 : notInt Tryz.prog 22 = true := by kernel_rfl
theorem notInt23 : notInt Tryz.prog 23 = true := by kernel_rfl
theorem notInt24 : notInt Tryz.prog 24 = false := by kernel_rfl
theorem notInt27 : notInt Tryz.prog 27 = false := by kernel_rfl
theorem notInt28 : notInt Tryz.prog 28 = true := by kernel_rfl
theorem notInt3 : notInt Tryz.prog 3 = false := by kernel_rfl
theorem notInt31 : notInt Tryz.prog 31 = true := by kernel_rfl
theorem notInt33 : notInt Tryz.prog 33 = false := by kernel_rfl
theorem notInt35 : notInt Tryz.prog 35 = true := by kernel_rfl
theorem notInt37 : notInt Tryz.prog 37 = false := by kernel_rfl
theorem notInt38 : notInt Tryz.prog 38 = false := by kernel_rfl
theorem notInt4 : notInt Tryz.prog 4 = false := by kernel_rfl
theorem notInt40 : notInt Tryz.prog 40 = false := by kernel_rfl
theorem notInt45 : notInt Tryz.prog 45 = false := by kernel_rfl
theorem notInt55 : notInt Tryz.prog 55 = false := by kernel_rfl
theorem notInt56 : notInt Tryz.prog 56 = false := by kernel_rfl
theorem notInt59 : notInt Tryz.prog 59 = true := by kernel_rfl
theorem notInt64 : notInt Tryz.prog 64 = false := by kernel_rfl
theorem notInt68 : notInt Tryz.prog 68 = false := by kernel_rfl
theorem notInt83 : notInt Tryz.prog 83 = false := by kernel_rfl
theorem notInt88 : notInt Tryz.prog 88 = false := by kernel_rfl
theorem notInt90 : notInt Tryz.prog 90 = true := by kernel_rfl
theorem plc30 : plc Tryz.prog 30 = (some (.inl [(0, 1)])) := by kernel_rfl
theorem plc33 : plc Tryz.prog 33 = (some (.inl [(0, 1), (1, 1), (2, 1)])) := by kernel_rfl
theorem plc40 : plc Tryz.prog 40 = (some (.inr 1)) := by kernel_rfl
theorem plc66 : plc Tryz.prog 66 = (some (.inl [(0, 1)])) := by kernel_rfl
theorem plc68 : plc Tryz.prog 68 = (some (.inl [(0, 32), (32, 1)])) := by kernel_rfl
theorem plc85 : plc Tryz.prog 85 = (some (.inr 1)) := by kernel_rfl
theorem plc99 : plc Tryz.prog 99 = (some (.inl [(0, 32), (32, 1)])) := by kernel_rfl
theorem tab117 : tab Tryz.prog 117 = (some (3, true)) := by kernel_rfl
theorem tab120 : tab Tryz.prog 120 = (some (1, false)) := by kernel_rfl
theorem tab156 : tab Tryz.prog 156 = (some (1, false)) := by kernel_rfl
theorem tab23 : tab Tryz.prog 23 = (some (1, false)) := by kernel_rfl
theorem tab24 : tab Tryz.prog 24 = (some (1, false)) := by kernel_rfl
theorem tab28 : tab Tryz.prog 28 = (some (1, false)) := by kernel_rfl
theorem tab3 : tab Tryz.prog 3 = (some (1, false)) := by kernel_rfl
theorem tab31 : tab Tryz.prog 31 = (some (1, false)) := by kernel_rfl
theorem tab33 : tab Tryz.prog 33 = (some (3, true)) := by kernel_rfl
theorem tab35 : tab Tryz.prog 35 = (some (1, false)) := by kernel_rfl
theorem tab37 : tab Tryz.prog 37 = (some (4, true)) := by kernel_rfl
theorem tab38 : tab Tryz.prog 38 = (some (1, false)) := by kernel_rfl
theorem tab4 : tab Tryz.prog 4 = (some (1, false)) := by kernel_rfl
theorem tab40 : tab Tryz.prog 40 = (some (32, true)) := by kernel_rfl
theorem tab45 : tab Tryz.prog 45 = (some (1, false)) := by kernel_rfl
theorem tab5 : tab Tryz.prog 5 = (some (1, false)) := by kernel_rfl
theorem tab64 : tab Tryz.prog 64 = (some (1, false)) := by kernel_rfl
theorem tab68 : tab Tryz.prog 68 = (some (33, true)) := by kernel_rfl
theorem tab74 : tab Tryz.prog 74 = (some (3, true)) := by kernel_rfl
theorem tab88 : tab Tryz.prog 88 = (some (1, false)) := by kernel_rfl
theorem tab95 : tab Tryz.prog 95 = (some (1, false)) := by kernel_rfl
theorem und100 : Go.Program.underlying Tryz.prog 100 = (some (.pointer 38)) := by kernel_rfl
theorem und107 : Go.Program.underlying Tryz.prog 107 = (some (.slice 5)) := by kernel_rfl
theorem und108 : Go.Program.underlying Tryz.prog 108 = (some (.func #[40, 40] #[3] false)) := by kernel_rfl
theorem und122 : Go.Program.underlying Tryz.prog 122 = (some (.int .u8)) := by kernel_rfl
theorem und129 : Go.Program.underlying Tryz.prog 129 = (some (.int .u64)) := by kernel_rfl
theorem und142 : Go.Program.underlying Tryz.prog 142 = (some (.slice 45)) := by kernel_rfl
theorem und145 : Go.Program.underlying Tryz.prog 145 = (some (.int .i64)) := by kernel_rfl
theorem und153 : Go.Program.underlying Tryz.prog 153 = (some (.int .u32)) := by kernel_rfl
theorem und155 : Go.Program.underlying Tryz.prog 155 = (some (.int .u64)) := by kernel_rfl
theorem und156 : Go.Program.underlying Tryz.prog 156 = (some (.int .u64)) := by kernel_rfl
theorem und160 : Go.Program.underlying Tryz.prog 160 = (some (.pointer 3)) := by kernel_rfl
theorem und20 : Go.Program.underlying Tryz.prog 20 = (some (.interface #[])) := by kernel_rfl
theorem und22 : Go.Program.underlying Tryz.prog 22 = (some (.slice 37)) := by kernel_rfl
theorem und23 : Go.Program.underlying Tryz.prog 23 = (some (.slice 3)) := by kernel_rfl
theorem und24 : Go.Program.underlying Tryz.prog 24 = (some (.pointer 66)) := by kernel_rfl
theorem und27 : Go.Program.underlying Tryz.prog 27 = (some (.pointer 30)) := by kernel_rfl
theorem und28 : Go.Program.underlying Tryz.prog 28 = (some (.slice 68)) := by kernel_rfl
theorem und3 : Go.Program.underlying Tryz.prog 3 = (some (.int .i64)) := by kernel_rfl
theorem und31 : Go.Program.underlying Tryz.prog 31 = (some (.slice 40)) := by kernel_rfl
theorem und35 : Go.Program.underlying Tryz.prog 35 = (some (.slice 74)) := by kernel_rfl
theorem und38 : Go.Program.underlying Tryz.prog 38 = (some (.int .i64)) := by kernel_rfl
theorem und4 : Go.Program.underlying Tryz.prog 4 = (some .bool) := by kernel_rfl
theorem und40 : Go.Program.underlying Tryz.prog 40 = (some (.array 32 5)) := by kernel_rfl
theorem und5 : Go.Program.underlying Tryz.prog 5 = (some (.int .u8)) := by kernel_rfl
theorem und55 : Go.Program.underlying Tryz.prog 55 = (some (.func #[40] #[4] false)) := by kernel_rfl
theorem und56 : Go.Program.underlying Tryz.prog 56 = (some (.func #[40] #[31] false)) := by kernel_rfl
theorem und59 : Go.Program.underlying Tryz.prog 59 = (some (.slice 23)) := by kernel_rfl
theorem und64 : Go.Program.underlying Tryz.prog 64 = (some (.map 40 31)) := by kernel_rfl
theorem und76 : Go.Program.underlying Tryz.prog 76 = (some (.array 60 4)) := by kernel_rfl
theorem und83 : Go.Program.underlying Tryz.prog 83 = (some (.func #[55] #[] false)) := by kernel_rfl
theorem und85 : Go.Program.underlying Tryz.prog 85 = (some (.array 6 5)) := by kernel_rfl
theorem und88 : Go.Program.underlying Tryz.prog 88 = (some (.map 40 4)) := by kernel_rfl
theorem und9 : Go.Program.underlying Tryz.prog 9 = (some .string) := by kernel_rfl
theorem und90 : Go.Program.underlying Tryz.prog 90 = (some (.slice 4)) := by kernel_rfl
theorem und95 : Go.Program.underlying Tryz.prog 95 = (some (.pointer 99)) := by kernel_rfl
theorem und97 : Go.Program.underlying Tryz.prog 97 = (some (.pointer 95)) := by kernel_rfl
theorem zer117 : zer Tryz.prog 117 = (some [(.lit (.pointer none)), (.lit (.pointer none)), (.int .u64 0)]) := by kernel_rfl
theorem zer156 : zer Tryz.prog 156 = (some [(.int .u64 0)]) := by kernel_rfl
theorem zer3 : zer Tryz.prog 3 = (some [.int .i64 0]) := by kernel_rfl
theorem zer30 : zer Tryz.prog 30 = (some [.slice [] .nil]) := by kernel_rfl
theorem zer33 : zer Tryz.prog 33 = (some [.slice [] .nil, .slice [] .nil, .int .i64 0]) := by kernel_rfl
theorem zer38 : zer Tryz.prog 38 = (some [.int .i64 0]) := by kernel_rfl
theorem zer40 : zer Tryz.prog 40 = (some [.int .u8 0, .int .u8 0, .int .u8 0, .int .u8 0, .int .u8 0, .int .u8 0, .int .u8 0, .int .u8 0, .int .u8 0, .int .u8 0, .int .u8 0, .int .u8 0, .int .u8 0, .int .u8 0, .int .u8 0, .int .u8 0, .int .u8 0, .int .u8 0, .int .u8 0, .int .u8 0, .int .u8 0, .int .u8 0, .int .u8 0, .int .u8 0, .int .u8 0, .int .u8 0, .int .u8 0, .int .u8 0, .int .u8 0, .int .u8 0, .int .u8 0, .int .u8 0]) := by kernel_rfl
theorem zer64 : zer Tryz.prog 64 = (some [(.lit (.map none))]) := by kernel_rfl
theorem zer66 : zer Tryz.prog 66 = (some [(.lit (.map none))]) := by kernel_rfl
theorem zer68 : zer Tryz.prog 68 = (some [.int .u8 0, .int .u8 0, .int .u8 0, .int .u8 0, .int .u8 0, .int .u8 0, .int .u8 0, .int .u8 0, .int .u8 0, .int .u8 0, .int .u8 0, .int .u8 0, .int .u8 0, .int .u8 0, .int .u8 0, .int .u8 0, .int .u8 0, .int .u8 0, .int .u8 0, .int .u8 0, .int .u8 0, .int .u8 0, .int .u8 0, .int .u8 0, .int .u8 0, .int .u8 0, .int .u8 0, .int .u8 0, .int .u8 0, .int .u8 0, .int .u8 0, .int .u8 0, .slice [] .nil]) := by kernel_rfl
theorem zer74 : zer Tryz.prog 74 = (some [.int .i64 0, .int .i64 0, .slice [] .nil]) := by kernel_rfl
theorem zer76 : zer Tryz.prog 76 = (some [(.bool false), (.bool false), (.bool false), (.bool false), (.bool false), (.bool false), (.bool false), (.bool false), (.bool false), (.bool false), (.bool false), (.bool false), (.bool false), (.bool false), (.bool false), (.bool false), (.bool false), (.bool false), (.bool false), (.bool false), (.bool false), (.bool false), (.bool false), (.bool false), (.bool false), (.bool false), (.bool false), (.bool false), (.bool false), (.bool false), (.bool false), (.bool false), (.bool false), (.bool false), (.bool false), (.bool false), (.bool false), (.bool false), (.bool false), (.bool false), (.bool false), (.bool false), (.bool false), (.bool false), (.bool false), (.bool false), (.bool false), (.bool false), (.bool false), (.bool false), (.bool false), (.bool false), (.bool false), (.bool false), (.bool false), (.bool false), (.bool false), (.bool false), (.bool false), (.bool false)]) := by kernel_rfl
theorem zer85 : zer Tryz.prog 85 = (some [.int .u8 0, .int .u8 0, .int .u8 0, .int .u8 0, .int .u8 0, .int .u8 0]) := by kernel_rfl
theorem zer88 : zer Tryz.prog 88 = (some [(.lit (.map none))]) := by kernel_rfl
theorem zer95 : zer Tryz.prog 95 = (some [(.lit (.pointer none))]) := by kernel_rfl
theorem zer99 : zer Tryz.prog 99 = (some [.int .u8 0, .int .u8 0, .int .u8 0, .int .u8 0, .int .u8 0, .int .u8 0, .int .u8 0, .int .u8 0, .int .u8 0, .int .u8 0, .int .u8 0, .int .u8 0, .int .u8 0, .int .u8 0, .int .u8 0, .int .u8 0, .int .u8 0, .int .u8 0, .int .u8 0, .int .u8 0, .int .u8 0, .int .u8 0, .int .u8 0, .int .u8 0, .int .u8 0, .int .u8 0, .int .u8 0, .int .u8 0, .int .u8 0, .int .u8 0, .int .u8 0, .int .u8 0, (.lit .nilIface)]) := by kernel_rfl
theorem zeroG31 : zeroG Tryz.prog 31 = (some (.slice [] .nil)) := by kernel_rfl
theorem zeroG4 : zeroG Tryz.prog 4 = (some (.bool false)) := by kernel_rfl
set_option linter.defProp false in
def fbFw := ai aggT40 <| ai arr40 <| ai arr76 <| ai arr85 <| ai els142 <| ai els22 <| ai els23 <| ai els28 <| ai els31 <| ai els35 <| ai els59 <| ai els90 <| ai elt107 <| ai elt142 <| ai elt22 <| ai elt23 <| ai elt28 <| ai elt31 <| ai elt35 <| ai elt59 <| ai elt90 <| ai fld30_0 <| ai fld33_0 <| ai fld33_1 <| ai fld33_2 <| ai fld37_0 <| ai fld37_1 <| ai fld37_2 <| ai fld37_3 <| ai fld66_0 <| ai fld68_0 <| ai fld68_1 <| ai fld74_0 <| ai fld74_1 <| ai fld74_2 <| ai fld99_0 <| ai keyT64 <| ai keyT88 <| ai notInt107 <| ai notInt108 <| ai notInt117 <| ai notInt120 <| ai notInt129 <| ai notInt142 <| ai notInt153 <| ai notInt155 <| ai notInt156 <| ai notInt160 <| ai notInt20 <| ai notInt22 <| ai notInt23 <| ai notInt24 <| ai notInt27 <| ai notInt28 <| ai notInt3 <| ai notInt31 <| ai notInt33 <| ai notInt35 <| ai notInt37 <| ai notInt38 <| ai notInt4 <| ai notInt40 <| ai notInt45 <| ai notInt55 <| ai notInt56 <| ai notInt59 <| ai notInt64 <| ai notInt68 <| ai notInt83 <| ai notInt88 <| ai notInt90 <| ai plc30 <| ai plc33 <| ai plc40 <| ai plc66 <| ai plc68 <| ai plc85 <| ai plc99 <| ai tab117 <| ai tab120 <| ai tab156 <| ai tab23 <| ai tab24 <| ai tab28 <| ai tab3 <| ai tab31 <| ai tab33 <| ai tab35 <| ai tab37 <| ai tab38 <| ai tab4 <| ai tab40 <| ai tab45 <| ai tab5 <| ai tab64 <| ai tab68 <| ai tab74 <| ai tab88 <| ai tab95 <| ai und100 <| ai und107 <| ai und108 <| ai und122 <| ai und129 <| ai und142 <| ai und145 <| ai und153 <| ai und155 <| ai und156 <| ai und160 <| ai und20 <| ai und22 <| ai und23 <| ai und24 <| ai und27 <| ai und28 <| ai und3 <| ai und31 <| ai und35 <| ai und38 <| ai und4 <| ai und40 <| ai und5 <| ai und55 <| ai und56 <| ai und59 <| ai und64 <| ai und76 <| ai und83 <| ai und85 <| ai und88 <| ai und9 <| ai und90 <| ai und95 <| ai und97 <| ai zer117 <| ai zer156 <| ai zer3 <| ai zer30 <| ai zer33 <| ai zer38 <| ai zer40 <| ai zer64 <| ai zer66 <| ai zer68 <| ai zer74 <| ai zer76 <| ai zer85 <| ai zer88 <| ai zer95 <| ai zer99 <| ai zeroG31 <| zeroG4
end Gv.Tryz

/- Contracts: digits, prefixes, whether a string begins so. -/
set_option linter.unusedVariables false
set_option linter.unusedSimpArgs false
set_option maxRecDepth 20000
set_option maxHeartbeats 4000000
namespace Gv.Tryz
open Go Gv Go.Proofs
theorem mixS : Tryz.prog.follows .mixedOrders = true := by kernel_rfl
end Gv.Tryz
/- Contract: hex.Parse. -/
set_option linter.unusedVariables false
set_option linter.unusedSimpArgs false
set_option maxRecDepth 20000
set_option maxHeartbeats 4000000
namespace Gv.Tryz
open Go Gv Go.Proofs
end Gv.Tryz
/- bytes.Compare, at this program. -/
set_option linter.unusedVariables false
set_option maxRecDepth 100000
namespace Gv.Tryz
open Go Gv Go.Proofs
def lies (w : World) (a : Option Addr) (l : List UInt8) : Prop := l ≠ [] → ∃ p, a = some p ∧ ∀ (j : Nat) x, l[j]? = some x → w.cell? (p.add j) = some (.int .u8 x.toNat)
theorem run_bytesOf {P : Program} {w : World} {a : Option Addr} {l : List UInt8} (c : Nat) (h : lies w a l) : (Extern.Bytes.bytesOf (.slice a l.length c)).run P w = .ok ⟨l.toArray⟩ w := by
  cases a with
  | none =>
    cases l with
    | nil => rfl
    | cons x r => obtain ⟨p, hp, _⟩ := h (by simp); cases hp
  | some p =>
    cases l with
    | nil => rfl
    | cons x r =>
      obtain ⟨q, hq, hc⟩ := h (by simp)
      cases hq
      have := Lib.run_loadBytesX (P := P) w ((x :: r).map fun c => (c.toNat : Int)) p .empty (fun j y hy => by
        rw [List.getElem?_map] at hy
        cases hq : (x :: r)[j]? with
        | none => rw [hq] at hy; cases hy
        | some z => rw [hq] at hy; simp at hy; subst hy; exact hc j z hq)
      have e : Lib.bytesOf ((x :: r).map fun c => (c.toNat : Int)) = x :: r := by simp [Lib.bytesOf, List.map_map, Function.comp_def]
      rw [e, List.length_map] at this
      simpa [Extern.Bytes.bytesOf] using this
def cmpL (a b : List UInt8) : Int := Extern.BytealgCompare.cmp ⟨a.toArray⟩ ⟨b.toArray⟩
theorem run_compare {P : Program} {w : World} {a b : Option Addr} {x y : List UInt8} (c d : Nat) (h : lies w a x) (k : lies w b y) :
    (Extern.BytealgCompare.compare #[.slice a x.length c, .slice b y.length d]).run P w = .ok (.int .i64 (cmpL x y)) w := by
  change Sem.run P (do
    let p ← Extern.Bytes.bytesOf (.slice a x.length c)
    let q ← Extern.Bytes.bytesOf (.slice b y.length d)
    pure (goInt (Extern.BytealgCompare.cmp p q))) w = _
  simp only [Sem.run_bind, run_bytesOf c h, run_bytesOf d k, Result.andThen_ok]
  rfl
set_option maxHeartbeats 2000000 in
theorem calls21 (w : World) (a b : Option Addr) (x y : List UInt8) (c d : Nat) (h : lies w a x) (k : lies w b y) :
    Calls Tryz.prog 60 #[.slice a x.length c, .slice b y.length d] w fun e w' => e = .returned (.int .i64 (cmpL x y)) ∧ w' = w := by
  go_enter Tryz.func60, Tryz.ntmps60
  go_wp2
  rw [run_callFunc_extern Tryz.func78 (by kernel_rfl) (by kernel_rfl) (by kernel_rfl) (e := Extern.BytealgCompare.compare) (by kernel_rfl), run_compare c d h k]
  simp only [Result.andThen]
  rw [Oper.upon_value]
  go_wp2
  go_ret
  exact ⟨rfl, rfl⟩
end Gv.Tryz
/- slices.SortFunc over rows of structs, as a contract over ghost values. -/
set_option linter.unusedVariables false
namespace Gv
open Go Go.Proofs Go.Shelf Go.RowKit Go.Lib Go.Sort

section
variable {P : Program} {ρ : Ren}
set_option maxHeartbeats 2000000 in
theorem insertion_none (L : SlLaysF0.n20 P ρ) (p : Option Addr) (cap : Nat) (fv : Value) (w : World) :
    Calls P (ρ.f 20) #[.slice p 0 cap, .int .i64 0, .int .i64 0, fv] w fun e w' => e = .returned (.tuple #[]) ∧ w' = w := by
  have mixed := L.mixed; have t0 := L.t0; have a0 := L.a0; have z0 := L.z0; have v0 := L.v0; have t3 := L.t3; have a3 := L.a3; have z3 := L.z3; have v3 := L.v3; have t4 := L.t4; have a4 := L.a4; have z4 := L.z4; have v4 := L.v4; have t22 := L.t22; have a22 := L.a22; have z22 := L.z22; have v22 := L.v22; have t25 := L.t25; have a25 := L.a25; have z25 := L.z25; have v25 := L.v25
  obtain ⟨_, _, FG⟩ := L.f20
  go_enter FG, SlBodyF.n20_ntmps ρ
  go_wp2
  refine wp_loop_rounds 1 ?_
  rw [rounds_succ]
  go_wp2
  go_end0
  exact ⟨rfl, rfl⟩

set_option maxHeartbeats 2000000 in
theorem pdq_none (L : SlLaysF0.n14 P ρ) (p : Option Addr) (cap : Nat) (lim : Int) (fv : Value) (w : World) :
    Calls P (ρ.f 14) #[.slice p 0 cap, .int .i64 0, .int .i64 0, .int .i64 lim, fv] w fun e w' => e = .returned (.tuple #[]) ∧ w' = w := by
  have mixed := L.mixed; have t0 := L.t0; have a0 := L.a0; have z0 := L.z0; have v0 := L.v0; have t3 := L.t3; have a3 := L.a3; have z3 := L.z3; have v3 := L.v3; have t4 := L.t4; have a4 := L.a4; have z4 := L.z4; have v4 := L.v4; have t5 := L.t5; have a5 := L.a5; have z5 := L.z5; have v5 := L.v5; have t9 := L.t9; have a9 := L.a9; have z9 := L.z9; have v9 := L.v9; have t22 := L.t22; have a22 := L.a22; have z22 := L.z22; have v22 := L.v22; have t25 := L.t25; have a25 := L.a25; have z25 := L.z25; have v25 := L.v25; have t39 := L.t39; have a39 := L.a39; have z39 := L.z39; have v39 := L.v39; have t45 := L.t45; have a45 := L.a45; have z45 := L.z45; have v45 := L.v45; have t46 := L.t46; have a46 := L.a46; have z46 := L.z46; have v46 := L.v46; have t50 := L.t50; have a50 := L.a50; have z50 := L.z50; have v50 := L.v50; have t53 := L.t53; have a53 := L.a53; have z53 := L.z53; have v53 := L.v53; have t55 := L.t55; have a55 := L.a55; have z55 := L.z55; have v55 := L.v55; have t66 := L.t66; have a66 := L.a66; have z66 := L.z66; have v66 := L.v66; have t70 := L.t70; have a70 := L.a70; have z70 := L.z70; have v70 := L.v70; have t76 := L.t76; have a76 := L.a76; have z76 := L.z76; have v76 := L.v76; have t77 := L.t77; have a77 := L.a77; have z77 := L.z77; have v77 := L.v77
  have e20 : ∀ args w, (callFunc (ρ.f 20) args).run P w = .ok (.enter (ρ.f 20) args) w := L.f20.enters rfl
  have hi := fun W => insertion_none (P := P) (ρ := ρ) { L with } p cap fv W
  obtain ⟨_, _, FG⟩ := L.f14
  go_enter FG, SlBodyF.n14_ntmps ρ
  go_wp2
  refine wp_loop_rounds 1 ?_
  rw [rounds_succ]
  go_wp2_with (go_at_fn (ρ.f 20); refine (hi _).mono ?_; rintro e w' ⟨rfl, rfl⟩)
  (try simp only [Exit.inBlock, Exit.then]); refine bodyPost_ret (results_none rfl _ _ _) rfl ?_
  exact ⟨rfl, rfl⟩

set_option maxHeartbeats 2000000 in
theorem sort_none (L : SlLaysF0.n6 P ρ) (p : Option Addr) (cap : Nat) (fv : Value) (w : World) :
    Calls P (ρ.f 6) #[.slice p 0 cap, fv] w fun e w' => e = .returned (.tuple #[]) ∧ w' = w := by
  have mixed := L.mixed; have t0 := L.t0; have a0 := L.a0; have z0 := L.z0; have v0 := L.v0; have t3 := L.t3; have a3 := L.a3; have z3 := L.z3; have v3 := L.v3; have t4 := L.t4; have a4 := L.a4; have z4 := L.z4; have v4 := L.v4; have t5 := L.t5; have a5 := L.a5; have z5 := L.z5; have v5 := L.v5; have t9 := L.t9; have a9 := L.a9; have z9 := L.z9; have v9 := L.v9; have t22 := L.t22; have a22 := L.a22; have z22 := L.z22; have v22 := L.v22; have t25 := L.t25; have a25 := L.a25; have z25 := L.z25; have v25 := L.v25; have t39 := L.t39; have a39 := L.a39; have z39 := L.z39; have v39 := L.v39; have t45 := L.t45; have a45 := L.a45; have z45 := L.z45; have v45 := L.v45; have t46 := L.t46; have a46 := L.a46; have z46 := L.z46; have v46 := L.v46; have t50 := L.t50; have a50 := L.a50; have z50 := L.z50; have v50 := L.v50; have t53 := L.t53; have a53 := L.a53; have z53 := L.z53; have v53 := L.v53; have t55 := L.t55; have a55 := L.a55; have z55 := L.z55; have v55 := L.v55; have t66 := L.t66; have a66 := L.a66; have z66 := L.z66; have v66 := L.v66; have t70 := L.t70; have a70 := L.a70; have z70 := L.z70; have v70 := L.v70; have t76 := L.t76; have a76 := L.a76; have z76 := L.z76; have v76 := L.v76; have t77 := L.t77; have a77 := L.a77; have z77 := L.z77; have v77 := L.v77
  have e14 : ∀ args w, (callFunc (ρ.f 14) args).run P w = .ok (.enter (ρ.f 14) args) w := L.f14.enters rfl
  have e15 : ∀ args w, (callFunc (ρ.f 15) args).run P w = .ok (.enter (ρ.f 15) args) w := enters_of L.f15 (by kernel_rfl) rfl
  have hp := fun lim W => pdq_none (P := P) (ρ := ρ) { L with } p cap lim fv W
  have hl : ∀ W, Calls P (ρ.f 15) #[.int .u64 0] W fun e w' => e = .returned (.int .i64 (Lib.bitLen 0 : Nat)) ∧ w' = W := fun W => by
    have h := Any.bits_Len (SlLaysF0.n15.bits (P := P) (ρ := ρ) { L with }) 0 W (by omega) (by omega)
    exact h
  obtain ⟨_, _, FG⟩ := L.f6
  go_enter FG, SlBodyF.n6_ntmps ρ
  go_wp2_with (first | (go_at_fn (ρ.f 15); refine (hl _).mono ?_; rintro e w' ⟨rfl, rfl⟩) | (go_at_fn (ρ.f 14); refine (hp _ _).mono ?_; rintro e w' ⟨rfl, rfl⟩))
  go_end0
  exact ⟨rfl, rfl⟩
end

theorem flatMap_at {α : Type} (G : α → List GVal) (k : Nat) (hG : ∀ x, (G x).length = k) : ∀ (xs : List α) (t : Nat), (xs.map G).flatten[t]? = (xs[t / k]?).bind fun x => (G x)[t % k]?
  | [], t => by simp
  | x :: r, t => by
    rw [List.map_cons, List.flatten_cons]
    by_cases h : t < k
    · rw [List.getElem?_append_left (by rw [hG]; exact h), Nat.div_eq_of_lt h, Nat.mod_eq_of_lt h]
      rfl
    · rw [List.getElem?_append_right (by rw [hG]; omega), hG, flatMap_at G k hG r]
      by_cases hk : k = 0
      · subst hk
        have : ∀ y, G y = [] := fun y => List.eq_nil_of_length_eq_zero (hG y)
        simp [this]
      · have e : t = (t - k) + k := by omega
        have e1 : t / k = (t - k) / k + 1 := by
          conv => lhs; rw [e]
          rw [Nat.add_div_right _ (by omega)]
        have e2 : t % k = (t - k) % k := by
          conv => lhs; rw [e]
          rw [Nat.add_mod_right]
        rw [e1, e2, List.getElem?_cons_succ]

section
variable {α : Type} [Inhabited α]
theorem sortWorld_at (enc : α → List Value) (k : Nat) (w : World) (blk off m : Nat) (dk : Array α) (os : Array Obj) {cur : Array Value} {el : TypeId} {fr : Nat × Nat} (hc : w.heap[blk]? = some (.cells cur el fr)) :
    (sortWorldK enc k w blk off m dk os).os = w.os ∧ (sortWorldK enc k w blk off m dk os).output = w.output ∧ w.heap.size ≤ (sortWorldK enc k w blk off m dk os).heap.size ∧
    (∀ b, b < w.heap.size → b ≠ blk → (sortWorldK enc k w blk off m dk os).heap[b]? = w.heap[b]?) ∧
    (sortWorldK enc k w blk off m dk os).heap[blk]? = some (.cells (putCells id off (flatK enc k dk) cur) el fr) := by
  have e : (sortWorldK enc k w blk off m dk os).heap = (w.heap.modify blk (onCells (putCells id off (flatK enc k dk)))) ++ os := rfl
  have hlt := (Array.getElem?_eq_some_iff.1 hc).1
  refine ⟨rfl, rfl, by rw [e]; simp, fun b hb hn => ?_, ?_⟩
  · rw [e, Array.getElem?_append, if_pos (by simpa using hb), Array.getElem?_modify, if_neg (fun h => hn h.symm)]
  · rw [e, Array.getElem?_append, if_pos (by simpa using hlt), Array.getElem?_modify, if_pos rfl, hc]; rfl

theorem putCells_at (off : Nat) (d : Array Value) (c : Array Value) (j : Nat) (hj : j < d.size) (hc : off + j < c.size) : (putCells id off d c)[off + j]? = some d[j]! := by
  simp only [putCells, Array.getElem?_mapIdx, Array.getElem?_eq_getElem hc, Option.map_some]
  rw [if_pos ⟨by omega, by omega⟩, show off + j - off = j by omega]; rfl
theorem putCells_size (off : Nat) (d : Array Value) (c : Array Value) : (putCells id off d c).size = c.size := by simp [putCells]
theorem getBang_of {β : Type} [Inhabited β] {l : List β} {i : Nat} {x : β} (h : l[i]? = some x) : l[i]! = x := by simp [h]
end

theorem set_same {β : Type} {l : List β} {i : Nat} {x : β} (h : l[i]? = some x) : l.set i x = l := by
  apply List.ext_getElem?
  intro j
  rw [List.getElem?_set]
  by_cases e : i = j
  · subst e; rw [if_pos rfl, h, if_pos (List.getElem?_eq_some_iff.1 h).1]
  · rw [if_neg e]

theorem gcalls_sort {P : Program} {ρ : Ren} {α : Type} [Inhabited α] (L : SlLaysF0.n6 P ρ) (k : Nat) (aE : ∀ w, (isAgg (ρ.t 24)).run P w = .ok true w) (zE : ∀ w, (Go.sizeOf (ρ.t 24)).run P w = .ok k w)
    (enc : α → List Value) (G : α → List GVal) (hk : ∀ x, (enc x).length = k) (h1 : ∀ x, ∀ v ∈ enc x, v.oneCell' = true) (hG : ∀ x, (G x).length = k)
    (hdet : ∀ E x (j : Nat) g v, (G x)[j]? = some g → VR E v g → (enc x)[j]? = some v) (hback : ∀ E x (j : Nat) g, (G x)[j]? = some g → ∃ v, (enc x)[j]? = some v ∧ VR E v g)
    (cf : α → α → Int) (hO : SWO (ltOf cf)) (c : FuncId) (eg : ∀ args w, (callFunc c args).run P w = .ok (.enter c args) w)
    (hcmp : ∀ x y W, Calls P c #[.agg (enc x).toArray, .agg (enc y).toArray] W fun e w' => e = .returned (.int .i64 (cf x y)) ∧ ∃ q os', w' = grow (W.drewN q) os')
    (hen : enterable P (ρ.f 6) = true) (xs : List α) (hsz : xs.length < 4611686018427387904) {O : List GObj} {o st : Nat} (hOo : O[o]? = some (.row st k (xs.map G))) (hc : clockOf O = none) :
    GCalls P (ρ.f 6) [.own o st 0 xs.length, .func (.func c) [] []] O (fun r O' => r = .tuple [] ∧ ∃ ys : List α, ys.Perm xs ∧ ys.Pairwise (fun a b => ¬ cf b a < 0) ∧ O' = O.set o (.row st k (ys.map G))) := by
  refine ⟨hen, fun E w vs hs ha => ?_⟩
  obtain ⟨hvs, hva⟩ := ha
  have h2 : vs.size = 2 := hvs
  have hv0 := hva 0 _ rfl
  have hv1 := hva 1 _ rfl
  obtain ⟨v0, v1, rfl⟩ : ∃ a b, vs = #[a, b] := by
    refine ⟨vs[0], vs[1], Array.ext (by simp [h2]) fun i a b => ?_⟩
    have : i = 0 ∨ i = 1 := by omega
    rcases this with rfl | rfl <;> rfl
  have e0 : (#[v0, v1] : Array Value).getD 0 undef = v0 := rfl
  have e1 : (#[v0, v1] : Array Value).getD 1 undef = v1 := rfl
  rw [e0] at hv0; rw [e1] at hv1
  clear hva hvs h2 e0 e1
  cases hv1 with
  | func _ fs cs _ _ hf hkk hfs hcs =>
    have ef : fs = #[] := Array.eq_empty_of_size_eq_zero hf
    have ec : cs = #[] := Array.eq_empty_of_size_eq_zero hkk
    subst ef; subst ec
    have hreal := hs.real _ _ hOo
    cases hv0 with
    | own a _ cap _ _ _ l hl hcap hadr =>
      obtain ⟨l', hl', hsz', hrow, hm⟩ := hreal
      rw [hl] at hl'; cases hl'
      by_cases hx : xs = []
      · subst hx
        refine (sort_none L a cap _ w).mono ?_
        rintro e w' ⟨rfl, rfl⟩
        exact ⟨_, E, O, .tuple [], rfl, hs, .refl _ _ _, .tuple _ _ rfl (fun j g h => by simp at h), rfl, [], .refl _, .nil, (set_same hOo).symm⟩
      · have hpos : 0 < xs.length := List.length_pos_iff.2 hx
        rcases hadr with h0 | ⟨b, hb, rfl, htot⟩
        · omega
        rw [hb] at hm
        obtain ⟨cur, el, hw, hcs', hle, hrows, hsn⟩ := hm
        have hmul : (0 : Nat) * l.size = 0 := Nat.zero_mul _
        rw [hmul, Nat.add_zero]
        have hle' : l.off + xs.length * k ≤ cur.size := by rw [hcs']; simpa using hle
        have hlt := (Array.getElem?_eq_some_iff.1 hw).1
        have hcell : ∀ t, t < xs.length * k → ∃ v, cur[l.off + t]? = some v ∧ (flatK enc k xs.toArray)[t]! = v := fun t ht => by
          have hk0 : 0 < k := Nat.pos_of_ne_zero fun e => by subst e; simp at ht
          have hd : t / k < xs.length := Nat.div_lt_of_lt_mul (by rw [Nat.mul_comm]; exact ht)
          have hmd : t % k < k := Nat.mod_lt _ hk0
          have hx? : xs[t / k]? = some xs[t / k] := List.getElem?_eq_getElem hd
          have hg : (G xs[t / k])[t % k]? = some ((G xs[t / k])[t % k]'(by rw [hG]; exact hmd)) := List.getElem?_eq_getElem _
          obtain ⟨v, q1, _, q3⟩ := hrows t _ (by rw [flatMap_at G k hG, hx?]; exact hg)
          refine ⟨v, q1, ?_⟩
          rw [get_flatK _ _ _ _ (by simpa using ht)]
          have := hdet E _ _ _ _ hg q3
          have e1 : xs.toArray[t / k]! = xs[t / k] := by
            rw [getElem!_pos _ _ (by simpa using hd)]; rfl
          rw [e1]; exact getBang_of this
        have hH : HoldsK enc k w b l.off xs.toArray := fun t ht => by
          have ht' : t < xs.length * k := by simpa using ht
          obtain ⟨v, q1, q2⟩ := hcell t ht'
          refine ⟨?_, ?_⟩
          · show w.cell? _ = some (flatK enc k xs.toArray)[t]!
            rw [q2]; simp [World.cell?, hw, q1]
          · simp [World.frozen?, hw]
        have hcmp' : CmpLays P c #[] enc k cf b l.off xs.toArray.size w := fun m os dk _ x y => hcmp x y _
        refine (AnyQ.slices_SortFunc L k aE zE enc hk h1 cf hO c #[] b l.off cap xs.toArray w eg hcmp' hH hlt (by simpa using hsz)).mono ?_
        rintro e w' ⟨rfl, d', n, os, ⟨p1, p2, p3⟩, hsort, rfl⟩
        have hlen : d'.size = xs.length := by simpa using p1
        have hperm : d'.toList.Perm xs := by
          have q1 : d'.extract 0 xs.toArray.size = d' := by rw [← p1]; simp
          have q2 : xs.toArray.extract 0 xs.toArray.size = xs.toArray := by simp
          rw [q1, q2] at p3; exact p3
        have hpw : d'.toList.Pairwise (fun a b => ¬ cf b a < 0) := by
          rw [List.pairwise_iff_getElem]
          intro i j hi hj hij
          have := hsort i j (Nat.zero_le _) hij (by simp at hj; rw [← p1]; exact hj)
          rw [getElem!_pos d' j (by simpa using hj), getElem!_pos d' i (by simpa using hi)] at this
          simpa [ltOf] using this
        obtain ⟨s1, s2, s3, s4, s5⟩ := sortWorld_at enc k w b l.off n d' os hw
        have hup := hs.upd (E' := E) (w' := sortWorldK enc k w b l.off n d' os) (obj' := .row st k (d'.toList.map G)) (b := b) (t := b) hOo (.inl (by simp [GObj.blk, hl, hb])) (.inl rfl) (.refl E) hs.fin ⟨rfl, rfl⟩ s1 ⟨s2, trivial⟩ s3 s4 (fun _ _ _ _ hv => hv)
          (fun o v hv => by rw [hsn o] at hv; cases hv)
          (by
            refine ⟨l, hl, hsz', fun y hy => ?_, ?_⟩
            · obtain ⟨z, _, rfl⟩ := List.mem_map.1 hy; exact hG z
            rw [hb]
            refine ⟨_, el, s5, by rw [putCells_size]; exact hcs', by simp [hlen]; rw [← hcs']; exact hle', fun j g hj => ?_, hsn⟩
            rw [flatMap_at G k hG] at hj
            cases hq : d'.toList[j / k]? with
            | none => rw [hq] at hj; cases hj
            | some x =>
              rw [hq] at hj
              have hj' : (G x)[j % k]? = some g := hj
              obtain ⟨v, q1, q2⟩ := hback E x _ g hj'
              have hi : j / k < d'.size := by simpa using (List.getElem?_eq_some_iff.1 hq).1
              have hk0 : 0 < k := Nat.pos_of_ne_zero fun e => by
                have := (List.getElem?_eq_some_iff.1 hj').1; rw [hG, e] at this; omega
              have hjk : j < d'.size * k := (Nat.div_lt_iff_lt_mul hk0).1 hi
              have e3 : d'[j / k]! = x := by
                rw [getElem!_pos d' (j / k) hi]
                have := (List.getElem?_eq_some_iff.1 hq).2
                simpa using this
              refine ⟨v, ?_, h1 x v (List.mem_of_getElem? q1), q2⟩
              rw [putCells_at l.off _ _ j (by simpa using hjk) (by rw [hlen] at hjk; omega), get_flatK _ _ _ _ hjk, e3, getBang_of q1])
          (fun kk hkk => by simp [GObj.blk, hl, hb] at hkk; exact hkk.symm)
        exact ⟨_, E, _, .tuple [], rfl, hup.1, hup.2, .tuple _ _ rfl (fun j g h => by simp at h), rfl, d'.toList, hperm, hpw, rfl⟩
end Gv
/- bytes.Compare as a contract; the sort's closure. -/
set_option linter.unusedVariables false
set_option maxRecDepth 100000
namespace Gv.Tryz
open Go Gv Go.Proofs Go.Shelf Go.RowKit Go.Lib Go.Sort
theorem lies_heap {w : World} {b : Nat} {X : Array Value} {t : TypeId} {fz : Nat × Nat} {x : List UInt8} (h : w.heap[b]? = some (.cells X t fz)) (hc : ∀ (j : Nat) z, x[j]? = some z → X[j]? = some (.int .u8 z.toNat)) : lies w (some ⟨b, 0, none⟩) x := fun _ =>
  ⟨_, rfl, fun j z hj => by
    have h1 := hc j z hj
    by_cases h0 : j = 0
    · subst h0; simpa [World.cell?, h, Addr.add] using h1
    · simpa [World.cell?, h, Addr.add, h0] using h1⟩
abbrev Hs := { l : List UInt8 // l.length = 32 }
set_option maxHeartbeats 2000000 in
theorem sortClosure (x y : Hs) (W : World) : Calls Tryz.prog 59 #[.agg (bytesV x.1).toArray, .agg (bytesV y.1).toArray] W fun e w' => e = .returned (.int .i64 (cmpL x.1 y.1)) ∧ ∃ q os', w' = grow (W.drewN q) os' := by
  have hx : (bytesV x.1).toArray.size = 32 := by simp [bytesV, x.2]
  have hy : (bytesV y.1).toArray.size = 32 := by simp [bytesV, y.2]
  have cx : ∀ (j : Nat) z, x.1[j]? = some z → (bytesV x.1).toArray[j]? = some (.int .u8 z.toNat) := fun j z h => by simp [bytesV, h]
  have cy : ∀ (j : Nat) z, y.1[j]? = some z → (bytesV y.1).toArray[j]? = some (.int .u8 z.toNat) := fun j z h => by simp [bytesV, h]
  have lx : x.1.length = 32 := x.2
  have ly : y.1.length = 32 := y.2
  have hcmp : ∀ w a b, lies w a x.1 → lies w b y.1 → Calls Tryz.prog 60 #[.slice a 32 32, .slice b 32 32] w fun e w' => e = .returned (.int .i64 (cmpL x.1 y.1)) ∧ w' = w := fun w a b h1 h2 => by
    have := calls21 w a b x.1 y.1 32 32 h1 h2
    rwa [lx, ly] at this
  generalize cmpL x.1 y.1 = r at *
  generalize (bytesV x.1).toArray = X at *
  generalize (bytesV y.1).toArray = Y at *
  have hA : ((W.alloc (Obj.cells X 40)).alloc (Obj.cells Y 40)).drew.heap[W.heap.size]? = some (.cells X 40) := by
    show ((W.alloc (Obj.cells X 40)).alloc (Obj.cells Y 40)).heap[W.heap.size]? = _
    rw [Gv.alloc_old _ _ _ (by simp), Gv.alloc_new]
  have hB : ((W.alloc (Obj.cells X 40)).alloc (Obj.cells Y 40)).drew.heap[W.heap.size + 1]? = some (.cells Y 40) := by
    have e : W.heap.size + 1 = (W.alloc (Obj.cells X 40)).heap.size := by simp
    rw [e]
    exact Gv.alloc_new _ _
  have hc := hcmp _ _ _ (lies_heap hA cx) (lies_heap hB cy)
  go_enter Tryz.func59, Tryz.ntmps59
  go_wp2
  go_region_with (go_at_call 60; refine hc.mono ?_; rintro e w' ⟨rfl, rfl⟩)
  go_wp2
  go_ret
  exact ⟨rfl, 1, _, by rw [alloc_eq_grow, alloc_eq_grow, grow_grow]; rfl⟩
end Gv.Tryz
/- slices.SortFunc of hashes by their bytes, as a contract. -/
set_option linter.unusedVariables false
set_option maxRecDepth 100000
namespace Go.Proofs
open Go.Shelf
def Tryz.sortSp_ren : Go.Shelf.Ren := ⟨fun | 6 => 58 | 15 => 77 | 14 => 76 | 28 => 91 | 29 => 92 | 20 => 83 | 21 => 84 | 22 => 85 | 23 => 86 | 24 => 87 | 25 => 88 | 26 => 89 | 27 => 90 | 46 => 93 | 47 => 94 | 48 => 95 | 49 => 96 | 50 => 97 | 57 => 98 | n => n, fun | 22 => 31 | 24 => 40 | 25 => 108 | 3 => 3 | 39 => 129 | 0 => 0 | 53 => 153 | 55 => 155 | 4 => 4 | 46 => 146 | 45 => 145 | 50 => 150 | 5 => 5 | 9 => 9 | 66 => 156 | 70 => 160 | 76 => 162 | 77 => 163 | n => n, fun | n => n⟩
theorem Tryz.sortSp : Go.Proofs.SlLaysF0.n6 Tryz.prog Tryz.sortSp_ren := {
  mixed := by kernel_rfl
  f6 := ⟨Tryz.f58.name, by decide, Tryz.func58.trans (congrArg some (by kernel_rfl))⟩
  f14 := ⟨Tryz.f76.name, by decide, Tryz.func76.trans (congrArg some (by kernel_rfl))⟩
  f15 := Tryz.func77.trans (congrArg some (by kernel_rfl))
  f20 := ⟨Tryz.f83.name, by decide, Tryz.func83.trans (congrArg some (by kernel_rfl))⟩
  f21 := ⟨Tryz.f84.name, by decide, Tryz.func84.trans (congrArg some (by kernel_rfl))⟩
  f22 := ⟨Tryz.f85.name, by decide, Tryz.func85.trans (congrArg some (by kernel_rfl))⟩
  f23 := ⟨Tryz.f86.name, by decide, Tryz.func86.trans (congrArg some (by kernel_rfl))⟩
  f24 := ⟨Tryz.f87.name, by decide, Tryz.func87.trans (congrArg some (by kernel_rfl))⟩
  f25 := ⟨Tryz.f88.name, by decide, Tryz.func88.trans (congrArg some (by kernel_rfl))⟩
  f26 := ⟨Tryz.f89.name, by decide, Tryz.func89.trans (congrArg some (by kernel_rfl))⟩
  f27 := ⟨Tryz.f90.name, by decide, Tryz.func90.trans (congrArg some (by kernel_rfl))⟩
  f28 := Tryz.func91.trans (congrArg some (by kernel_rfl))
  f29 := Tryz.func92.trans (congrArg some (by kernel_rfl))
  f46 := ⟨Tryz.f93.name, by decide, Tryz.func93.trans (congrArg some (by kernel_rfl))⟩
  f47 := Tryz.func94.trans (congrArg some (by kernel_rfl))
  f48 := Tryz.func95.trans (congrArg some (by kernel_rfl))
  f49 := ⟨Tryz.f96.name, by decide, Tryz.func96.trans (congrArg some (by kernel_rfl))⟩
  f50 := ⟨Tryz.f97.name, by decide, Tryz.func97.trans (congrArg some (by kernel_rfl))⟩
  f57 := ⟨Tryz.f98.name, by decide, Tryz.func98.trans (congrArg some (by kernel_rfl))⟩
  t0 := Tryz.underlying0
  a0 := Tryz.isAgg0
  z0 := Tryz.sizeOf0
  v0 := Tryz.zeroValue0
  t3 := Tryz.underlying3
  a3 := Tryz.isAgg3
  z3 := Tryz.sizeOf3
  v3 := Tryz.zeroValue3
  t4 := Tryz.underlying4
  a4 := Tryz.isAgg4
  z4 := Tryz.sizeOf4
  v4 := Tryz.zeroValue4
  t5 := Tryz.underlying5
  a5 := Tryz.isAgg5
  z5 := Tryz.sizeOf5
  v5 := Tryz.zeroValue5
  t9 := Tryz.underlying9
  a9 := Tryz.isAgg9
  z9 := Tryz.sizeOf9
  v9 := Tryz.zeroValue9
  t22 := Tryz.underlying31
  a22 := Tryz.isAgg31
  z22 := Tryz.sizeOf31
  v22 := Tryz.zeroValue31
  t25 := Tryz.underlying108
  a25 := Tryz.isAgg108
  z25 := Tryz.sizeOf108
  v25 := Tryz.zeroValue108
  t39 := Tryz.underlying129
  a39 := Tryz.isAgg129
  z39 := Tryz.sizeOf129
  v39 := Tryz.zeroValue129
  t45 := Tryz.underlying145
  a45 := Tryz.isAgg145
  z45 := Tryz.sizeOf145
  v45 := Tryz.zeroValue145
  t46 := Tryz.underlying146
  a46 := Tryz.isAgg146
  z46 := Tryz.sizeOf146
  v46 := Tryz.zeroValue146
  t50 := Tryz.underlying150
  a50 := Tryz.isAgg150
  z50 := Tryz.sizeOf150
  v50 := Tryz.zeroValue150
  t53 := Tryz.underlying153
  a53 := Tryz.isAgg153
  z53 := Tryz.sizeOf153
  v53 := Tryz.zeroValue153
  t55 := Tryz.underlying155
  a55 := Tryz.isAgg155
  z55 := Tryz.sizeOf155
  v55 := Tryz.zeroValue155
  t66 := Tryz.underlying156
  a66 := Tryz.isAgg156
  z66 := Tryz.sizeOf156
  v66 := Tryz.zeroValue156
  t70 := Tryz.underlying160
  a70 := Tryz.isAgg160
  z70 := Tryz.sizeOf160
  v70 := Tryz.zeroValue160
  t76 := Tryz.underlying162
  a76 := Tryz.isAgg162
  z76 := Tryz.sizeOf162
  v76 := Tryz.zeroValue162
  t77 := Tryz.underlying163
  a77 := Tryz.isAgg163
  z77 := Tryz.sizeOf163
  v77 := Tryz.zeroValue163 }
end Go.Proofs
namespace Gv.Tryz
open Go Gv Go.Proofs Go.Shelf Go.RowKit Go.Lib Go.Sort
instance : Inhabited Hs := ⟨⟨List.replicate 32 0, by simp⟩⟩
def ltB : List UInt8 → List UInt8 → Bool
  | [], _ => false
  | _, [] => false
  | x :: a, y :: b => if x = y then ltB a b else decide (x < y)
theorem ba_get (x : UInt8) (a : List UInt8) (i : Nat) : (⟨(x :: a).toArray⟩ : ByteArray)[i + 1]! = (⟨a.toArray⟩ : ByteArray)[i]! := by
  by_cases h : i < a.length
  · rw [getElem!_pos _ _ (by show i + 1 < (x :: a).toArray.size; simp; exact h), getElem!_pos _ _ (by show i < a.toArray.size; simpa using h)]
    exact List.getElem_cons_succ x a i (by simp; exact h)
  · rw [getElem!_neg _ _ (by show ¬ i + 1 < (x :: a).toArray.size; simp; omega), getElem!_neg _ _ (by show ¬ i < a.toArray.size; simpa using h)]
theorem ba_zero (x : UInt8) (a : List UInt8) : (⟨(x :: a).toArray⟩ : ByteArray)[0]! = x := by
  rw [getElem!_pos _ _ (by show 0 < (x :: a).toArray.size; simp)]; rfl
theorem cmpL_cons (x y : UInt8) (a b : List UInt8) : cmpL (x :: a) (y :: b) = if x = y then cmpL a b else if x < y then -1 else 1 := by
  unfold cmpL Extern.BytealgCompare.cmp
  have hs : ∀ l : List UInt8, (⟨l.toArray⟩ : ByteArray).size = l.length := fun l => by simp [ByteArray.size]
  simp only [hs, List.length_cons]
  have e : min (a.length + 1) (b.length + 1) = min a.length b.length + 1 := by omega
  rw [e, List.range_succ_eq_map, List.find?_cons, ba_zero, ba_zero]
  by_cases h : x = y
  · subst h
    simp only [bne_self_eq_false, if_true]
    rw [List.find?_map]
    have e2 : ((fun i => (⟨(x :: a).toArray⟩ : ByteArray)[i]! != (⟨(x :: b).toArray⟩ : ByteArray)[i]!) ∘ Nat.succ) = fun i => (⟨a.toArray⟩ : ByteArray)[i]! != (⟨b.toArray⟩ : ByteArray)[i]! := by
      funext i
      simp only [Function.comp, Nat.succ_eq_add_one, ba_get]
    rw [e2]
    cases hq : (List.range (min a.length b.length)).find? fun i => (⟨a.toArray⟩ : ByteArray)[i]! != (⟨b.toArray⟩ : ByteArray)[i]! with
    | none => simp
    | some i => simp only [Option.map_some, Nat.succ_eq_add_one, ba_get]
  · have : (x != y) = true := by simpa using h
    rw [this, if_neg h]
    simp only [ba_zero]
theorem cmpL_ltB : ∀ (a b : List UInt8), a.length = b.length → (decide (cmpL a b < 0) = ltB a b)
  | [], [], _ => by decide
  | x :: a, [], h => by simp at h
  | [], y :: b, h => by simp at h
  | x :: a, y :: b, h => by
    rw [cmpL_cons]
    unfold ltB
    by_cases e : x = y
    · rw [if_pos e, if_pos e]; exact cmpL_ltB a b (by simpa using h)
    · rw [if_neg e, if_neg e]
      by_cases e2 : x < y
      · rw [if_pos e2, decide_eq_true e2]; rfl
      · rw [if_neg e2, decide_eq_false e2]; rfl
theorem ltB_irrefl : ∀ a, ltB a a = false
  | [] => rfl
  | x :: a => by simp [ltB, ltB_irrefl a]
theorem ltB_trans : ∀ {a b c : List UInt8}, a.length = b.length → b.length = c.length → ltB a b = true → ltB b c = true → ltB a c = true
  | [], b, c, _, _, h, _ => by simp [ltB] at h
  | x :: a, [], c, _, _, h, _ => by simp [ltB] at h
  | x :: a, y :: b, [], _, _, _, h => by simp [ltB] at h
  | x :: a, y :: b, z :: c, l1, l2, h1, h2 => by
    simp at l1 l2
    unfold ltB at *
    by_cases e1 : x = y
    · subst e1
      rw [if_pos rfl] at h1
      by_cases e2 : x = z
      · subst e2
        rw [if_pos rfl] at h2 ⊢
        exact ltB_trans l1 l2 h1 h2
      · rw [if_neg e2] at h2 ⊢; exact h2
    · rw [if_neg e1] at h1
      by_cases e2 : y = z
      · subst e2
        rw [if_neg e1]; exact h1
      · rw [if_neg e2] at h2
        have h3 : x < y := of_decide_eq_true h1
        have h4 : y < z := of_decide_eq_true h2
        have h5 : x < z := UInt8.lt_trans h3 h4
        rw [if_neg (UInt8.ne_of_lt h5)]; exact decide_eq_true h5
theorem ltB_total : ∀ {a b : List UInt8}, a.length = b.length → ltB a b = false → ltB b a = false → a = b
  | [], [], _, _, _ => rfl
  | x :: a, [], l, _, _ => by simp at l
  | [], y :: b, l, _, _ => by simp at l
  | x :: a, y :: b, l, h1, h2 => by
    simp at l
    unfold ltB at h1 h2
    by_cases e : x = y
    · subst e
      rw [if_pos rfl] at h1 h2
      rw [ltB_total l h1 h2]
    · rw [if_neg e] at h1
      rw [if_neg (fun h => e h.symm)] at h2
      have h3 := of_decide_eq_false h1
      have h4 := of_decide_eq_false h2
      exact absurd (UInt8.le_antisymm (UInt8.not_lt.1 h4) (UInt8.not_lt.1 h3)) e
def cfH (x y : Hs) : Int := cmpL x.1 y.1
theorem ltH (x y : Hs) : ltOf cfH x y = ltB x.1 y.1 := by
  have := cmpL_ltB x.1 y.1 (by rw [x.2, y.2])
  unfold ltOf cfH; exact this
theorem swoH : SWO (ltOf cfH) where
  irrefl x := by rw [ltH]; exact ltB_irrefl _
  trans x y z h1 h2 := by rw [ltH] at *; exact ltB_trans (by rw [x.2, y.2]) (by rw [y.2, z.2]) h1 h2
  ntrans x y z h1 h2 := by
    rw [ltH] at *
    cases hxz : ltB x.1 z.1 with
    | false => rfl
    | true =>
      cases hyx : ltB y.1 x.1 with
      | false =>
        have e := ltB_total (by rw [x.2, y.2]) h1 hyx
        rw [e] at hxz
        exact (hxz.symm.trans h2)
      | true => exact (ltB_trans (by rw [y.2, x.2]) (by rw [x.2, z.2]) hyx hxz).symm.trans h2
def hsG (l : List Hs) : List (List GVal) := l.map fun x => bytesG x.1
theorem sSort (xs : List Hs) (hsz : xs.length < 4611686018427387904) {O : List GObj} {o st : Nat} (hO : O[o]? = some (.row st 32 (hsG xs))) (hc : clockOf O = none) :
    GCalls Tryz.prog 58 [.own o st 0 xs.length, .func (.func 59) [] []] O (fun r O' => r = .tuple [] ∧ ∃ ys : List Hs, ys.Perm xs ∧ ys.Pairwise (fun a b => ltB b.1 a.1 = false) ∧ O' = O.set o (.row st 32 (hsG ys))) := by
  have h := gcalls_sort (α := Hs) Tryz.sortSp 32 Tryz.isAgg40 Tryz.sizeOf40 (fun x => bytesV x.1) (fun x => bytesG x.1) (fun x => by simp [bytesV, x.2])
    (fun x v hv => by simp only [bytesV, List.mem_map] at hv; obtain ⟨c, _, rfl⟩ := hv; rfl) (fun x => by simp [bytesG, x.2])
    (fun E x j g v hg hv => by
      simp only [bytesG, List.getElem?_map] at hg
      simp only [bytesV, List.getElem?_map]
      cases hq : x.1[j]? with
      | none => rw [hq] at hg; cases hg
      | some c => rw [hq] at hg; simp at hg; subst hg; cases hv; rfl)
    (fun E x j g hg => by
      simp only [bytesG, List.getElem?_map] at hg
      simp only [bytesV, List.getElem?_map]
      cases hq : x.1[j]? with
      | none => rw [hq] at hg; cases hg
      | some c => rw [hq] at hg; simp at hg; subst hg; exact ⟨_, rfl, .int _ _⟩)
    cfH swoH 59 (enters_of Tryz.func59 (by kernel_rfl) rfl) (fun x y W => sortClosure x y W) (by kernel_rfl) xs hsz hO hc
  refine h.mono ?_
  rintro g O' ⟨rfl, ys, h1, h2, rfl⟩
  refine ⟨rfl, ys, h1, h2.imp fun {a b} hab => ?_, rfl⟩
  have := ltH b a
  unfold ltOf at this
  rw [← this]; exact decide_eq_false hab
end Gv.Tryz
set_option linter.unusedVariables false
namespace Gv.Tryz
end Gv.Tryz
/- Contracts: Less, Begins, known, Pick. -/
set_option linter.unusedVariables false
set_option linter.unusedSimpArgs false
set_option maxRecDepth 20000
set_option maxHeartbeats 4000000
namespace Gv.Tryz
open Go Gv Go.Proofs
theorem sol_bytes : ∀ l : List UInt8, allSolid (bytesG l) = True
  | [] => eq_true trivial
  | c :: r => by have := sol_bytes r; simp only [bytesG, List.map_cons, allSolid, GVal.solid, true_and]; exact this
theorem tmod_pick (n m : Int) (hm : 0 < m) : (n.tmod m < 0 → n.tmod m + m = n % m) ∧ (0 ≤ n.tmod m → n.tmod m = n % m) := by
  have h := Int.tmod_eq_emod (a := n) (b := m)
  have h1 := Int.emod_nonneg n (by omega : m ≠ 0)
  have h2 := Int.emod_lt_of_pos n hm
  split at h <;> rename_i h3
  · simp at h; omega
  · have : m ∣ n ↔ n % m = 0 := Int.dvd_iff_emod_eq_zero
    have : n % m ≠ 0 := fun e => h3 (.inr (this.2 e))
    omega
theorem sPick (n m : Int) (hm : 0 < m) (hm2 : m ≤ 1000000000) : GPure Tryz.prog 31 [.int .i64 n, .int .i64 m] (.int .i64 (n % m)) := by
  refine h31.pure mixS (by simp) ?_
  simp only [gstart, s31, List.cons_append, List.nil_append, List.length_cons, List.length_nil, Nat.reduceAdd, Nat.reduceSub, List.replicate_succ, List.replicate_zero]
  simp +contextual -implicitDefEqProofs (maxSteps := 2000000) (disch := omega) only [binV, GVal.ofConst, ↓resV, resG, ne_eq, vcA, ↓vcB, vcC, e31]
  obtain ⟨h1, h2⟩ := tmod_pick n m hm
  have h3 := Int.emod_nonneg n (by omega : m ≠ 0)
  have h4 := Int.emod_lt_of_pos n hm
  exact ⟨by omega, fun h => by rw [h1 h, norm_i64 (by omega)], h2⟩
end Gv.Tryz
/- Digits of bytes: the plain theory. -/
set_option linter.unusedVariables false
set_option maxRecDepth 100000
namespace Gv.Tryz
open Go Gv Go.Proofs
theorem cells_eq : ∀ (a b : List UInt8) (n : Nat), a.length = n → b.length = n → cellsEq (List.replicate n Sk.int) (bytesG a) (bytesG b) = some (decide (a = b))
  | [], [], n, h, _ => by subst h; rfl
  | x :: a, [], n, h1, h2 => by simp at h1 h2; omega
  | [], y :: b, n, h1, h2 => by simp at h1 h2; omega
  | x :: a, y :: b, 0, h1, h2 => by simp at h1
  | x :: a, y :: b, n + 1, h1, h2 => by
    have ih := cells_eq a b n (by simpa using h1) (by simpa using h2)
    simp only [bytesG] at ih
    simp only [List.replicate_succ, bytesG, List.map_cons, cellsEq, ceq, if_true, ih]
    congr 1
    have e : (x.toNat : Int) = y.toNat ↔ x = y := ⟨fun h => UInt8.toNat_inj.1 (by omega), fun h => by rw [h]⟩
    rw [Bool.eq_iff_iff]
    simp [e]
end Gv.Tryz
/- HexBack: the walk. -/
set_option linter.unusedVariables false
set_option linter.unusedSimpArgs false
set_option maxRecDepth 20000
set_option maxHeartbeats 4000000
namespace Gv.Tryz
open Go Gv Go.Proofs
theorem cells32 (a b : List UInt8) (ha : a.length = 32) (hb : b.length = 32) : cellsEq [Sk.int, Sk.int, Sk.int, Sk.int, Sk.int, Sk.int, Sk.int, Sk.int, Sk.int, Sk.int, Sk.int, Sk.int, Sk.int, Sk.int, Sk.int, Sk.int, Sk.int, Sk.int, Sk.int, Sk.int, Sk.int, Sk.int, Sk.int, Sk.int, Sk.int, Sk.int, Sk.int, Sk.int, Sk.int, Sk.int, Sk.int, Sk.int] (bytesG a) (bytesG b) = some (decide (a = b)) := cells_eq a b 32 ha hb
end Gv.Tryz
/- Contracts: reference Less, SameHashes, Hash. -/
set_option linter.unusedVariables false
set_option linter.unusedSimpArgs false
set_option maxRecDepth 20000
set_option maxHeartbeats 4000000
namespace Gv.Tryz
open Go Gv Go.Proofs
def h0 : Hs := ⟨List.replicate 32 0, by simp⟩
theorem hsG_len (l : List Hs) : (hsG l).length = l.length := by simp [hsG]
theorem hsG_at (l : List Hs) (i : Nat) (h : i < l.length) : (hsG l).getD i [] = bytesG (l.getD i h0).1 := by simp [hsG, List.getD, h]
theorem all_hsG (l : List Hs) : (∀ x ∈ hsG l, x.length = 32) = True := eq_true fun x hx => by obtain ⟨s, _, rfl⟩ := List.mem_map.1 hx; rw [bytesG_len, s.2]
theorem hsG_app (a b : List Hs) : hsG (a ++ b) = hsG a ++ hsG b := by simp [hsG]
theorem drop_bytes (l : List UInt8) (n : Nat) : (bytesG l).drop n = bytesG (l.drop n) := by simp [bytesG, List.map_drop]
theorem ltB_drop : ∀ (a b : List UInt8) (k : Nat), a.length = b.length → k < a.length → ltB (a.drop k) (b.drop k) = if (a.getD k 0) = (b.getD k 0) then ltB (a.drop (k + 1)) (b.drop (k + 1)) else decide (a.getD k 0 < b.getD k 0) := by
  intro a b k h hk
  have ea : a.drop k = a.getD k 0 :: a.drop (k + 1) := by rw [List.drop_eq_getElem_cons hk]; simp [List.getD, hk]
  have eb : b.drop k = b.getD k 0 :: b.drop (k + 1) := by rw [List.drop_eq_getElem_cons (by omega)]; simp [List.getD, (by omega : k < b.length)]
  rw [ea, eb]
  simp only [ltB]
theorem drop_cons0 {l : List UInt8} {k : Nat} (h : k < l.length) : l.drop k = l.getD k 0 :: l.drop (k + 1) := by
  rw [List.drop_eq_getElem_cons h]; simp [List.getD, h]
theorem hLessR (a b : List UInt8) (ha : a.length = 32) (hb : b.length = 32) : GPure Tryz.prog 53 [.agg (bytesG a), .agg (bytesG b)] (.bool (ltB a b)) := by
  refine h53.pure mixS (by simp) ?_
  simp only [gstart, s53, List.cons_append, List.nil_append, List.length_cons, List.length_nil, Nat.reduceAdd, Nat.reduceSub, List.replicate_succ, List.replicate_zero]
  have la := bytesG_len a
  have lb := bytesG_len b
  have ta : List.take 32 (bytesG a) = bytesG a := List.take_of_length_le (by omega)
  have tb : List.take 32 (bytesG b) = bytesG b := List.take_of_length_le (by omega)
  simp +contextual -implicitDefEqProofs (maxSteps := 2000000) (disch := omega) only [↓boxV, GVal.cells, GVal.ofConst, Nat.reduceBEq, vcA, ↓vcB, vcC, e53, sol_bytes]
  refine vcSLoop_by (ι := { k : Nat // k ≤ 32 ∧ ltB (a.drop k) (b.drop k) = ltB a b }) (fun k => ⟨[.any, .any, .ref (bytesG a), .ref (bytesG b), .any, .int .i64 (k.1 : Nat)] ++ List.replicate 18 .any, []⟩) (fun k => 32 - k.1) ?_ ?_
  · exact Into.first ⟨0, by omega, by simp⟩ ⟨[], by simp⟩ (by simp [WL, leG_self, leG_any])
  · rintro ⟨k, hk, he⟩
    by_cases h : k < 32
    · have d0 : ((k : Int) < 32) = True := eq_true (by omega)
      rw [ltB_drop a b k (by omega) (by omega)] at he
      obtain ⟨ra, ea⟩ : ∃ ra, List.drop (k * 1) (bytesG a) = .int .u8 (a.getD k 0).toNat :: ra :=
        ⟨bytesG (a.drop (k + 1)), by rw [Nat.mul_one, drop_bytes, drop_cons0 (by omega)]; rfl⟩
      obtain ⟨rb, eb⟩ : ∃ rb, List.drop (k * 1) (bytesG b) = .int .u8 (b.getD k 0).toNat :: rb :=
        ⟨bytesG (b.drop (k + 1)), by rw [Nat.mul_one, drop_bytes, drop_cons0 (by omega)]; rfl⟩
      obtain ⟨x, ex⟩ : ∃ x, a.getD k 0 = x := ⟨_, rfl⟩
      obtain ⟨y, ey⟩ : ∃ y, b.getD k 0 = y := ⟨_, rfl⟩
      rw [ex, ey] at he
      rw [ex] at ea
      rw [ey] at eb
      have ta1 : List.take 1 (List.drop (k * 1) (bytesG a)) = [.int .u8 x.toNat] := by rw [ea]; rfl
      have tb1 : List.take 1 (List.drop (k * 1) (bytesG b)) = [.int .u8 y.toNat] := by rw [eb]; rfl
      have la1 : (1 ≤ (List.drop (k * 1) (bytesG a)).length) = True := by rw [ea]; simp
      have lb1 : (1 ≤ (List.drop (k * 1) (bytesG b)).length) = True := by rw [eb]; simp
      have hx := x.toNat_lt
      have hy := y.toNat_lt
      simp +contextual -implicitDefEqProofs (maxSteps := 2000000) (disch := omega) only [drawC, drawK, binV, ↓loadV, ↓indexAddrV, grp, GVal.ofConst, ↓resV, resG, List.headD, implies_true, ne_eq, List.replicate, vcA, ↓vcB, vcC, fbFw, d0, ta1, tb1, la1, lb1]
      refine ⟨by omega, by omega, by omega, by omega, fun c => ⟨by omega, by omega, by omega, by omega, ?_⟩, fun c => ?_⟩
      · rw [if_neg (fun e => c (by rw [e]))] at he
        rw [← he]
        exact decide_eq_decide.2 (by rw [UInt8.lt_iff_toNat_lt]; omega)
      · rw [if_pos (UInt8.toNat_inj.1 (by omega))] at he
        exact Into.at ⟨k + 1, by omega, he⟩ (by show _ < _; simp; omega) ⟨[], by simp⟩ (by simp [WL, leG_self, leG_any])
    · have d0 : ((k : Int) < 32) = False := eq_false (by omega)
      rw [List.drop_of_length_le (by omega), List.drop_of_length_le (by omega)] at he
      simp +contextual -implicitDefEqProofs (maxSteps := 2000000) (disch := omega) only [drawC, drawK, binV, ↓loadV, ↓indexAddrV, grp, GVal.ofConst, ↓resV, resG, List.headD, ↓reduceIte, reduceCtorEq, implies_true, ne_eq, aggV, List.replicate, vcA, ↓vcB, vcC, fbFw, d0, false_imp_iff]
      rw [← he]; rfl
theorem cellsEq_hs (a b : Hs) : cellsEq [Sk.int, Sk.int, Sk.int, Sk.int, Sk.int, Sk.int, Sk.int, Sk.int, Sk.int, Sk.int, Sk.int, Sk.int, Sk.int, Sk.int, Sk.int, Sk.int, Sk.int, Sk.int, Sk.int, Sk.int, Sk.int, Sk.int, Sk.int, Sk.int, Sk.int, Sk.int, Sk.int, Sk.int, Sk.int, Sk.int, Sk.int, Sk.int] (bytesG a.1) (bytesG b.1) = some (decide (a = b)) := by
  refine (cells32 a.1 b.1 a.2 b.2).trans ?_
  exact congrArg some (decide_eq_decide.2 ⟨Subtype.ext, fun h => by rw [h]⟩)
theorem take32 (a : Hs) : List.take 32 (bytesG a.1) = bytesG a.1 := List.take_of_length_le (by rw [bytesG_len, a.2]; omega)
theorem len32 (a : Hs) : (bytesG a.1).length = 32 := by rw [bytesG_len, a.2]
theorem takeH {l : List Hs} {k : Nat} (h : k < l.length) : l.take (k + 1) = l.take k ++ [l.getD k h0] := by
  rw [List.take_add_one]; simp [List.getD, h]
theorem dropH {l : List Hs} {k : Nat} (h : k < l.length) : l.drop k = l.getD k h0 :: l.drop (k + 1) := by
  rw [List.drop_eq_getElem_cons h]; simp [List.getD, h]
theorem hSame (a b : List Hs) (ta tb : Tag) (hl : a.length ≤ 4398046511104) : GPure Tryz.prog 14 [.slice (hsG a) ta, .slice (hsG b) tb] (.bool (decide (a = b))) := by
  refine h14.pure mixS (by simp) ?_
  simp only [gstart, s14, List.cons_append, List.nil_append, List.length_cons, List.length_nil, Nat.reduceAdd, Nat.reduceSub, List.replicate_succ, List.replicate_zero]
  simp +contextual -implicitDefEqProofs (maxSteps := 2000000) (disch := omega) only [↓lenV, binV, GVal.ofConst, ↓resV, resG, ne_eq, vcA, ↓vcB, vcC, fbFw, e14, hsG_len]
  refine ⟨fun h => ?_, fun h => ?_⟩
  · rw [decide_eq_false (fun e => h (by rw [e]))]
  refine vcSLoop_by (ι := { k : Nat // k ≤ a.length ∧ a.take k = b.take k }) (fun k => ⟨[.slice (hsG a) ta, .slice (hsG b) tb, .any, .any, .any, .int .i64 (k.1 : Nat)] ++ List.replicate 20 .any, []⟩) (fun k => a.length - k.1) ?_ ?_
  · exact Into.first ⟨0, by omega, by simp⟩ ⟨[], by simp⟩ (by simp [WL, leG_self, leG_any])
  · rintro ⟨k, hk, he⟩
    by_cases h' : k < a.length
    · have d0 : ((k : Int) < (a.length : Int)) = True := eq_true (by omega)
      have ea := hsG_at a k h'
      have eb := hsG_at b k (by omega)
      obtain ⟨x, ex⟩ : ∃ x, a.getD k h0 = x := ⟨_, rfl⟩
      obtain ⟨y, ey⟩ : ∃ y, b.getD k h0 = y := ⟨_, rfl⟩
      rw [ex] at ea
      rw [ey] at eb
      simp +contextual -implicitDefEqProofs (maxSteps := 2000000) (disch := omega) only [drawC, drawK, ↓lenV, binV, ↓loadV, ↓indexAddrV, grp, GVal.ofConst, ↓resV, resG, Nat.reduceEqDiff, Nat.reduceLeDiff, reduceCtorEq, aggV, List.replicate, vcA, ↓vcB, vcC, fbFw, hsG_len, d0, ea, eb, take32, len32, cellsEq_hs x y]
      refine ⟨by omega, by omega, by omega, fun c => ?_, fun c => ?_⟩
      · exact Into.at ⟨k + 1, by omega, by rw [takeH h', takeH (by omega), he, ex, ey, c]⟩ (by show _ < _; simp; omega) ⟨[], by simp⟩ (by simp [WL, leG_self, leG_any])
      · rw [decide_eq_false fun e => c (by rw [← ex, ← ey, e])]
    · have d0 : ((k : Int) < (a.length : Int)) = False := eq_false (by omega)
      rw [List.take_of_length_le (by omega), List.take_of_length_le (by omega)] at he
      simp +contextual -implicitDefEqProofs (maxSteps := 2000000) (disch := omega) only [drawC, drawK, ↓lenV, binV, ↓loadV, ↓indexAddrV, grp, GVal.ofConst, ↓resV, resG, ↓reduceIte, Nat.reduceEqDiff, reduceCtorEq, aggV, List.replicate, vcA, ↓vcB, vcC, fbFw, hsG_len, d0, false_imp_iff]
      rw [decide_eq_true he]
theorem norm_u8c (x : Int) : ∃ c : UInt8, norm .u8 x = (c.toNat : Int) := by
  have h : norm .u8 x = x % 256 := rfl
  refine ⟨UInt8.ofNat (x % 256).toNat, ?_⟩
  rw [h, UInt8.toNat_ofNat']
  omega
theorem six (m : Int) (h : 0 ≤ m) : ∃ c : UInt8, List.take 1 (List.drop ((m.tmod 6).toNat * 1) ([.int .u8 171, .int .u8 171, .int .u8 160, .int .u8 18, .int .u8 254, .int .u8 171] : List GVal)) = [.int .u8 c.toNat] := by
  have h1 := Int.tmod_nonneg 6 h
  have h2 := Int.tmod_lt_of_pos m (by decide : (0 : Int) < 6)
  have : (m.tmod 6).toNat < 6 := by omega
  generalize (m.tmod 6).toNat = k at *
  match k, this with
  | 0, _ => exact ⟨171, rfl⟩
  | 1, _ => exact ⟨171, rfl⟩
  | 2, _ => exact ⟨160, rfl⟩
  | 3, _ => exact ⟨18, rfl⟩
  | 4, _ => exact ⟨254, rfl⟩
  | 5, _ => exact ⟨171, rfl⟩
theorem hHash (n : Int) : ∃ f : Hs, GPure Tryz.prog 17 [.int .i64 n] (.agg (bytesG f.1)) := by
  have b1 := Int.emod_nonneg n (by decide : (60 : Int) ≠ 0)
  have b2 := Int.emod_lt_of_pos n (by decide : (0 : Int) < 60)
  obtain ⟨m, em⟩ : ∃ m, n % 60 = m := ⟨_, rfl⟩
  rw [em] at b1 b2
  obtain ⟨c, hc⟩ := six m b1
  obtain ⟨p, hp⟩ := norm_u8c (norm .i64 (norm .i64 (m.tdiv 6) * 16))
  obtain ⟨q, hq⟩ := norm_u8c (m * 7)
  obtain ⟨r, hr⟩ := norm_u8c m
  refine ⟨⟨c :: p :: q :: (List.replicate 28 0 ++ [r]), by simp⟩, ?_⟩
  have fin : bytesG (c :: p :: q :: (List.replicate 28 0 ++ [r])) = [.int .u8 c.toNat, .int .u8 p.toNat, .int .u8 q.toNat, .int .u8 0, .int .u8 0, .int .u8 0, .int .u8 0, .int .u8 0, .int .u8 0, .int .u8 0, .int .u8 0, .int .u8 0, .int .u8 0, .int .u8 0, .int .u8 0, .int .u8 0, .int .u8 0, .int .u8 0, .int .u8 0, .int .u8 0, .int .u8 0, .int .u8 0, .int .u8 0, .int .u8 0, .int .u8 0, .int .u8 0, .int .u8 0, .int .u8 0, .int .u8 0, .int .u8 0, .int .u8 0, .int .u8 r.toNat] := rfl
  rw [fin]
  refine h17.pure mixS (by simp) ?_
  simp only [gstart, s17, List.cons_append, List.nil_append, List.length_cons, List.length_nil, Nat.reduceAdd, Nat.reduceSub, List.replicate_succ, List.replicate_zero]
  simp +contextual -implicitDefEqProofs (maxSteps := 2000000) (disch := omega) only [↓allocV, GVal.ofConst, List.map, Nat.reduceAdd, GVal.solid, vcA, ↓vcB, vcC, fbFw, e17]
  intro st
  refine (sPick n 60 (by omega) (by omega)).then ?_ (by rfl)
  have d6 := Int.tmod_nonneg 6 b1
  have d7 := Int.tmod_lt_of_pos m (by decide : (0 : Int) < 6)
  have t0 : Int.toNat 0 = 0 := rfl
  have t1 : Int.toNat 1 = 1 := rfl
  have t2 : Int.toNat 2 = 2 := rfl
  have t3 : Int.toNat 31 = 31 := rfl
  simp +contextual -implicitDefEqProofs (maxSteps := 2000000) (disch := omega) only [binV, ↓convV, ↓loadV, ↓storeV, ↓indexAddrV, ↓indexV, ↓allocV, ↓buildV, fillG, place, GVal.cells, grp, GVal.ofConst, ↓resV, resG, List.map, List.headD, List.take, List.drop, ↓reduceIte, Nat.reduceEqDiff, Nat.reduceAdd, Nat.reduceLeDiff, reduceCtorEq, implies_true, ne_eq, allSolid, GVal.solid, Nat.reduceMul, splice, vcA, ↓vcB, vcC, fbFw, em, hc, hp, hq, hr, t0, t1, t2, t3, Nat.zero_mul]
  exact fun st => ⟨by omega, d6, d7, by omega, by omega, by omega, by omega, by omega, by omega, by omega, by omega, by omega, by omega⟩
end Gv.Tryz
/- Contracts: reference Put, Sort. -/
set_option linter.unusedVariables false
set_option linter.unusedSimpArgs false
set_option maxRecDepth 20000
set_option maxHeartbeats 4000000
namespace Gv.Tryz
open Go Gv Go.Proofs
def idxH : List Hs → Hs → Nat
  | [], _ => 0
  | x :: r, h => if ltB x.1 h.1 = true then idxH r h + 1 else 0
def putH (l : List Hs) (h : Hs) : List Hs :=
  if idxH l h < l.length ∧ l.getD (idxH l h) h0 = h then l else l.take (idxH l h) ++ [h] ++ l.drop (idxH l h)
theorem take_hs (l : List Hs) (n : Nat) : (hsG l).take n = hsG (l.take n) := by simp [hsG, List.map_take]
theorem toNat0 : Int.toNat 0 = 0 := rfl
theorem idxH_cons (x : Hs) (r : List Hs) (h : Hs) : idxH (x :: r) h = if ltB x.1 h.1 = true then idxH r h + 1 else 0 := rfl
def sortR (l : List Hs) : List Hs := l.foldl putH []
end Gv.Tryz
/- Hashes in order, each once: the plain theory. -/
set_option linter.unusedVariables false
namespace Gv.Tryz
open Go Gv Go.Proofs
abbrev LT (a b : Hs) : Prop := ltB a.1 b.1 = true
abbrev SS (l : List Hs) : Prop := l.Pairwise LT
theorem LT.trans {a b c : Hs} (h : LT a b) (k : LT b c) : LT a c := ltB_trans (by rw [a.2, b.2]) (by rw [b.2, c.2]) h k
theorem LT.irrefl (a : Hs) : ¬ LT a a := by unfold LT; rw [ltB_irrefl]; simp
theorem LT.total {a b : Hs} (h : ltB a.1 b.1 = false) (n : a ≠ b) : LT b a := by
  cases e : ltB b.1 a.1 with
  | true => exact e
  | false => exact absurd (Subtype.ext (ltB_total (by rw [a.2, b.2]) h e)) n
theorem putH_nil (h : Hs) : putH [] h = [h] := by simp [putH]
theorem putH_cons (x : Hs) (r : List Hs) (h : Hs) : putH (x :: r) h = if LT x h then x :: putH r h else if x = h then x :: r else h :: x :: r := by
  unfold putH
  rw [idxH_cons]
  by_cases c : LT x h
  · rw [if_pos c, if_pos c]
    simp only [List.length_cons, List.getD_cons_succ, Nat.add_lt_add_iff_right, List.take_succ_cons, List.drop_succ_cons, List.cons_append]
    split <;> rfl
  · rw [if_neg c, if_neg c]
    simp
theorem putH_mem : ∀ (l : List Hs) (h z : Hs), z ∈ putH l h ↔ z ∈ l ∨ z = h
  | [], h, z => by rw [putH_nil]; simp
  | x :: r, h, z => by
    rw [putH_cons]
    have := putH_mem r h z
    split
    · simp only [List.mem_cons, this, or_assoc]
    · split
      · rename_i e; subst e; simp only [List.mem_cons]
        constructor
        · exact .inl
        · rintro (h | h)
          · exact h
          · exact .inl h
      · simp only [List.mem_cons]
        constructor
        · rintro (h | h)
          · exact .inr h
          · exact .inl h
        · rintro (h | h)
          · exact .inr h
          · exact .inl h
theorem putH_ss : ∀ {l : List Hs} (h : Hs), SS l → SS (putH l h)
  | [], h, _ => by rw [putH_nil]; simp [SS]
  | x :: r, h, hs => by
    rw [putH_cons]
    obtain ⟨h1, h2⟩ := List.pairwise_cons.1 hs
    split
    · rename_i c
      refine List.pairwise_cons.2 ⟨fun z hz => ?_, putH_ss h h2⟩
      rcases (putH_mem r h z).1 hz with h3 | rfl
      · exact h1 z h3
      · exact c
    · rename_i c
      split
      · exact hs
      · rename_i n
        have c' : ltB x.1 h.1 = false := by cases e : ltB x.1 h.1 with | true => exact absurd e c | false => rfl
        have hx := LT.total c' n
        refine List.pairwise_cons.2 ⟨fun z hz => ?_, hs⟩
        rcases List.mem_cons.1 hz with rfl | h3
        · exact hx
        · exact hx.trans (h1 z h3)
theorem foldl_put : ∀ (l acc : List Hs), SS acc → SS (l.foldl putH acc) ∧ ∀ z, z ∈ l.foldl putH acc ↔ z ∈ l ∨ z ∈ acc
  | [], acc, h => ⟨h, by simp⟩
  | x :: r, acc, h => by
    obtain ⟨h1, h2⟩ := foldl_put r (putH acc x) (putH_ss x h)
    refine ⟨h1, fun z => ?_⟩
    rw [List.foldl_cons, h2, putH_mem, List.mem_cons]
    constructor
    · rintro (h | h | h)
      · exact .inl (.inr h)
      · exact .inr h
      · exact .inl (.inl h)
    · rintro ((h | h) | h)
      · exact .inr (.inr h)
      · exact .inl h
      · exact .inr (.inl h)
theorem sortR_ss (l : List Hs) : SS (sortR l) := (foldl_put l [] List.Pairwise.nil).1
theorem sortR_mem (l : List Hs) (z : Hs) : z ∈ sortR l ↔ z ∈ l := by
  have := (foldl_put l [] List.Pairwise.nil).2 z
  simpa [sortR] using this
theorem ss_eq : ∀ {a b : List Hs}, SS a → SS b → (∀ z, z ∈ a ↔ z ∈ b) → a = b
  | [], b, _, _, h => by
    cases b with
    | nil => rfl
    | cons y s => exact absurd ((h y).2 (by simp)) (by simp)
  | x :: r, [], _, _, h => absurd ((h x).1 (by simp)) (by simp)
  | x :: r, y :: s, ha, hb, h => by
    obtain ⟨a1, a2⟩ := List.pairwise_cons.1 ha
    obtain ⟨b1, b2⟩ := List.pairwise_cons.1 hb
    have e : x = y := by
      rcases List.mem_cons.1 ((h x).1 (by simp)) with e | hx
      · exact e
      · rcases List.mem_cons.1 ((h y).2 (by simp)) with e | hy
        · exact e.symm
        · exact absurd ((b1 x hx).trans (a1 y hy)) (LT.irrefl y)
    subst e
    refine congrArg (x :: ·) (ss_eq a2 b2 fun z => ⟨fun hz => ?_, fun hz => ?_⟩)
    · rcases List.mem_cons.1 ((h z).1 (List.mem_cons_of_mem _ hz)) with rfl | h3
      · exact absurd (a1 z hz) (LT.irrefl z)
      · exact h3
    · rcases List.mem_cons.1 ((h z).2 (List.mem_cons_of_mem _ hz)) with rfl | h3
      · exact absurd (b1 z hz) (LT.irrefl z)
      · exact h3
def ddT : Hs → List Hs → List Hs
  | _, [] => []
  | x, y :: r => if y = x then ddT y r else y :: ddT y r
theorem ddT_cons (x y : Hs) (r : List Hs) : ddT x (y :: r) = if y = x then ddT y r else y :: ddT y r := rfl
def dd : List Hs → List Hs
  | [] => []
  | x :: r => x :: ddT x r
abbrev WS (l : List Hs) : Prop := l.Pairwise (fun a b => ltB b.1 a.1 = false)
theorem ddT_ss : ∀ (x : Hs) (r : List Hs), WS (x :: r) → SS (x :: ddT x r) ∧ ∀ z, z ∈ x :: ddT x r ↔ z ∈ x :: r
  | x, [], _ => ⟨by simp [ddT, SS], by simp [ddT]⟩
  | x, y :: r, h => by
    obtain ⟨h1, h2⟩ := List.pairwise_cons.1 h
    obtain ⟨i1, i2⟩ := ddT_ss y r h2
    rw [ddT_cons]
    split
    · rename_i e; subst e
      refine ⟨i1, fun z => ?_⟩
      rw [i2]; simp
    · rename_i n
      have hxy : LT x y := LT.total (h1 y (by simp)) n
      refine ⟨List.pairwise_cons.2 ⟨fun z hz => ?_, i1⟩, fun z => ?_⟩
      · rcases List.mem_cons.1 hz with rfl | h3
        · exact hxy
        · exact hxy.trans ((List.pairwise_cons.1 i1).1 z h3)
      · rw [List.mem_cons, i2, List.mem_cons (a := z) (b := x)]
theorem dd_sortR {ys l : List Hs} (hp : ys.Perm l) (hw : WS ys) : dd ys = sortR l := by
  refine ss_eq ?_ (sortR_ss l) fun z => ?_
  · cases ys with
    | nil => exact List.Pairwise.nil
    | cons x r => exact (ddT_ss x r hw).1
  · rw [sortR_mem, ← hp.mem_iff]
    cases ys with
    | nil => rfl
    | cons x r => exact (ddT_ss x r hw).2 z
end Gv.Tryz
/- Contracts: Clone, Compact, hex.Sort. -/
set_option linter.unusedVariables false
set_option linter.unusedSimpArgs false
set_option maxRecDepth 20000
set_option maxHeartbeats 4000000
namespace Gv.Tryz
open Go Gv Go.Proofs
theorem hClone (l : List Hs) (t : Tag) (hl : l.length ≤ 4398046511104) (ht : t = .nil → l = []) : GCalls Tryz.prog 40 [.slice (hsG l) t] [] (fun g O' => (l = [] ∧ g = .slice [] .nil ∧ O' = []) ∨ ∃ st, g = .own 0 st 0 l.length ∧ O' = [.row st 32 (hsG l)]) := by
  refine h40.calls mixS (by simp) ?_
  simp only [gstart, s40, List.cons_append, List.nil_append, List.length_cons, List.length_nil, Nat.reduceAdd, Nat.reduceSub, List.replicate_succ, List.replicate_zero]
  simp +contextual -implicitDefEqProofs (maxSteps := 2000000) (disch := omega) only [binV, ↓buildSliceV, ↓appendV, ↓srcV, fillE, GVal.cells, GVal.ofConst, ↓resV, resG, List.map, Nat.reduceLeDiff, reduceCtorEq, ne_eq, ↓asrcV, Tag.cap, List.replicate, GVal.solid, Nat.reduceMul, vcA, ↓vcB, vcC, fbFw, e40, hsG_len, all_hsG]
  refine ⟨fun h => .inl (ht h), fun _ => ⟨fun h => ?_, fun h => ⟨by omega, by omega, by simp, fun st => .inr ⟨st, rfl, rfl⟩⟩⟩⟩
  have h0 : l = [] := by
    cases l with
    | nil => rfl
    | cons a r => simp [hsG] at h
  exact ⟨.inl h0, .inr trivial, fun st => .inr ⟨st, by rw [h0]; rfl, rfl⟩⟩
theorem hSortNil {st : Nat} : GCalls Tryz.prog 58 [.own 0 st 0 0, .func (.func 59) [] []] [.row st 32 []] (fun r O' => r = .tuple [] ∧ O' = [.row st 32 []]) := by
  refine (sSort [] (by simp) (O := [.row st 32 []]) (o := 0) rfl rfl).mono ?_
  rintro g O' ⟨rfl, ys, h1, h2, rfl⟩
  rw [h1.eq_nil]; exact ⟨rfl, rfl⟩
theorem GCalls.nilArg {P : Program} {f : FuncId} {rest : List GVal} {sz : Nat} {K : GVal → List GObj → Prop} (h : ∀ t, GCalls P f (.own 0 t 0 0 :: rest) [.row t sz []] K) : GCalls P f (.slice [] .nil :: rest) [] K := by
  refine ⟨(h 0).1, fun E w vs hs ha => ?_⟩
  obtain ⟨t, hk, ht, hnx, hs, hkeep⟩ := hs.stamp (K := fun t => GCalls P f (.own 0 t 0 0 :: rest) [.row t sz []] K) (show Gv.stamp [] _ from h)
  obtain ⟨h1, h2⟩ := hs.objNil (.row t sz []) (l := ⟨none, 0, sz, 0⟩) ht hnx rfl ⟨_, Env.addLoc_self _ _ _, rfl, by simp, rfl⟩ (by simp [GObj.blk, Env.addLoc_self])
  have ha' : ArgsR (E.addLoc t ⟨none, 0, sz, 0⟩) vs (.own 0 t 0 0 :: rest) := by
    refine ⟨by rw [ha.1]; simp, fun k g hg => ?_⟩
    cases k with
    | zero =>
      simp at hg; subst hg
      have := ha.2 0 _ rfl
      revert this
      generalize vs.getD 0 undef = tv
      intro this
      cases this with
      | slice a len cap xs tag sz c hlen hcap hsz ha hc htag =>
        obtain ⟨_, h1⟩ := htag
        have h0 : len = 0 := by simpa using hlen
        subst h0
        exact .own a 0 cap _ t 0 _ (Env.addLoc_self _ _ _) (Nat.zero_le _) (.inl h1)
    | succ k => exact (ha.2 (k + 1) g (by simpa using hg)).mono h2.ext
  refine (hk.2 _ w vs h1 ha').mono ?_
  rintro e w' ⟨v, E', O', g, q1, q2, q3, q4, q5⟩
  exact ⟨v, E', O', g, q1, q2, (hkeep.trans h2).trans q3, q4, q5⟩
theorem getD_set_ne {l : List Hs} {i j : Nat} {a : Hs} (h : i ≠ j) : (l.set i a).getD j h0 = l.getD j h0 := by
  simp [List.getD, h]
theorem getD_set_eq {l : List Hs} {i : Nat} {a : Hs} (h : i < l.length) : (l.set i a).getD i h0 = a := by
  simp [List.getD, h]
theorem hsG_set (l : List Hs) (i : Nat) (s : Hs) : (hsG l).set i (bytesG s.1) = hsG (l.set i s) := by simp [hsG, List.map_set]
theorem dd_len1 {ys : List Hs} (h : ys.length < 2) : dd ys = ys := by
  match ys, h with
  | [], _ => rfl
  | [x], _ => rfl
theorem hCompact (ys : List Hs) (hl : ys.length ≤ 4398046511104) (st : Nat) :
    GCalls Tryz.prog 61 [.own 0 st 0 ys.length] [.row st 32 (hsG ys)] (fun g O' => g = .own 0 st 0 (dd ys).length ∧ O' = [.row st 32 (hsG (dd ys))]) := by
  refine h61.calls mixS (by simp) ?_
  simp only [gstart, s61, List.cons_append, List.nil_append, List.length_cons, List.length_nil, Nat.reduceAdd, Nat.reduceSub, List.replicate_succ, List.replicate_zero]
  simp +contextual -implicitDefEqProofs (maxSteps := 2000000) (disch := omega) only [↓lenV, binV, GVal.ofConst, ↓resV, resG, vcA, ↓vcB, vcC, fbFw, e61]
  refine ⟨fun h => by rw [dd_len1 (by omega)]; exact ⟨rfl, rfl⟩, fun hn => ?_⟩
  refine vcSLoop_by (ι := { k : Nat // 1 ≤ k ∧ k ≤ ys.length ∧ dd ys = ys.take k ++ ddT (ys.getD (k - 1) h0) (ys.drop k) }) (fun k => ⟨[.own 0 st 0 ys.length, .any, .any, .int .i64 (k.1 : Nat)] ++ List.replicate 57 .any, [.row st 32 (hsG ys)]⟩) (fun k => ys.length - k.1) ?_ ?_
  · refine Into.first ⟨1, by omega, by omega, ?_⟩ ⟨[], by simp⟩ (by simp [WL, leG_self, leG_any])
    match ys, hn with
    | x :: r, _ => rfl
  · rintro ⟨k, hk1, hk, he⟩
    by_cases h' : k < ys.length
    · have d0 : ((k : Int) < (ys.length : Int)) = True := eq_true (by omega)
      have ea := hsG_at ys k h'
      have eb := hsG_at ys (k - 1) (by omega)
      rw [dropH h', ddT_cons] at he
      obtain ⟨x, ex⟩ : ∃ x, ys.getD k h0 = x := ⟨_, rfl⟩
      obtain ⟨y, ey⟩ : ∃ y, ys.getD (k - 1) h0 = y := ⟨_, rfl⟩
      rw [ex] at ea he
      rw [ey] at eb he
      have tn : ((k : Int) - 1).toNat = k - 1 := by omega
      simp +contextual -implicitDefEqProofs (maxSteps := 2000000) (disch := omega) only [drawC, drawK, ↓lenV, binV, optV, ↓loadV, ↓indexAddrV, ↓sliceV, bound, grp, GVal.ofConst, List.drop, Nat.reduceEqDiff, Nat.reduceLeDiff, reduceCtorEq, aggV, List.replicate, vcA, ↓vcB, vcC, fbFw, hsG_len, d0, ea, eb, tn, take32, len32, cellsEq_hs x y]
      refine ⟨by omega, by omega, by omega, by omega, by omega, by omega, by omega, fun c => ⟨by omega, by omega, by omega, ?_⟩, fun c => ?_⟩
      · rw [if_pos c] at he
        refine vcSLoop_by (ι := { p : Nat × Nat × List Hs // 1 ≤ p.2.1 ∧ k + p.2.1 ≤ ys.length ∧ p.1 + 1 ≤ k + p.2.1 ∧ p.2.2.length = ys.length ∧ (∀ i, k + p.2.1 ≤ i + 1 → p.2.2.getD i h0 = ys.getD i h0) ∧ dd ys = p.2.2.take p.1 ++ ddT (ys.getD (k + p.2.1 - 1) h0) (ys.drop (k + p.2.1)) }) (fun p => ⟨[.own 0 st 0 ys.length, .any, .any, .int .i64 (p.1.1 : Nat), .own 0 st k (ys.length - k), .int .i64 (p.1.2.1 : Nat)] ++ List.replicate 55 .any, [.row st 32 (hsG p.1.2.2)]⟩) (fun p => ys.length - p.1.2.1) ?_ ?_
        · refine Into.first ⟨(k, 1, ys), by show 1 ≤ 1; omega, by show k + 1 ≤ _; omega, by show k + 1 ≤ k + 1; omega, rfl, fun _ _ => rfl, ?_⟩ ⟨[], by simp⟩ (by simp [WL, leG_self, leG_any])
          show dd ys = ys.take k ++ ddT (ys.getD (k + 1 - 1) h0) (ys.drop (k + 1))
          rw [he, Nat.add_sub_cancel, ex, c]
        · rintro ⟨⟨w, q, zs⟩, hq1, hq, hw, hz, hu, hd⟩
          simp only [] at hq1 hq hw hz hu hd
          by_cases h2 : q < ys.length - k
          · have d1 : ((q : Int) < ((ys.length - k : Nat) : Int)) = True := eq_true (by omega)
            have ea := hsG_at zs (k + q) (by omega)
            have eb := hsG_at zs (k + (q - 1)) (by omega)
            rw [dropH (by omega), ddT_cons, ← hu (k + q) (by omega)] at hd
            obtain ⟨x2, ex2⟩ : ∃ x, zs.getD (k + q) h0 = x := ⟨_, rfl⟩
            have ey2 : zs.getD (k + (q - 1)) h0 = ys.getD (k + q - 1) h0 := by rw [hu _ (by omega)]; congr 1; omega
            obtain ⟨y2, ey3⟩ : ∃ x, ys.getD (k + q - 1) h0 = x := ⟨_, rfl⟩
            rw [ex2] at ea hd
            rw [ey2, ey3] at eb
            rw [ey3] at hd
            have tn : ((q : Int) - 1).toNat = q - 1 := by omega
            have ew : List.drop 32 ((hsG zs).getD w []) = [] := by rw [hsG_at zs w (by omega)]; exact List.drop_of_length_le (by rw [len32]; omega)
            simp +contextual -implicitDefEqProofs (maxSteps := 2000000) (disch := omega) only [drawC, drawK, ↓lenV, binV, ↓loadV, ↓storeV, ↓indexAddrV, GVal.cells, grp, GVal.ofConst, List.take, List.drop, Nat.reduceEqDiff, Nat.reduceLeDiff, reduceCtorEq, aggV, List.replicate, splice, vcA, ↓vcB, vcC, fbFw, hsG_len, hz, d1, ea, eb, tn, take32, len32, cellsEq_hs x2 y2, ew, hsG_set]
            refine ⟨by omega, by omega, by omega, by omega, by omega, by omega, by omega, fun c2 => ?_, fun c2 => ?_⟩
            · rw [if_pos c2] at hd
              refine Into.at ⟨(w, q + 1, zs), by show 1 ≤ q + 1; omega, by show k + (q + 1) ≤ _; omega, by show w + 1 ≤ k + (q + 1); omega, hz, fun i hi => hu i (by have : k + (q + 1) ≤ i + 1 := hi; omega), ?_⟩ (by show _ < _; simp; omega) ⟨[], by simp⟩ (by simp [WL, leG_self, leG_any])
              show dd ys = zs.take w ++ ddT (ys.getD (k + (q + 1) - 1) h0) (ys.drop (k + (q + 1)))
              have e1 : k + (q + 1) - 1 = k + q := by omega
              have e2 : k + (q + 1) = k + q + 1 := by omega
              rw [hd, e1, e2, ← hu (k + q) (by omega), ex2]
            · rw [if_neg c2] at hd
              refine ⟨by omega, by omega, by omega, by omega, by omega, by omega, by rw [sol_bytes]; trivial, by omega, by rw [hsG_at zs w (by omega), len32]; omega, ?_⟩
              refine Into.at ⟨(w + 1, q + 1, zs.set w x2), by show 1 ≤ q + 1; omega, by show k + (q + 1) ≤ _; omega, by show w + 1 + 1 ≤ k + (q + 1); omega, by show (zs.set w x2).length = _; rw [List.length_set, hz], fun i hi => ?_, ?_⟩ (by show _ < _; simp; omega) ⟨[], by simp⟩ (by simp [WL, leG_self, leG_any])
              · have hi' : k + (q + 1) ≤ i + 1 := hi
                show (zs.set w x2).getD i h0 = _
                rw [getD_set_ne (by omega), hu i (by omega)]
              · show dd ys = (zs.set w x2).take (w + 1) ++ ddT (ys.getD (k + (q + 1) - 1) h0) (ys.drop (k + (q + 1)))
                have e1 : k + (q + 1) - 1 = k + q := by omega
                have e2 : k + (q + 1) = k + q + 1 := by omega
                rw [hd, e1, e2, ← hu (k + q) (by omega), ex2, takeH (by rw [List.length_set]; omega), List.take_set_of_le (by omega), getD_set_eq (by omega), List.append_assoc]; rfl
          · have d1 : ((q : Int) < ((ys.length - k : Nat) : Int)) = False := eq_false (by omega)
            simp +contextual -implicitDefEqProofs (maxSteps := 2000000) (disch := omega) only [drawC, drawK, ↓op_clear, ↓lenV, binV, optV, ↓loadV, ↓storeV, ↓indexAddrV, ↓sliceV, bound, GVal.cells, grp, GVal.ofConst, ↓resV, resG, List.take, List.drop, ↓reduceIte, Nat.reduceEqDiff, reduceCtorEq, ↓clearV, aggV, List.replicate, GVal.solid, splice, vcA, ↓vcB, vcC, fbFw, hsG_len, hz, d1, false_imp_iff, take_hs]
            rw [List.drop_of_length_le (by omega)] at hd
            have e : dd ys = zs.take w := by rw [hd]; simp [ddT]
            refine ⟨by omega, by omega, by omega, by omega, by omega, by omega, ?_, by rw [e]⟩
            have e2 : (dd ys).length = w := by rw [e, List.length_take]; omega
            rw [e2]; rfl
      · rw [if_neg c] at he
        refine Into.at ⟨k + 1, by omega, by omega, ?_⟩ (by show _ < _; simp; omega) ⟨[], by simp⟩ (by simp [WL, leG_self, leG_any])
        rw [takeH h', he, Nat.add_sub_cancel, ex, List.append_assoc]; rfl
    · have d0 : ((k : Int) < (ys.length : Int)) = False := eq_false (by omega)
      rw [List.drop_of_length_le (by omega), List.take_of_length_le (by omega)] at he
      simp +contextual -implicitDefEqProofs (maxSteps := 2000000) (disch := omega) only [drawC, drawK, ↓lenV, binV, optV, ↓loadV, ↓indexAddrV, ↓sliceV, bound, grp, GVal.ofConst, ↓resV, resG, List.drop, ↓reduceIte, Nat.reduceEqDiff, reduceCtorEq, aggV, List.replicate, vcA, ↓vcB, vcC, fbFw, hsG_len, d0, false_imp_iff]
      have e : dd ys = ys := by rw [he]; simp [ddT]
      rw [e]; exact ⟨rfl, rfl⟩
theorem hCompactNil : GPure Tryz.prog 61 [.slice [] .nil] (.slice [] .none) := by
  refine h61.pure mixS (by simp) ?_
  simp only [gstart, s61, List.cons_append, List.nil_append, List.length_cons, List.length_nil, Nat.reduceAdd, Nat.reduceSub, List.replicate_succ, List.replicate_zero]
  simp +contextual -implicitDefEqProofs (maxSteps := 2000000) (disch := omega) only [↓lenV, binV, GVal.ofConst, ↓resV, resG, implies_true, vcA, ↓vcB, vcC, fbFw, e61]
  exact fun h => absurd h (by omega)
theorem cSort (l : List Hs) (t : Tag) (hl : l.length ≤ 4398046511104) (ht : t = .nil → l = []) : GCalls Tryz.prog 37 [.slice (hsG l) t] [] (fun g O' => (l = [] ∧ g = .slice [] .none) ∨ ∃ st ys, List.Perm ys l ∧ ys.Pairwise (fun a b => ltB b.1 a.1 = false) ∧ g = .own 0 st 0 (dd ys).length ∧ O' = [.row st 32 (hsG (dd ys))]) := by
  refine h37.calls mixS (by simp) ?_
  simp only [gstart, s37, List.cons_append, List.nil_append, List.length_cons, List.length_nil, Nat.reduceAdd, Nat.reduceSub, List.replicate_succ, List.replicate_zero]
  simp +contextual -implicitDefEqProofs (maxSteps := 2000000) (disch := omega) only [GVal.ofConst, List.map, vcA, ↓vcB, e37]
  refine (hClone l t hl ht).mono ?_
  rintro g O' (⟨rfl, rfl, rfl⟩ | ⟨st, rfl, rfl⟩)
  · simp +contextual -implicitDefEqProofs (maxSteps := 2000000) (disch := omega) only [List.map, vcA, ↓vcB, vcC]
    refine GCalls.nilArg (sz := 32) fun st => hSortNil.mono ?_
    rintro g O' ⟨rfl, rfl⟩
    simp +contextual -implicitDefEqProofs (maxSteps := 2000000) (disch := omega) only [List.map, vcA, ↓vcB]
    refine hCompactNil.then ?_ (by rfl)
    simp +contextual -implicitDefEqProofs (maxSteps := 2000000) (disch := omega) only [↓resV, resG, reduceCtorEq, vcA, ↓vcB]
    exact .inl trivial
  · simp +contextual -implicitDefEqProofs (maxSteps := 2000000) (disch := omega) only [List.map, vcA, ↓vcB]
    refine (sSort l (by omega) rfl rfl).mono ?_
    rintro _ _ ⟨rfl, ys, hp, hw, rfl⟩
    have hpl := hp.length_eq
    simp +contextual -implicitDefEqProofs (maxSteps := 2000000) (disch := omega) only [List.map, vcA, ↓vcB]
    rw [← hpl]
    refine (hCompact ys (by omega) st).mono ?_
    rintro g O' ⟨rfl, rfl⟩
    simp +contextual -implicitDefEqProofs (maxSteps := 2000000) (disch := omega) only [↓resV, resG, reduceCtorEq, vcA, ↓vcB]
    exact .inr ⟨st, ys, hp, hw, rfl, rfl⟩
theorem frzL_same {f : GVal → Option GVal} : ∀ {xs : List GVal}, (∀ x ∈ xs, f x = some x) → frzL f xs = some xs
  | [], _ => rfl
  | x :: xs, h => by rw [frzL, h x (by simp), frzL_same fun y hy => h y (by simp [hy])]
theorem frz_hs (O : List GObj) (n : Nat) (l : List Hs) : frzLL (Gv.frz O (n + 1)) (hsG l) = some (hsG l) :=
  frzLL_same fun x hx => by
    obtain ⟨s, _, rfl⟩ := List.mem_map.1 hx
    exact frzL_same fun y hy => by
      obtain ⟨c, _, rfl⟩ := List.mem_map.1 hy
      simp only [Gv.frz]
theorem hSort (l : List Hs) (t : Tag) (hl : l.length ≤ 4398046511104) (ht : t = .nil → l = []) : GPure Tryz.prog 37 [.slice (hsG l) t] (.slice (hsG (sortR l)) .none) :=
  GCalls.toPure ((cSort l t hl ht).mono fun g O' h => by
    rcases h with ⟨rfl, rfl⟩ | ⟨st, ys, hp, hw, rfl, rfl⟩
    · exact ⟨4, .slice [] .none, by rw [Gv.frz]; rfl, by rw [leA_slice]; rfl⟩
    · rw [dd_sortR hp hw]
      exact ⟨4, .slice (hsG (sortR l)) .none, frz_own rfl (hsG_len _).symm (frz_hs _ 2 _), by rw [leA_slice]⟩)
end Gv.Tryz
/- Maps by hashes: found, written. -/
set_option linter.unusedVariables false
set_option linter.unusedSimpArgs false
set_option maxRecDepth 20000
set_option maxHeartbeats 4000000
namespace Gv.Tryz
open Go Gv Go.Proofs
abbrev hkT : KT := .mk [.int, .int, .int, .int, .int, .int, .int, .int, .int, .int, .int, .int, .int, .int, .int, .int, .int, .int, .int, .int, .int, .int, .int, .int, .int, .int, .int, .int, .int, .int, .int, .int] true
section
variable {α : Type}
def kvG (enc : α → GVal) (m : List (Hs × α)) : List (GVal × GVal) := m.map fun p => (.agg (bytesG p.1.1), enc p.2)
def idxM : List (Hs × α) → Hs → Option Nat
  | [], _ => none
  | p :: r, h => if h = p.1 then some 0 else (idxM r h).map (· + 1)
def look : List (Hs × α) → Hs → Option α
  | [], _ => none
  | p :: r, h => if h = p.1 then some p.2 else look r h
def mset : List (Hs × α) → Hs → α → List (Hs × α)
  | [], h, v => [(h, v)]
  | p :: r, h, v => if h = p.1 then (h, v) :: r else p :: mset r h v
theorem keyEq_h (a b : Hs) : keyEq hkT (.agg (bytesG a.1)) (.agg (bytesG b.1)) = some (decide (a = b)) := cellsEq_hs a b
theorem kfind_h (enc : α → GVal) (h : Hs) : ∀ m : List (Hs × α), kfind hkT (.agg (bytesG h.1)) (kvG enc m) = some (idxM m h)
  | [] => rfl
  | p :: r => by
    rw [show kvG enc (p :: r) = (.agg (bytesG p.1.1), enc p.2) :: kvG enc r from rfl, kfind, keyEq_h, kfind_h enc h r, idxM]
    by_cases e : h = p.1
    · simp [e]
    · simp only [decide_eq_false e, if_neg e]
      cases idxM r h <;> rfl
theorem look_idx (enc : α → GVal) : ∀ (m : List (Hs × α)) (h : Hs) (v : α), look m h = some v → ∃ i, idxM m h = some i ∧ (kvG enc m)[i]? = some (.agg (bytesG h.1), enc v) ∧ ∀ w, (kvG enc m).set i (.agg (bytesG h.1), enc w) = kvG enc (mset m h w)
  | [], h, v, e => by cases e
  | p :: r, h, v, e => by
    rw [look] at e
    by_cases hp : h = p.1
    · rw [if_pos hp] at e
      cases e
      refine ⟨0, by rw [idxM, if_pos hp], by simp [kvG, hp], fun w => by simp [kvG, mset, hp]⟩
    · rw [if_neg hp] at e
      obtain ⟨i, h1, h2, h3⟩ := look_idx enc r h v e
      refine ⟨i + 1, by rw [idxM, if_neg hp, h1]; rfl, by simpa [kvG] using h2, fun w => ?_⟩
      have := h3 w
      simp only [kvG, List.map_cons, List.set_cons_succ, mset, if_neg hp] at this ⊢
      rw [this]
theorem look_none (enc : α → GVal) : ∀ (m : List (Hs × α)) (h : Hs), look m h = none → idxM m h = none ∧ ∀ w, kvG enc m ++ [(.agg (bytesG h.1), enc w)] = kvG enc (mset m h w)
  | [], h, e => ⟨rfl, fun w => rfl⟩
  | p :: r, h, e => by
    rw [look] at e
    by_cases hp : h = p.1
    · rw [if_pos hp] at e; cases e
    · rw [if_neg hp] at e
      obtain ⟨h1, h2⟩ := look_none enc r h e
      refine ⟨by rw [idxM, if_neg hp, h1]; rfl, fun w => ?_⟩
      have := h2 w
      simp only [kvG, List.map_cons, List.cons_append, mset, if_neg hp] at this ⊢
      rw [this]
theorem look_mset (m : List (Hs × α)) (h x : Hs) (v : α) : look (mset m h v) x = if x = h then some v else look m x := by
  induction m with
  | nil => simp [mset, look]
  | cons p r ih =>
    rw [mset]
    by_cases hp : h = p.1
    · rw [if_pos hp, look, look]
      by_cases hx : x = h
      · simp [hx]
      · simp [hx, ← hp]
    · rw [if_neg hp, look, ih, look]
      by_cases hx : x = p.1
      · rw [if_pos hx, if_pos hx, if_neg (by rw [hx]; exact fun e => hp e.symm)]
      · rw [if_neg hx, if_neg hx]
theorem mset_len (m : List (Hs × α)) (h : Hs) (v : α) : (mset m h v).length = if (look m h).isSome then m.length else m.length + 1 := by
  induction m with
  | nil => simp [mset, look]
  | cons p r ih =>
    rw [mset, look]
    by_cases hp : h = p.1
    · simp [hp]
    · rw [if_neg hp, if_neg hp, List.length_cons, ih]
      split <;> simp
end
theorem solidH (h : Hs) : allSolid (bytesG h.1) = True := by
  refine eq_true ?_
  rw [← allSolid_eq]
  intro c hc
  obtain ⟨b, _, rfl⟩ := List.mem_map.1 hc
  rfl
theorem take32a (h : Hs) (X : List GVal) : List.take 32 (bytesG h.1 ++ X) = bytesG h.1 := by rw [List.take_append_of_le_length (by rw [len32]; omega), take32]
theorem drop32a (h : Hs) (X : List GVal) : List.drop 32 (bytesG h.1 ++ X) = X := by rw [List.drop_append_of_le_length (by rw [len32]; omega), List.drop_of_length_le (by rw [len32]; omega)]; rfl
theorem drop33a (h : Hs) (x : GVal) : List.drop 33 (bytesG h.1 ++ [x]) = [] := List.drop_of_length_le (by rw [List.length_append, len32]; simp)
theorem take33a (h : Hs) (x : GVal) : List.take 33 (bytesG h.1 ++ [x]) = bytesG h.1 ++ [x] := List.take_of_length_le (by rw [List.length_append, len32]; simp)
theorem len33 (h : Hs) (x : GVal) : (bytesG h.1 ++ [x]).length = 33 := by rw [List.length_append, len32]; rfl
theorem solid33 (h : Hs) (x : GVal) : allSolid (bytesG h.1 ++ [x]) = (x.solid = true) := by
  rw [← allSolid_eq]
  have := solidH h
  rw [← allSolid_eq] at this
  have := this.mpr trivial
  apply propext
  constructor
  · exact fun q => q x (by simp)
  · intro q c hc
    rcases List.mem_append.1 hc with hc | hc
    · exact this c hc
    · rw [List.mem_singleton.1 hc]; exact q
theorem WL_rfl : ∀ l : List GVal, WL l l
  | [] => trivial
  | x :: r => ⟨by rw [leG_self]; trivial, WL_rfl r⟩
theorem leA_refl (a : GVal) : leA a a := by
  cases a <;> simp [leA, leG_self, WL_rfl]
abbrev encL (l : List Hs) : GVal := .slice (hsG l) .none
abbrev encB (b : Bool) : GVal := .bool b
abbrev GM := List (Hs × List Hs)
abbrev gObj (st s : Nat) (m : GM) : List GObj := [.row st 1 [[.map 1 s]], .map s (kvG encL m)]
theorem gHas1 (m : GM) (h : Hs) (st s i : Nat) (l : List Hs) (hi : idxM m h = some i) (hv : (kvG encL m)[i]? = some (.agg (bytesG h.1), encL l)) : GCalls Tryz.prog 20 [.ptr 0 st 0 0, .agg (bytesG h.1)] (gObj st s m) (fun g O' => g = .bool true ∧ O' = gObj st s m) := by
  refine h20.calls mixS (by simp) ?_
  simp only [gstart, s20, List.cons_append, List.nil_append, List.length_cons, List.length_nil, Nat.reduceAdd, Nat.reduceSub, List.replicate_succ, List.replicate_zero]
  simp +contextual -implicitDefEqProofs (maxSteps := 2000000) (disch := omega) only [drawC, drawK, ↓loadV, ↓fieldAddrV, ↓boxV, ↓nilV, GVal.cells, grp, GVal.ofConst, ↓resV, resG, List.headD, List.take, List.drop, Nat.reduceEqDiff, Nat.reduceAdd, Nat.reduceLeDiff, reduceCtorEq, implies_true, ↓lookupV, keyOk, keyCells, pairG, vcA, ↓vcB, vcC, fbFw, e20, kfind_h, hi, hv, len32, take32, solidH]
theorem gHas0 (m : GM) (h : Hs) (st s : Nat) (hi : idxM m h = none) : GCalls Tryz.prog 20 [.ptr 0 st 0 0, .agg (bytesG h.1)] (gObj st s m) (fun g O' => g = .bool false ∧ O' = gObj st s m) := by
  refine h20.calls mixS (by simp) ?_
  simp only [gstart, s20, List.cons_append, List.nil_append, List.length_cons, List.length_nil, Nat.reduceAdd, Nat.reduceSub, List.replicate_succ, List.replicate_zero]
  simp +contextual -implicitDefEqProofs (maxSteps := 2000000) (disch := omega) only [drawC, drawK, ↓loadV, ↓fieldAddrV, ↓boxV, ↓nilV, GVal.cells, grp, GVal.ofConst, ↓resV, resG, List.headD, List.take, List.drop, Nat.reduceEqDiff, Nat.reduceAdd, Nat.reduceLeDiff, reduceCtorEq, implies_true, ↓lookupV, keyOk, keyCells, pairG, vcA, ↓vcB, vcC, fbFw, e20, kfind_h, hi, len32, take32, solidH]
theorem gHas (m : GM) (h : Hs) (st s : Nat) : GCalls Tryz.prog 20 [.ptr 0 st 0 0, .agg (bytesG h.1)] (gObj st s m) (fun g O' => g = .bool (look m h).isSome ∧ O' = gObj st s m) := by
  cases e : look m h with
  | some l =>
    obtain ⟨i, hi, hv, _⟩ := look_idx encL m h l e
    revert hi hv
    intro hi hv
    exact gHas1 m h st s i l hi hv
  | none => exact gHas0 m h st s (look_none encL m h e).1
set_option linter.defProp false
def v33 := ai @take33a <| ai @take32a <| ai @solid33 <| ai @drop33a <| ai @drop32a <| @len33
def v32 := ai @take32 <| ai @solidH <| @len32
end Gv.Tryz
/- maps.Clone of lists of hashes by hashes. -/
set_option linter.unusedVariables false
set_option maxRecDepth 100000
namespace Go.Proofs
open Go.Shelf
def Tryz.mcl_ren : Go.Shelf.Ren := ⟨fun | 5 => 48 | 7 => 67 | n => n, fun | 4 => 4 | 20 => 20 | 23 => 64 | 25 => 40 | 3 => 31 | n => n, fun | n => n⟩
theorem Tryz.mcl : Go.Proofs.SlLaysW.n5 Tryz.prog Tryz.mcl_ren := {
  mixed := by kernel_rfl
  f5 := ⟨Tryz.f48.name, by decide, Tryz.func48.trans (congrArg some (by kernel_rfl))⟩
  f7 := Tryz.func67.trans (congrArg some (by kernel_rfl))
  t4 := Tryz.underlying4
  a4 := Tryz.isAgg4
  z4 := Tryz.sizeOf4
  v4 := Tryz.zeroValue4
  t20 := Tryz.underlying20
  a20 := Tryz.isAgg20
  z20 := Tryz.sizeOf20
  v20 := Tryz.zeroValue20
  t23 := Tryz.underlying64
  a23 := Tryz.isAgg64
  z23 := Tryz.sizeOf64
  v23 := Tryz.zeroValue64 }
end Go.Proofs
namespace Gv.Tryz
open Go Gv Go.Proofs
theorem cMapClone {O : List GObj} {o st : Nat} {kv : List (GVal × GVal)} (hO : O[o]? = some (.map st kv)) (hc : clockOf O = none) :
    GCalls Tryz.prog 48 [.map o st] O (fun g O' => ∃ st', g = .map O.length st' ∧ O' = O ++ [.map st' kv]) :=
  gcalls_clone (by kernel_rfl) (fun b es clock w hb => AnyW.maps_Clone Tryz.mcl b es clock w hb) hO hc
end Gv.Tryz
/- Contracts: small functions of graph. -/
set_option linter.unusedVariables false
set_option linter.unusedSimpArgs false
set_option maxRecDepth 20000
set_option maxHeartbeats 4000000
namespace Gv.Tryz
open Go Gv Go.Proofs
theorem gCloneP (l : List Hs) (t : Tag) (hl : l.length ≤ 4398046511104) (ht : t = .nil → l = []) : GPure Tryz.prog 40 [.slice (hsG l) t] (.slice (hsG l) .none) := by
  refine GCalls.toPure ((hClone l t hl ht).mono ?_)
  rintro g O' (⟨rfl, rfl, rfl⟩ | ⟨st, rfl, rfl⟩)
  · exact ⟨2, .slice [] .nil, rfl, by rw [leA_slice]; rfl⟩
  · exact ⟨3, .slice (hsG l) .none, frz_own rfl (hsG_len _).symm (frz_hs _ 1 _), by rw [leA_slice]⟩
abbrev errG (n : Int) : GVal := .iface 38 (.int .i64 n)
abbrev whichG (h : Hs) (n : Int) : GVal := .iface 95 (.ref (bytesG h.1 ++ [errG n]))
theorem gOf (h : Hs) (n : Int) : GPure Tryz.prog 51 [.agg (bytesG h.1), errG n] (whichG h n) := by
  refine h51.pure mixS (by simp) ?_
  simp only [gstart, s51, List.cons_append, List.nil_append, List.length_cons, List.length_nil, Nat.reduceAdd, Nat.reduceSub, List.replicate_succ, List.replicate_zero]
  simp +contextual -implicitDefEqProofs (maxSteps := 2000000) (disch := omega) only [binV, ↓loadV, ↓boxV, ↓buildV, ↓ifaceV, fillG, place, GVal.cells, grp, GVal.ofConst, ↓resV, resG, List.map, List.take, List.drop, ↓reduceIte, Nat.reduceEqDiff, Nat.reduceAdd, Nat.reduceLeDiff, reduceCtorEq, allSolid, GVal.solid, Nat.reduceBEq, splice, vcA, ↓vcB, vcC, fbFw, e51, v32]
  refine ⟨by kernel_rfl, rfl, ?_⟩
  simp only [len33, take32a, drop33a, solid33, List.append_nil, Nat.le_refl, if_true]
  exact ⟨rfl, by simp [leA, leG_self]⟩
theorem gEqual1 (a b : List Hs) (ta tb : Tag) (ha : a.length ≤ 4398046511104) (hl : a.length = b.length) : GPure Tryz.prog 74 [.slice (hsG a) ta, .slice (hsG b) tb] (.bool (decide (a = b))) := by
  have dl : ((a.length : Int) = (b.length : Int)) = True := eq_true (by omega)
  refine h74.pure mixS (by simp) ?_
  simp only [gstart, s74, List.cons_append, List.nil_append, List.length_cons, List.length_nil, Nat.reduceAdd, Nat.reduceSub, List.replicate_succ, List.replicate_zero]
  simp +contextual -implicitDefEqProofs (maxSteps := 2000000) (disch := omega) only [↓lenV, binV, GVal.ofConst, ↓resV, resG, ne_eq, vcA, ↓vcB, vcC, fbFw, e74, hsG_len, dl, not_true_eq_false, false_imp_iff, true_imp_iff]
  refine vcSLoop_by (ι := { k : Nat // k ≤ a.length ∧ a.take k = b.take k }) (fun k => ⟨[.slice (hsG a) ta, .slice (hsG b) tb, .any, .any, .any, .any, .any, .any, .any, .any, .any, .slice (hsG a) ta, .int .i64 a.length, .int .i64 (k.1 : Nat)] ++ List.replicate 12 .any, []⟩) (fun k => a.length - k.1) ?_ ?_
  · exact Into.first ⟨0, by omega, by simp⟩ ⟨[], by simp⟩ (by simp [WL, leG_self, leG_any])
  · rintro ⟨k, hk, he⟩
    by_cases h' : k < a.length
    · have d0 : ((k : Int) < (a.length : Int)) = True := eq_true (by omega)
      have ea := hsG_at a k h'
      have eb := hsG_at b k (by omega)
      obtain ⟨x, ex⟩ : ∃ x, a.getD k h0 = x := ⟨_, rfl⟩
      obtain ⟨y, ey⟩ : ∃ y, b.getD k h0 = y := ⟨_, rfl⟩
      rw [ex] at ea
      rw [ey] at eb
      simp +contextual -implicitDefEqProofs (maxSteps := 2000000) (disch := omega) only [drawC, drawK, binV, ↓loadV, ↓indexAddrV, grp, GVal.ofConst, ↓resV, resG, Nat.reduceEqDiff, Nat.reduceLeDiff, reduceCtorEq, aggV, List.replicate, vcA, ↓vcB, vcC, fbFw, hsG_len, d0, ea, eb, take32, len32, cellsEq_hs x y]
      refine ⟨by omega, by omega, by omega, fun c => ?_, fun c => ?_⟩
      · exact Into.at ⟨k + 1, by omega, by rw [takeH h', takeH (by omega), he, ex, ey, c]⟩ (by show _ < _; simp; omega) ⟨[], by simp⟩ (by simp [WL, leG_self, leG_any])
      · rw [decide_eq_false fun e => c (by rw [← ex, ← ey, e])]
    · have d0 : ((k : Int) < (a.length : Int)) = False := eq_false (by omega)
      rw [List.take_of_length_le (by omega), List.take_of_length_le (by omega)] at he
      simp +contextual -implicitDefEqProofs (maxSteps := 2000000) (disch := omega) only [drawC, drawK, binV, ↓loadV, ↓indexAddrV, grp, GVal.ofConst, ↓resV, resG, ↓reduceIte, Nat.reduceEqDiff, reduceCtorEq, aggV, List.replicate, vcA, ↓vcB, vcC, fbFw, hsG_len, d0, false_imp_iff]
      rw [decide_eq_true he]
theorem gEqual0 (a b : List Hs) (ta tb : Tag) (hl : a.length ≠ b.length) : GPure Tryz.prog 74 [.slice (hsG a) ta, .slice (hsG b) tb] (.bool false) := by
  have dl : ((a.length : Int) = (b.length : Int)) = False := eq_false (by omega)
  refine h74.pure mixS (by simp) ?_
  simp only [gstart, s74, List.cons_append, List.nil_append, List.length_cons, List.length_nil, Nat.reduceAdd, Nat.reduceSub, List.replicate_succ, List.replicate_zero]
  simp +contextual -implicitDefEqProofs (maxSteps := 2000000) (disch := omega) only [↓lenV, binV, GVal.ofConst, ↓resV, resG, implies_true, ne_eq, vcA, ↓vcB, vcC, fbFw, e74, hsG_len, dl, false_imp_iff]
theorem gEqual (a b : List Hs) (ta tb : Tag) (ha : a.length ≤ 4398046511104) : GPure Tryz.prog 74 [.slice (hsG a) ta, .slice (hsG b) tb] (.bool (decide (a = b))) := by
  by_cases hl : a.length = b.length
  · exact gEqual1 a b ta tb ha hl
  · rw [decide_eq_false (fun e => hl (by rw [e]))]
    exact gEqual0 a b ta tb hl
def twiceB (l : List Hs) : Bool := decide ((sortR l).length < l.length)
theorem gTwice (l : List Hs) (t : Tag) (hl : l.length ≤ 4398046511104) (ht : t = .nil → l = []) : GPure Tryz.prog 73 [.slice (hsG l) t] (.bool (twiceB l)) := by
  refine h73.pure mixS (by simp) ?_
  simp only [gstart, s73, List.cons_append, List.nil_append, List.length_cons, List.length_nil, Nat.reduceAdd, Nat.reduceSub, List.replicate_succ, List.replicate_zero]
  simp +contextual -implicitDefEqProofs (maxSteps := 2000000) (disch := omega) only [GVal.ofConst, List.map, vcA, ↓vcB, e73]
  refine (hSort l t hl ht).then ?_ (by rfl)
  simp +contextual -implicitDefEqProofs (maxSteps := 2000000) (disch := omega) only [↓lenV, binV, ↓resV, resG, vcA, ↓vcB, vcC, fbFw, hsG_len]
  unfold twiceB
  by_cases h : (sortR l).length < l.length
  · rw [decide_eq_true h]; simp [h]
  · rw [decide_eq_false h]; simp [h]
def parsM (m : GM) (h : Hs) : List Hs := (look m h).getD []
end Gv.Tryz
