import Derived.Test.YtnenmmdpclglhaaGreatDoorP5
import Derived.Test.YtnenmmdpclglhaaGreatDoorProg
import Derived.KernelRfl
import Derived.Test.YtnenmmdpclglhaaGreatDoorP4
set_option maxRecDepth 100000
namespace Gv.Tryz
open Go Gv Go.Proofs
theorem aggT44 : aggT Tryz.prog 44 = (some [.int, .int, .int, .int, .int, .int, .int, .int, .int, .int, .int, .int, .int, .int, .int, .int, .int, .int, .int, .int, .int, .int, .int, .int, .int, .int, .int, .int, .int, .int, .int, .int]) := by kernel_rfl
theorem aggT65 : aggT Tryz.prog 65 = (some [.int, .int]) := by kernel_rfl
theorem arr105 : arr Tryz.prog 105 = (some (6, (1, false))) := by kernel_rfl
theorem arr44 : arr Tryz.prog 44 = (some (32, (1, false))) := by kernel_rfl
theorem arr97 : arr Tryz.prog 97 = (some (60, (1, false))) := by kernel_rfl
theorem els129 : els Tryz.prog 129 = (some (33, true)) := by kernel_rfl
theorem els133 : els Tryz.prog 133 = (some (1, false)) := by kernel_rfl
theorem els156 : els Tryz.prog 156 = (some (1, false)) := by kernel_rfl
theorem els187 : els Tryz.prog 187 = (some (1, false)) := by kernel_rfl
theorem els189 : els Tryz.prog 189 = (some (1, false)) := by kernel_rfl
theorem els22 : els Tryz.prog 22 = (some (4, true)) := by kernel_rfl
theorem els23 : els Tryz.prog 23 = (some (1, false)) := by kernel_rfl
theorem els32 : els Tryz.prog 32 = (some (33, true)) := by kernel_rfl
theorem els33 : els Tryz.prog 33 = (some (32, true)) := by kernel_rfl
theorem els37 : els Tryz.prog 37 = (some (3, true)) := by kernel_rfl
theorem els62 : els Tryz.prog 62 = (some (2, true)) := by kernel_rfl
theorem els66 : els Tryz.prog 66 = (some (6, true)) := by kernel_rfl
theorem elt129 : elt Tryz.prog 129 = (some (33, (56, [.int .u8 0, .int .u8 0, .int .u8 0, .int .u8 0, .int .u8 0, .int .u8 0, .int .u8 0, .int .u8 0, .int .u8 0, .int .u8 0, .int .u8 0, .int .u8 0, .int .u8 0, .int .u8 0, .int .u8 0, .int .u8 0, .int .u8 0, .int .u8 0, .int .u8 0, .int .u8 0, .int .u8 0, .int .u8 0, .int .u8 0, .int .u8 0, .int .u8 0, .int .u8 0, .int .u8 0, .int .u8 0, .int .u8 0, .int .u8 0, .int .u8 0, .int .u8 0, .slice [] .nil]))) := by kernel_rfl
theorem elt133 : elt Tryz.prog 133 = (some (1, (24, [.slice [] .nil]))) := by kernel_rfl
theorem elt156 : elt Tryz.prog 156 = (some (1, (1, [(.bool false)]))) := by kernel_rfl
theorem elt172 : elt Tryz.prog 172 = (some (1, (1, [.int .u8 0]))) := by kernel_rfl
theorem elt187 : elt Tryz.prog 187 = (some (1, (16, [(.lit .nilIface)]))) := by kernel_rfl
theorem elt189 : elt Tryz.prog 189 = (some (1, (24, [.slice [] .nil]))) := by kernel_rfl
theorem elt22 : elt Tryz.prog 22 = (some (4, (64, [.slice [] .nil, .slice [] .nil, .int .i64 0, .int .i64 0]))) := by kernel_rfl
theorem elt23 : elt Tryz.prog 23 = (some (1, (8, [.int .i64 0]))) := by kernel_rfl
theorem elt32 : elt Tryz.prog 32 = (some (33, (56, [.int .u8 0, .int .u8 0, .int .u8 0, .int .u8 0, .int .u8 0, .int .u8 0, .int .u8 0, .int .u8 0, .int .u8 0, .int .u8 0, .int .u8 0, .int .u8 0, .int .u8 0, .int .u8 0, .int .u8 0, .int .u8 0, .int .u8 0, .int .u8 0, .int .u8 0, .int .u8 0, .int .u8 0, .int .u8 0, .int .u8 0, .int .u8 0, .int .u8 0, .int .u8 0, .int .u8 0, .int .u8 0, .int .u8 0, .int .u8 0, .int .u8 0, .int .u8 0, .slice [] .nil]))) := by kernel_rfl
theorem elt33 : elt Tryz.prog 33 = (some (32, (32, [.int .u8 0, .int .u8 0, .int .u8 0, .int .u8 0, .int .u8 0, .int .u8 0, .int .u8 0, .int .u8 0, .int .u8 0, .int .u8 0, .int .u8 0, .int .u8 0, .int .u8 0, .int .u8 0, .int .u8 0, .int .u8 0, .int .u8 0, .int .u8 0, .int .u8 0, .int .u8 0, .int .u8 0, .int .u8 0, .int .u8 0, .int .u8 0, .int .u8 0, .int .u8 0, .int .u8 0, .int .u8 0, .int .u8 0, .int .u8 0, .int .u8 0, .int .u8 0]))) := by kernel_rfl
theorem elt37 : elt Tryz.prog 37 = (some (3, (40, [.int .i64 0, .int .i64 0, .slice [] .nil]))) := by kernel_rfl
theorem elt62 : elt Tryz.prog 62 = (some (2, (16, [.int .i64 0, .int .i64 0]))) := by kernel_rfl
theorem elt66 : elt Tryz.prog 66 = (some (6, (96, [.slice [] .nil, .slice [] .nil, .int .i64 0, .int .i64 0, (.bool false), .slice [] .nil]))) := by kernel_rfl
theorem fld116_0 : fld Tryz.prog 116 0 = (some (0, (32, true))) := by kernel_rfl
theorem fld131_0 : fld Tryz.prog 131 0 = (some (0, (1, false))) := by kernel_rfl
theorem fld131_1 : fld Tryz.prog 131 1 = (some (1, (1, false))) := by kernel_rfl
theorem fld131_2 : fld Tryz.prog 131 2 = (some (2, (1, false))) := by kernel_rfl
theorem fld131_3 : fld Tryz.prog 131 3 = (some (3, (1, false))) := by kernel_rfl
theorem fld131_4 : fld Tryz.prog 131 4 = (some (4, (1, false))) := by kernel_rfl
theorem fld168_0 : fld Tryz.prog 168 0 = (some (0, (32, true))) := by kernel_rfl
theorem fld168_1 : fld Tryz.prog 168 1 = (some (32, (1, false))) := by kernel_rfl
theorem fld35_0 : fld Tryz.prog 35 0 = (some (0, (1, false))) := by kernel_rfl
theorem fld35_1 : fld Tryz.prog 35 1 = (some (1, (1, false))) := by kernel_rfl
theorem fld35_2 : fld Tryz.prog 35 2 = (some (2, (1, false))) := by kernel_rfl
theorem fld39_0 : fld Tryz.prog 39 0 = (some (0, (1, false))) := by kernel_rfl
theorem fld39_1 : fld Tryz.prog 39 1 = (some (1, (1, false))) := by kernel_rfl
theorem fld39_2 : fld Tryz.prog 39 2 = (some (2, (1, false))) := by kernel_rfl
theorem fld39_3 : fld Tryz.prog 39 3 = (some (3, (1, false))) := by kernel_rfl
theorem fld58_0 : fld Tryz.prog 58 0 = (some (0, (32, true))) := by kernel_rfl
theorem fld58_1 : fld Tryz.prog 58 1 = (some (32, (1, false))) := by kernel_rfl
theorem fld65_0 : fld Tryz.prog 65 0 = (some (0, (1, false))) := by kernel_rfl
theorem fld65_1 : fld Tryz.prog 65 1 = (some (1, (1, false))) := by kernel_rfl
theorem fld70_0 : fld Tryz.prog 70 0 = (some (0, (1, false))) := by kernel_rfl
theorem fld73_0 : fld Tryz.prog 73 0 = (some (0, (1, false))) := by kernel_rfl
theorem fld73_1 : fld Tryz.prog 73 1 = (some (1, (1, false))) := by kernel_rfl
theorem fld73_2 : fld Tryz.prog 73 2 = (some (2, (1, false))) := by kernel_rfl
theorem fld75_0 : fld Tryz.prog 75 0 = (some (0, (4, true))) := by kernel_rfl
theorem fld75_1 : fld Tryz.prog 75 1 = (some (4, (1, false))) := by kernel_rfl
theorem fld75_2 : fld Tryz.prog 75 2 = (some (5, (1, false))) := by kernel_rfl
theorem fld90_0 : fld Tryz.prog 90 0 = (some (0, (1, false))) := by kernel_rfl
theorem fld93_0 : fld Tryz.prog 93 0 = (some (0, (1, false))) := by kernel_rfl
theorem fld93_1 : fld Tryz.prog 93 1 = (some (1, (1, false))) := by kernel_rfl
theorem fld93_2 : fld Tryz.prog 93 2 = (some (2, (1, false))) := by kernel_rfl
theorem fld93_3 : fld Tryz.prog 93 3 = (some (3, (1, false))) := by kernel_rfl
theorem fld95_0 : fld Tryz.prog 95 0 = (some (0, (1, false))) := by kernel_rfl
theorem fld95_1 : fld Tryz.prog 95 1 = (some (1, (1, false))) := by kernel_rfl
theorem fld95_2 : fld Tryz.prog 95 2 = (some (2, (1, false))) := by kernel_rfl
theorem keyT107 : keyT Tryz.prog 107 = (some ((.mk [.int, .int, .int, .int, .int, .int, .int, .int, .int, .int, .int, .int, .int, .int, .int, .int, .int, .int, .int, .int, .int, .int, .int, .int, .int, .int, .int, .int, .int, .int, .int, .int] true), 4)) := by kernel_rfl
theorem keyT88 : keyT Tryz.prog 88 = (some ((.mk [.int, .int, .int, .int, .int, .int, .int, .int, .int, .int, .int, .int, .int, .int, .int, .int, .int, .int, .int, .int, .int, .int, .int, .int, .int, .int, .int, .int, .int, .int, .int, .int] true), 33)) := by kernel_rfl
theorem keyT91 : keyT Tryz.prog 91 = (some ((.mk [.int, .int, .int, .int, .int, .int, .int, .int, .int, .int, .int, .int, .int, .int, .int, .int, .int, .int, .int, .int, .int, .int, .int, .int, .int, .int, .int, .int, .int, .int, .int, .int] true), 3)) := by kernel_rfl
theorem notInt101 : notInt Tryz.prog 101 = false := by kernel_rfl
theorem notInt107 : notInt Tryz.prog 107 = false := by kernel_rfl
theorem notInt109 : notInt Tryz.prog 109 = false := by kernel_rfl
theorem notInt128 : notInt Tryz.prog 128 = false := by kernel_rfl
theorem notInt129 : notInt Tryz.prog 129 = true := by kernel_rfl
theorem notInt133 : notInt Tryz.prog 133 = true := by kernel_rfl
theorem notInt138 : notInt Tryz.prog 138 = false := by kernel_rfl
theorem notInt143 : notInt Tryz.prog 143 = false := by kernel_rfl
theorem notInt146 : notInt Tryz.prog 146 = false := by kernel_rfl
theorem notInt154 : notInt Tryz.prog 154 = false := by kernel_rfl
theorem notInt156 : notInt Tryz.prog 156 = true := by kernel_rfl
theorem notInt172 : notInt Tryz.prog 172 = true := by kernel_rfl
theorem notInt173 : notInt Tryz.prog 173 = false := by kernel_rfl
theorem notInt187 : notInt Tryz.prog 187 = true := by kernel_rfl
theorem notInt189 : notInt Tryz.prog 189 = true := by kernel_rfl
theorem notInt193 : notInt Tryz.prog 193 = false := by kernel_rfl
theorem notInt20 : notInt Tryz.prog 20 = false := by kernel_rfl
theorem notInt205 : notInt Tryz.prog 205 = false := by kernel_rfl
theorem notInt207 : notInt Tryz.prog 207 = false := by kernel_rfl
theorem notInt213 : notInt Tryz.prog 213 = false := by kernel_rfl
theorem notInt217 : notInt Tryz.prog 217 = false := by kernel_rfl
theorem notInt22 : notInt Tryz.prog 22 = true := by kernel_rfl
theorem notInt23 : notInt Tryz.prog 23 = true := by kernel_rfl
theorem notInt24 : notInt Tryz.prog 24 = false := by kernel_rfl
theorem notInt26 : notInt Tryz.prog 26 = false := by kernel_rfl
theorem notInt28 : notInt Tryz.prog 28 = false := by kernel_rfl
theorem notInt3 : notInt Tryz.prog 3 = false := by kernel_rfl
theorem notInt32 : notInt Tryz.prog 32 = true := by kernel_rfl
theorem notInt33 : notInt Tryz.prog 33 = true := by kernel_rfl
theorem notInt35 : notInt Tryz.prog 35 = false := by kernel_rfl
theorem notInt37 : notInt Tryz.prog 37 = true := by kernel_rfl
theorem notInt39 : notInt Tryz.prog 39 = false := by kernel_rfl
theorem notInt44 : notInt Tryz.prog 44 = false := by kernel_rfl
theorem notInt58 : notInt Tryz.prog 58 = false := by kernel_rfl
theorem notInt62 : notInt Tryz.prog 62 = true := by kernel_rfl
theorem notInt65 : notInt Tryz.prog 65 = false := by kernel_rfl
theorem notInt66 : notInt Tryz.prog 66 = true := by kernel_rfl
theorem notInt68 : notInt Tryz.prog 68 = false := by kernel_rfl
theorem notInt71 : notInt Tryz.prog 71 = false := by kernel_rfl
theorem notInt88 : notInt Tryz.prog 88 = false := by kernel_rfl
theorem notInt91 : notInt Tryz.prog 91 = false := by kernel_rfl
theorem plc105 : plc Tryz.prog 105 = (some (.inr 1)) := by kernel_rfl
theorem plc116 : plc Tryz.prog 116 = (some (.inl [(0, 32), (32, 1)])) := by kernel_rfl
theorem plc131 : plc Tryz.prog 131 = (some (.inl [(0, 1), (1, 1), (2, 1), (3, 1), (4, 1)])) := by kernel_rfl
theorem plc168 : plc Tryz.prog 168 = (some (.inl [(0, 32), (32, 1)])) := by kernel_rfl
theorem plc35 : plc Tryz.prog 35 = (some (.inl [(0, 1), (1, 1), (2, 1)])) := by kernel_rfl
theorem plc44 : plc Tryz.prog 44 = (some (.inr 1)) := by kernel_rfl
theorem plc58 : plc Tryz.prog 58 = (some (.inl [(0, 32), (32, 1)])) := by kernel_rfl
theorem plc65 : plc Tryz.prog 65 = (some (.inl [(0, 1), (1, 1)])) := by kernel_rfl
theorem plc70 : plc Tryz.prog 70 = (some (.inl [(0, 1)])) := by kernel_rfl
theorem plc73 : plc Tryz.prog 73 = (some (.inl [(0, 1), (1, 1), (2, 1)])) := by kernel_rfl
theorem plc90 : plc Tryz.prog 90 = (some (.inl [(0, 1)])) := by kernel_rfl
theorem plc93 : plc Tryz.prog 93 = (some (.inl [(0, 1), (1, 1), (2, 1), (3, 1)])) := by kernel_rfl
theorem tab101 : tab Tryz.prog 101 = (some (1, false)) := by kernel_rfl
theorem tab107 : tab Tryz.prog 107 = (some (1, false)) := by kernel_rfl
theorem tab113 : tab Tryz.prog 113 = (some (1, false)) := by kernel_rfl
theorem tab129 : tab Tryz.prog 129 = (some (1, false)) := by kernel_rfl
theorem tab143 : tab Tryz.prog 143 = (some (3, true)) := by kernel_rfl
theorem tab146 : tab Tryz.prog 146 = (some (1, false)) := by kernel_rfl
theorem tab213 : tab Tryz.prog 213 = (some (1, false)) := by kernel_rfl
theorem tab23 : tab Tryz.prog 23 = (some (1, false)) := by kernel_rfl
theorem tab24 : tab Tryz.prog 24 = (some (1, false)) := by kernel_rfl
theorem tab26 : tab Tryz.prog 26 = (some (1, false)) := by kernel_rfl
theorem tab28 : tab Tryz.prog 28 = (some (1, false)) := by kernel_rfl
theorem tab3 : tab Tryz.prog 3 = (some (1, false)) := by kernel_rfl
theorem tab32 : tab Tryz.prog 32 = (some (1, false)) := by kernel_rfl
theorem tab33 : tab Tryz.prog 33 = (some (1, false)) := by kernel_rfl
theorem tab35 : tab Tryz.prog 35 = (some (3, true)) := by kernel_rfl
theorem tab37 : tab Tryz.prog 37 = (some (1, false)) := by kernel_rfl
theorem tab39 : tab Tryz.prog 39 = (some (4, true)) := by kernel_rfl
theorem tab4 : tab Tryz.prog 4 = (some (1, false)) := by kernel_rfl
theorem tab44 : tab Tryz.prog 44 = (some (32, true)) := by kernel_rfl
theorem tab5 : tab Tryz.prog 5 = (some (1, false)) := by kernel_rfl
theorem tab52 : tab Tryz.prog 52 = (some (1, false)) := by kernel_rfl
theorem tab58 : tab Tryz.prog 58 = (some (33, true)) := by kernel_rfl
theorem tab62 : tab Tryz.prog 62 = (some (1, false)) := by kernel_rfl
theorem tab65 : tab Tryz.prog 65 = (some (2, true)) := by kernel_rfl
theorem tab88 : tab Tryz.prog 88 = (some (1, false)) := by kernel_rfl
theorem tab91 : tab Tryz.prog 91 = (some (1, false)) := by kernel_rfl
theorem tab93 : tab Tryz.prog 93 = (some (4, true)) := by kernel_rfl
theorem tab95 : tab Tryz.prog 95 = (some (3, true)) := by kernel_rfl
theorem und101 : Go.Program.underlying Tryz.prog 101 = (some (.func #[44] #[4] false)) := by kernel_rfl
theorem und105 : Go.Program.underlying Tryz.prog 105 = (some (.array 6 5)) := by kernel_rfl
theorem und107 : Go.Program.underlying Tryz.prog 107 = (some (.map 44 4)) := by kernel_rfl
theorem und109 : Go.Program.underlying Tryz.prog 109 = (some (.func #[44] #[33] false)) := by kernel_rfl
theorem und112 : Go.Program.underlying Tryz.prog 112 = (some (.pointer 52)) := by kernel_rfl
theorem und113 : Go.Program.underlying Tryz.prog 113 = (some (.pointer 116)) := by kernel_rfl
theorem und114 : Go.Program.underlying Tryz.prog 114 = (some (.pointer 113)) := by kernel_rfl
theorem und128 : Go.Program.underlying Tryz.prog 128 = (some (.pointer 131)) := by kernel_rfl
theorem und129 : Go.Program.underlying Tryz.prog 129 = (some (.slice 168)) := by kernel_rfl
theorem und133 : Go.Program.underlying Tryz.prog 133 = (some (.slice 33)) := by kernel_rfl
theorem und138 : Go.Program.underlying Tryz.prog 138 = (some (.func #[101] #[] false)) := by kernel_rfl
theorem und148 : Go.Program.underlying Tryz.prog 148 = (some (.int .u8)) := by kernel_rfl
theorem und154 : Go.Program.underlying Tryz.prog 154 = (some (.func #[65, 65] #[3] false)) := by kernel_rfl
theorem und156 : Go.Program.underlying Tryz.prog 156 = (some (.slice 4)) := by kernel_rfl
theorem und172 : Go.Program.underlying Tryz.prog 172 = (some (.slice 5)) := by kernel_rfl
theorem und173 : Go.Program.underlying Tryz.prog 173 = (some (.func #[44, 44] #[3] false)) := by kernel_rfl
theorem und187 : Go.Program.underlying Tryz.prog 187 = (some (.slice 28)) := by kernel_rfl
theorem und189 : Go.Program.underlying Tryz.prog 189 = (some (.slice 62)) := by kernel_rfl
theorem und193 : Go.Program.underlying Tryz.prog 193 = (some (.int .u64)) := by kernel_rfl
theorem und198 : Go.Program.underlying Tryz.prog 198 = (some (.int .i64)) := by kernel_rfl
theorem und20 : Go.Program.underlying Tryz.prog 20 = (some (.interface #[])) := by kernel_rfl
theorem und205 : Go.Program.underlying Tryz.prog 205 = (some (.int .u32)) := by kernel_rfl
theorem und207 : Go.Program.underlying Tryz.prog 207 = (some (.int .u64)) := by kernel_rfl
theorem und213 : Go.Program.underlying Tryz.prog 213 = (some (.int .u64)) := by kernel_rfl
theorem und217 : Go.Program.underlying Tryz.prog 217 = (some (.pointer 3)) := by kernel_rfl
theorem und22 : Go.Program.underlying Tryz.prog 22 = (some (.slice 39)) := by kernel_rfl
theorem und23 : Go.Program.underlying Tryz.prog 23 = (some (.slice 3)) := by kernel_rfl
theorem und24 : Go.Program.underlying Tryz.prog 24 = (some (.pointer 90)) := by kernel_rfl
theorem und26 : Go.Program.underlying Tryz.prog 26 = (some (.pointer 93)) := by kernel_rfl
theorem und3 : Go.Program.underlying Tryz.prog 3 = (some (.int .i64)) := by kernel_rfl
theorem und32 : Go.Program.underlying Tryz.prog 32 = (some (.slice 58)) := by kernel_rfl
theorem und33 : Go.Program.underlying Tryz.prog 33 = (some (.slice 44)) := by kernel_rfl
theorem und37 : Go.Program.underlying Tryz.prog 37 = (some (.slice 95)) := by kernel_rfl
theorem und4 : Go.Program.underlying Tryz.prog 4 = (some .bool) := by kernel_rfl
theorem und44 : Go.Program.underlying Tryz.prog 44 = (some (.array 32 5)) := by kernel_rfl
theorem und5 : Go.Program.underlying Tryz.prog 5 = (some (.int .u8)) := by kernel_rfl
theorem und52 : Go.Program.underlying Tryz.prog 52 = (some (.int .i64)) := by kernel_rfl
theorem und62 : Go.Program.underlying Tryz.prog 62 = (some (.slice 65)) := by kernel_rfl
theorem und66 : Go.Program.underlying Tryz.prog 66 = (some (.slice 75)) := by kernel_rfl
theorem und68 : Go.Program.underlying Tryz.prog 68 = (some (.pointer 70)) := by kernel_rfl
theorem und71 : Go.Program.underlying Tryz.prog 71 = (some (.pointer 73)) := by kernel_rfl
theorem und88 : Go.Program.underlying Tryz.prog 88 = (some (.map 44 33)) := by kernel_rfl
theorem und9 : Go.Program.underlying Tryz.prog 9 = (some .string) := by kernel_rfl
theorem und91 : Go.Program.underlying Tryz.prog 91 = (some (.map 44 3)) := by kernel_rfl
theorem und97 : Go.Program.underlying Tryz.prog 97 = (some (.array 60 4)) := by kernel_rfl
theorem zer105 : zer Tryz.prog 105 = (some [.int .u8 0, .int .u8 0, .int .u8 0, .int .u8 0, .int .u8 0, .int .u8 0]) := by kernel_rfl
theorem zer107 : zer Tryz.prog 107 = (some [(.lit (.map none))]) := by kernel_rfl
theorem zer113 : zer Tryz.prog 113 = (some [(.lit (.pointer none))]) := by kernel_rfl
theorem zer116 : zer Tryz.prog 116 = (some [.int .u8 0, .int .u8 0, .int .u8 0, .int .u8 0, .int .u8 0, .int .u8 0, .int .u8 0, .int .u8 0, .int .u8 0, .int .u8 0, .int .u8 0, .int .u8 0, .int .u8 0, .int .u8 0, .int .u8 0, .int .u8 0, .int .u8 0, .int .u8 0, .int .u8 0, .int .u8 0, .int .u8 0, .int .u8 0, .int .u8 0, .int .u8 0, .int .u8 0, .int .u8 0, .int .u8 0, .int .u8 0, .int .u8 0, .int .u8 0, .int .u8 0, .int .u8 0, (.lit .nilIface)]) := by kernel_rfl
theorem zer131 : zer Tryz.prog 131 = (some [(.lit (.pointer none)), (.lit (.nilFunc)), (.lit (.map none)), .slice [] .nil, .slice [] .nil]) := by kernel_rfl
theorem zer143 : zer Tryz.prog 143 = (some [(.lit (.pointer none)), (.lit (.pointer none)), (.int .u64 0)]) := by kernel_rfl
theorem zer168 : zer Tryz.prog 168 = (some [.int .u8 0, .int .u8 0, .int .u8 0, .int .u8 0, .int .u8 0, .int .u8 0, .int .u8 0, .int .u8 0, .int .u8 0, .int .u8 0, .int .u8 0, .int .u8 0, .int .u8 0, .int .u8 0, .int .u8 0, .int .u8 0, .int .u8 0, .int .u8 0, .int .u8 0, .int .u8 0, .int .u8 0, .int .u8 0, .int .u8 0, .int .u8 0, .int .u8 0, .int .u8 0, .int .u8 0, .int .u8 0, .int .u8 0, .int .u8 0, .int .u8 0, .int .u8 0, .slice [] .nil]) := by kernel_rfl
theorem zer213 : zer Tryz.prog 213 = (some [(.int .u64 0)]) := by kernel_rfl
theorem zer26 : zer Tryz.prog 26 = (some [(.lit (.pointer none))]) := by kernel_rfl
theorem zer3 : zer Tryz.prog 3 = (some [.int .i64 0]) := by kernel_rfl
theorem zer35 : zer Tryz.prog 35 = (some [.slice [] .nil, .slice [] .nil, .int .i64 0]) := by kernel_rfl
theorem zer44 : zer Tryz.prog 44 = (some [.int .u8 0, .int .u8 0, .int .u8 0, .int .u8 0, .int .u8 0, .int .u8 0, .int .u8 0, .int .u8 0, .int .u8 0, .int .u8 0, .int .u8 0, .int .u8 0, .int .u8 0, .int .u8 0, .int .u8 0, .int .u8 0, .int .u8 0, .int .u8 0, .int .u8 0, .int .u8 0, .int .u8 0, .int .u8 0, .int .u8 0, .int .u8 0, .int .u8 0, .int .u8 0, .int .u8 0, .int .u8 0, .int .u8 0, .int .u8 0, .int .u8 0, .int .u8 0]) := by kernel_rfl
theorem zer52 : zer Tryz.prog 52 = (some [.int .i64 0]) := by kernel_rfl
theorem zer58 : zer Tryz.prog 58 = (some [.int .u8 0, .int .u8 0, .int .u8 0, .int .u8 0, .int .u8 0, .int .u8 0, .int .u8 0, .int .u8 0, .int .u8 0, .int .u8 0, .int .u8 0, .int .u8 0, .int .u8 0, .int .u8 0, .int .u8 0, .int .u8 0, .int .u8 0, .int .u8 0, .int .u8 0, .int .u8 0, .int .u8 0, .int .u8 0, .int .u8 0, .int .u8 0, .int .u8 0, .int .u8 0, .int .u8 0, .int .u8 0, .int .u8 0, .int .u8 0, .int .u8 0, .int .u8 0, .slice [] .nil]) := by kernel_rfl
theorem zer65 : zer Tryz.prog 65 = (some [.int .i64 0, .int .i64 0]) := by kernel_rfl
theorem zer70 : zer Tryz.prog 70 = (some [.slice [] .nil]) := by kernel_rfl
theorem zer73 : zer Tryz.prog 73 = (some [.int .i64 0, .slice [] .nil, .slice [] .nil]) := by kernel_rfl
theorem zer88 : zer Tryz.prog 88 = (some [(.lit (.map none))]) := by kernel_rfl
theorem zer90 : zer Tryz.prog 90 = (some [(.lit (.map none))]) := by kernel_rfl
theorem zer93 : zer Tryz.prog 93 = (some [.int .i64 0, .slice [] .nil, .slice [] .nil, (.lit (.map none))]) := by kernel_rfl
theorem zer95 : zer Tryz.prog 95 = (some [.int .i64 0, .int .i64 0, .slice [] .nil]) := by kernel_rfl
theorem zer97 : zer Tryz.prog 97 = (some [(.bool false), (.bool false), (.bool false), (.bool false), (.bool false), (.bool false), (.bool false), (.bool false), (.bool false), (.bool false), (.bool false), (.bool false), (.bool false), (.bool false), (.bool false), (.bool false), (.bool false), (.bool false), (.bool false), (.bool false), (.bool false), (.bool false), (.bool false), (.bool false), (.bool false), (.bool false), (.bool false), (.bool false), (.bool false), (.bool false), (.bool false), (.bool false), (.bool false), (.bool false), (.bool false), (.bool false), (.bool false), (.bool false), (.bool false), (.bool false), (.bool false), (.bool false), (.bool false), (.bool false), (.bool false), (.bool false), (.bool false), (.bool false), (.bool false), (.bool false), (.bool false), (.bool false), (.bool false), (.bool false), (.bool false), (.bool false), (.bool false), (.bool false), (.bool false), (.bool false)]) := by kernel_rfl
theorem zeroG3 : zeroG Tryz.prog 3 = (some (.int .i64 0)) := by kernel_rfl
theorem zeroG33 : zeroG Tryz.prog 33 = (some (.slice [] .nil)) := by kernel_rfl
theorem zeroG4 : zeroG Tryz.prog 4 = (some (.bool false)) := by kernel_rfl
set_option linter.defProp false in
def fbFy := ai aggT44 <| ai aggT65 <| ai arr105 <| ai arr44 <| ai arr97 <| ai els129 <| ai els133 <| ai els156 <| ai els187 <| ai els189 <| ai els22 <| ai els23 <| ai els32 <| ai els33 <| ai els37 <| ai els62 <| ai els66 <| ai elt129 <| ai elt133 <| ai elt156 <| ai elt172 <| ai elt187 <| ai elt189 <| ai elt22 <| ai elt23 <| ai elt32 <| ai elt33 <| ai elt37 <| ai elt62 <| ai elt66 <| ai fld116_0 <| ai fld131_0 <| ai fld131_1 <| ai fld131_2 <| ai fld131_3 <| ai fld131_4 <| ai fld168_0 <| ai fld168_1 <| ai fld35_0 <| ai fld35_1 <| ai fld35_2 <| ai fld39_0 <| ai fld39_1 <| ai fld39_2 <| ai fld39_3 <| ai fld58_0 <| ai fld58_1 <| ai fld65_0 <| ai fld65_1 <| ai fld70_0 <| ai fld73_0 <| ai fld73_1 <| ai fld73_2 <| ai fld75_0 <| ai fld75_1 <| ai fld75_2 <| ai fld90_0 <| ai fld93_0 <| ai fld93_1 <| ai fld93_2 <| ai fld93_3 <| ai fld95_0 <| ai fld95_1 <| ai fld95_2 <| ai keyT107 <| ai keyT88 <| ai keyT91 <| ai notInt101 <| ai notInt107 <| ai notInt109 <| ai notInt128 <| ai notInt129 <| ai notInt133 <| ai notInt138 <| ai notInt143 <| ai notInt146 <| ai notInt154 <| ai notInt156 <| ai notInt172 <| ai notInt173 <| ai notInt187 <| ai notInt189 <| ai notInt193 <| ai notInt20 <| ai notInt205 <| ai notInt207 <| ai notInt213 <| ai notInt217 <| ai notInt22 <| ai notInt23 <| ai notInt24 <| ai notInt26 <| ai notInt28 <| ai notInt3 <| ai notInt32 <| ai notInt33 <| ai notInt35 <| ai notInt37 <| ai notInt39 <| ai notInt44 <| ai notInt58 <| ai notInt62 <| ai notInt65 <| ai notInt66 <| ai notInt68 <| ai notInt71 <| ai notInt88 <| ai notInt91 <| ai plc105 <| ai plc116 <| ai plc131 <| ai plc168 <| ai plc35 <| ai plc44 <| ai plc58 <| ai plc65 <| ai plc70 <| ai plc73 <| ai plc90 <| ai plc93 <| ai tab101 <| ai tab107 <| ai tab113 <| ai tab129 <| ai tab143 <| ai tab146 <| ai tab213 <| ai tab23 <| ai tab24 <| ai tab26 <| ai tab28 <| ai tab3 <| ai tab32 <| ai tab33 <| ai tab35 <| ai tab37 <| ai tab39 <| ai tab4 <| ai tab44 <| ai tab5 <| ai tab52 <| ai tab58 <| ai tab62 <| ai tab65 <| ai tab88 <| ai tab91 <| ai tab93 <| ai tab95 <| ai und101 <| ai und105 <| ai und107 <| ai und109 <| ai und112 <| ai und113 <| ai und114 <| ai und128 <| ai und129 <| ai und133 <| ai und138 <| ai und148 <| ai und154 <| ai und156 <| ai und172 <| ai und173 <| ai und187 <| ai und189 <| ai und193 <| ai und198 <| ai und20 <| ai und205 <| ai und207 <| ai und213 <| ai und217 <| ai und22 <| ai und23 <| ai und24 <| ai und26 <| ai und3 <| ai und32 <| ai und33 <| ai und37 <| ai und4 <| ai und44 <| ai und5 <| ai und52 <| ai und62 <| ai und66 <| ai und68 <| ai und71 <| ai und88 <| ai und9 <| ai und91 <| ai und97 <| ai zer105 <| ai zer107 <| ai zer113 <| ai zer116 <| ai zer131 <| ai zer143 <| ai zer168 <| ai zer213 <| ai zer26 <| ai zer3 <| ai zer35 <| ai zer44 <| ai zer52 <| ai zer58 <| ai zer65 <| ai zer70 <| ai zer73 <| ai zer88 <| ai zer90 <| ai zer93 <| ai zer95 <| ai zer97 <| ai zeroG3 <| ai zeroG33 <| zeroG4
end Gv.Tryz

/- What all texts of contracts need. -/
set_option linter.unusedVariables false
namespace Gv.Tryz
open Go Gv Go.Proofs
theorem mixS : Tryz.prog.follows .mixedOrders = true := by kernel_rfl
end Gv.Tryz
/- Sets of numbers as lists of spans: the plain theory. -/
set_option linter.unusedVariables false
namespace Gv.Sp
open Gv
abbrev S := Int × Int
def has (l : List S) (n : Int) : Prop := ∃ s ∈ l, 0 ≤ n ∧ s.1 ≤ n ∧ n ≤ s.2
theorem has_nil (n : Int) : has [] n ↔ False := by simp [has]
theorem has_cons (s : S) (l : List S) (n : Int) : has (s :: l) n ↔ (0 ≤ n ∧ s.1 ≤ n ∧ n ≤ s.2) ∨ has l n := by simp [has]
theorem has_app (a b : List S) (n : Int) : has (a ++ b) n ↔ has a n ∨ has b n := by
  induction a with
  | nil => simp [has_nil]
  | cons s r ih => rw [List.cons_append, has_cons, has_cons, ih, or_assoc]
theorem has_perm {a b : List S} (h : a.Perm b) (n : Int) : has a n ↔ has b n := by
  simp only [has, h.mem_iff]
def Rt : Int → List S → Prop
  | _, [] => True
  | b, s :: r => b ≤ s.1 ∧ s.1 ≤ s.2 ∧ Rt (s.2 + 2) r
theorem Rt.weak {b b' : Int} : ∀ {l : List S}, Rt b l → b' ≤ b → Rt b' l
  | [], _, _ => trivial
  | s :: r, ⟨h1, h2, h3⟩, h => ⟨by omega, h2, h3⟩
theorem Rt.ge {n : Int} : ∀ {l : List S} {b : Int}, Rt b l → has l n → b ≤ n
  | [], b, _, h => by simp [has] at h
  | s :: r, b, ⟨h1, h2, h3⟩, h => by
    rcases (has_cons s r n).1 h with h | h
    · omega
    · have := h3.ge h; omega
theorem Rt.mem {s : S} : ∀ {l : List S} {b : Int}, Rt b l → s ∈ l → b ≤ s.1 ∧ s.1 ≤ s.2
  | [], b, _, h => by simp at h
  | x :: r, b, ⟨h1, h2, h3⟩, h => by
    rcases List.mem_cons.1 h with rfl | h
    · exact ⟨h1, h2⟩
    · have := h3.mem h; omega
theorem Rt.lo {s : S} {l : List S} {b : Int} (h : Rt b l) (hb : 0 ≤ b) (hs : s ∈ l) : has l s.1 := ⟨s, hs, by have := h.mem hs; omega⟩
theorem Rt.hi {s : S} {l : List S} {b : Int} (h : Rt b l) (hb : 0 ≤ b) (hs : s ∈ l) : has l s.2 := ⟨s, hs, by have := h.mem hs; omega⟩
theorem uniq : ∀ {l l' : List S} {b b' : Int}, Rt b l → Rt b' l' → 0 ≤ b → 0 ≤ b' → (∀ n, has l n ↔ has l' n) → l = l'
  | [], [], _, _, _, _, _, _, _ => rfl
  | [], y :: r, _, b', _, h', _, h0', h => absurd ((h y.1).2 (h'.lo h0' (by simp))) (by simp [has])
  | x :: r, [], b, _, h', _, h0', _, h => absurd ((h x.1).1 (h'.lo h0' (by simp))) (by simp [has])
  | (x1, x2) :: r, (y1, y2) :: q, b, b', hx, hy, hb, hb', h => by
    have e1 : has ((y1, y2) :: q) x1 := (h _).1 (hx.lo hb (s := (x1, x2)) (by simp))
    have e2 : has ((x1, x2) :: r) y1 := (h _).2 (hy.lo hb' (s := (y1, y2)) (by simp))
    obtain ⟨p1, p2, p3⟩ := hx
    obtain ⟨q1, q2, q3⟩ := hy
    simp only at p1 p2 p3 q1 q2 q3
    have g1 : y1 ≤ x1 := by
      rcases (has_cons _ _ _).1 e1 with e | e
      · exact e.2.1
      · have := q3.ge e; omega
    have g2 : x1 ≤ y1 := by
      rcases (has_cons _ _ _).1 e2 with e | e
      · exact e.2.1
      · have := p3.ge e; omega
    have g : x1 = y1 := by omega
    have k1 : ¬ x2 < y2 := fun hlt => by
      have e := (h (x2 + 1)).2 ((has_cons _ _ _).2 (.inl ⟨by omega, by show y1 ≤ _; omega, by show _ ≤ y2; omega⟩))
      rcases (has_cons _ _ _).1 e with e | e
      · have := e.2.2; simp only at this; omega
      · have := p3.ge e; omega
    have k2 : ¬ y2 < x2 := fun hlt => by
      have e := (h (y2 + 1)).1 ((has_cons _ _ _).2 (.inl ⟨by omega, by show x1 ≤ _; omega, by show _ ≤ x2; omega⟩))
      rcases (has_cons _ _ _).1 e with e | e
      · have := e.2.2; simp only at this; omega
      · have := q3.ge e; omega
    have k : x2 = y2 := by omega
    subst g; subst k
    have hr : ∀ n, has r n ↔ has q n := fun n => by
      constructor
      · intro hn
        rcases (has_cons _ _ _).1 ((h n).1 ((has_cons _ _ _).2 (.inr hn))) with e | e
        · have := p3.ge hn; have := e.2.2; simp only at this; omega
        · exact e
      · intro hn
        rcases (has_cons _ _ _).1 ((h n).2 ((has_cons _ _ _).2 (.inr hn))) with e | e
        · have := q3.ge hn; have := e.2.2; simp only at this; omega
        · exact e
    rw [uniq p3 q3 (by omega) (by omega) hr]

theorem Rt_snoc (x : S) : ∀ (A : List S) (b : Int), Rt b (A ++ [x]) ↔ Rt b A ∧ b ≤ x.1 ∧ x.1 ≤ x.2 ∧ ∀ y ∈ A, y.2 + 2 ≤ x.1
  | [], b => by simp [Rt]
  | y :: r, b => by
    rw [List.cons_append]
    show b ≤ y.1 ∧ y.1 ≤ y.2 ∧ Rt (y.2 + 2) (r ++ [x]) ↔ (b ≤ y.1 ∧ y.1 ≤ y.2 ∧ Rt (y.2 + 2) r) ∧ _
    rw [Rt_snoc x r]
    constructor
    · rintro ⟨h1, h2, h3, h4, h5, h6⟩
      exact ⟨⟨h1, h2, h3⟩, by omega, h5, fun z hz => by
        rcases List.mem_cons.1 hz with rfl | hz
        · exact h4
        · exact h6 z hz⟩
    · rintro ⟨⟨h1, h2, h3⟩, h4, h5, h6⟩
      exact ⟨h1, h2, h3, h6 y (by simp), h5, fun z hz => h6 z (by simp [hz])⟩

def ins : List S → S → List S
  | [], s => [s]
  | x :: r, s => if x.2 + 1 < s.1 then x :: ins r s else if s.2 + 1 < x.1 then s :: x :: r else ins r (min s.1 x.1, max s.2 x.2)
theorem ins_rt : ∀ (l : List S) (s : S) (b : Int), Rt b l → b ≤ s.1 → s.1 ≤ s.2 → Rt b (ins l s)
  | [], s, b, _, h1, h2 => ⟨h1, h2, trivial⟩
  | x :: r, s, b, ⟨p1, p2, p3⟩, h1, h2 => by
    unfold ins
    split
    · exact ⟨p1, p2, ins_rt r s _ p3 (by omega) h2⟩
    · split
      · exact ⟨h1, h2, by omega, p2, p3⟩
      · exact ins_rt r _ b (p3.weak (by omega)) (by show _ ≤ min _ _; omega) (by show min _ _ ≤ max _ _; omega)
theorem ins_has (n : Int) : ∀ (l : List S) (s : S) (b : Int), Rt b l → s.1 ≤ s.2 → (has (ins l s) n ↔ has l n ∨ (0 ≤ n ∧ s.1 ≤ n ∧ n ≤ s.2))
  | [], s, b, _, _ => by simp [ins, has_cons, has_nil]
  | x :: r, s, b, ⟨p1, p2, p3⟩, h2 => by
    unfold ins
    split
    · rw [has_cons, ins_has n r s _ p3 h2, has_cons, or_assoc]
    · split
      · rw [has_cons s, or_comm]
      · rw [ins_has n r _ _ p3 (by show min _ _ ≤ max _ _; omega), has_cons]
        constructor
        · rintro (h | ⟨q1, q2, q3⟩)
          · exact .inl (.inr h)
          · simp only at q2 q3
            by_cases e : s.1 ≤ n ∧ n ≤ s.2
            · exact .inr ⟨q1, e⟩
            · exact .inl (.inl ⟨q1, by omega, by omega⟩)
        · rintro ((⟨q1, q2, q3⟩ | h) | ⟨q1, q2, q3⟩)
          · exact .inr ⟨q1, by show min _ _ ≤ _; omega, by show _ ≤ max _ _; omega⟩
          · exact .inl h
          · exact .inr ⟨q1, by show min _ _ ≤ _; omega, by show _ ≤ max _ _; omega⟩
theorem ins_len : ∀ (l : List S) (s : S), (ins l s).length ≤ l.length + 1
  | [], s => by simp [ins]
  | x :: r, s => by
    unfold ins
    split
    · have := ins_len r s; simp; omega
    · split
      · simp
      · have := ins_len r (min s.1 x.1, max s.2 x.2); simp; omega

def put (acc : List S) (s : S) : List S := if max s.1 0 ≤ s.2 then ins acc (max s.1 0, s.2) else acc
def nfA (acc : List S) : List S → List S
  | [] => acc
  | s :: r => nfA (put acc s) r
def nf (l : List S) : List S := nfA [] l
theorem put_rt {acc : List S} (s : S) (h : Rt 0 acc) : Rt 0 (put acc s) := by
  unfold put; split
  · exact ins_rt _ _ _ h (by show _ ≤ max _ _; omega) (by assumption)
  · exact h
theorem put_has {acc : List S} (s : S) (h : Rt 0 acc) (n : Int) : has (put acc s) n ↔ has acc n ∨ (0 ≤ n ∧ s.1 ≤ n ∧ n ≤ s.2) := by
  unfold put; split
  · rw [ins_has n _ _ _ h (by assumption)]
    constructor
    · rintro (q | ⟨q1, q2, q3⟩)
      · exact .inl q
      · exact .inr ⟨q1, by simp only at q2; omega, q3⟩
    · rintro (q | ⟨q1, q2, q3⟩)
      · exact .inl q
      · exact .inr ⟨q1, by show max _ _ ≤ _; omega, q3⟩
  · constructor
    · exact .inl
    · rintro (q | ⟨q1, q2, q3⟩)
      · exact q
      · omega
theorem nfA_rt : ∀ (l acc : List S), Rt 0 acc → Rt 0 (nfA acc l)
  | [], acc, h => h
  | s :: r, acc, h => nfA_rt r _ (put_rt s h)
theorem nfA_has (n : Int) : ∀ (l acc : List S), Rt 0 acc → (has (nfA acc l) n ↔ has acc n ∨ has l n)
  | [], acc, h => by simp [nfA, has_nil]
  | s :: r, acc, h => by
    show has (nfA (put acc s) r) n ↔ _
    rw [nfA_has n r _ (put_rt s h), put_has s h, has_cons, or_assoc]
theorem nf_rt (l : List S) : Rt 0 (nf l) := nfA_rt l [] trivial
theorem nf_has (l : List S) (n : Int) : has (nf l) n ↔ has l n := by rw [nf, nfA_has n l [] trivial, has_nil, false_or]
theorem nfA_len : ∀ (l acc : List S), (nfA acc l).length ≤ acc.length + l.length
  | [], acc => by simp [nfA]
  | s :: r, acc => by
    have h := nfA_len r (put acc s)
    have : (put acc s).length ≤ acc.length + 1 := by
      unfold put; split
      · exact ins_len _ _
      · omega
    show (nfA (put acc s) r).length ≤ _
    simp; omega
theorem nf_len (l : List S) : (nf l).length ≤ l.length := by have := nfA_len l []; simpa [nf] using this
theorem nf_eq {l r : List S} (h : Rt 0 r) (hn : ∀ n, has r n ↔ has l n) : nf l = r := uniq (nf_rt l) h (by omega) (by omega) fun n => by rw [nf_has, hn]
def Ok (l : List S) : Prop := ∀ s ∈ l, (-9223372036854775808 ≤ s.1 ∧ s.1 ≤ 9223372036854775807) ∧ (-9223372036854775808 ≤ s.2 ∧ s.2 ≤ 9223372036854775807)
theorem Ok.has {l : List S} (h : Ok l) {n : Int} (hn : has l n) : n ≤ 9223372036854775807 := by obtain ⟨s, hs, h1, h2, h3⟩ := hn; have := (h s hs).2.2; omega
theorem ok_of {l : List S} {b : Int} (h : Rt b l) (hb : 0 ≤ b) (hn : ∀ n, Sp.has l n → n ≤ 9223372036854775807) : Ok l := fun s hs => by
  have h1 := h.mem hs
  have h2 := hn _ (h.hi hb hs)
  exact ⟨⟨by omega, by omega⟩, by omega, h2⟩
theorem nf_ok {l : List S} (h : Ok l) : Ok (nf l) := ok_of (nf_rt l) (by omega) fun n hn => h.has ((nf_has l n).1 hn)
theorem Ok.app {a b : List S} (ha : Ok a) (hb : Ok b) : Ok (a ++ b) := fun s hs => (List.mem_append.1 hs).elim (ha s) (hb s)
theorem Ok.nil : Ok [] := fun s hs => by simp at hs
theorem Ok.at {l : List S} (h : Ok l) (i : Nat) : (-9223372036854775808 ≤ (l.getD i (0, 0)).1 ∧ (l.getD i (0, 0)).1 ≤ 9223372036854775807) ∧ (-9223372036854775808 ≤ (l.getD i (0, 0)).2 ∧ (l.getD i (0, 0)).2 ≤ 9223372036854775807) := by
  by_cases hi : i < l.length
  · rw [List.getD_eq_getElem?_getD, List.getElem?_eq_getElem hi]; exact h _ (List.getElem_mem hi)
  · rw [List.getD_eq_getElem?_getD, List.getElem?_eq_none (by omega)]; simp
theorem Rt.at {l : List S} {b : Int} (h : Rt b l) (i : Nat) (hi : i < l.length) : b ≤ (l.getD i (0, 0)).1 ∧ (l.getD i (0, 0)).1 ≤ (l.getD i (0, 0)).2 := by
  rw [List.getD_eq_getElem?_getD, List.getElem?_eq_getElem hi]; exact h.mem (List.getElem_mem hi)

def both (a b : List S) : List S :=
  match a, b with
  | [], _ => []
  | _ :: _, [] => []
  | x :: a, y :: b => (if max x.1 y.1 ≤ min x.2 y.2 then [(max x.1 y.1, min x.2 y.2)] else []) ++ if x.2 < y.2 then both a (y :: b) else both (x :: a) b
termination_by a.length + b.length
def restF (low : Int) : List S → List S
  | [] => [(low, 9223372036854775807)]
  | s :: r => (if low < s.1 then [(low, s.1 - 1)] else []) ++ if s.2 = 9223372036854775807 then [] else restF (s.2 + 1) r
def rest (l : List S) : List S := restF 0 l
def uni (a b : List S) : List S := nf (a ++ b)
end Gv.Sp
/- Spans as ghost values. -/
set_option linter.unusedVariables false
namespace Gv
def spG (s : Sp.S) : List GVal := [.int .i64 s.1, .int .i64 s.2]
def spl (l : List Sp.S) : List (List GVal) := l.map spG
theorem spl_length (l : List Sp.S) : (spl l).length = l.length := by simp [spl]
theorem spl_at (l : List Sp.S) (i : Nat) (h : i < l.length) : (spl l).getD i [] = spG (l.getD i (0, 0)) := by simp [spl, List.getD, h]
theorem spl_append (a b : List Sp.S) : spl (a ++ b) = spl a ++ spl b := by simp [spl]
theorem spl_one (s : Sp.S) : spl [s] = [spG s] := rfl
theorem all_spl (l : List Sp.S) : (∀ x ∈ spl l, x.length = 2) = True := eq_true fun x hx => by obtain ⟨s, _, rfl⟩ := List.mem_map.1 hx; rfl
theorem spl_set (l : List Sp.S) (i : Nat) (s : Sp.S) : (spl l).set i (spG s) = spl (l.set i s) := by simp [spl, List.map_set]
theorem frz_spl (O : List GObj) (n : Nat) (l : List Sp.S) : frzLL (Gv.frz O (n + 1)) (spl l) = some (spl l) :=
  frzLL_same fun x hx => by
    obtain ⟨s, _, rfl⟩ := List.mem_map.1 hx
    simp only [spG, frzL, Gv.frz]
theorem getD_last {α : Type} (A : List α) (x d : α) : (A ++ [x]).getD A.length d = x := by simp [List.getD]
theorem spl_setLast (A : List Sp.S) (x y : Sp.S) : (spl (A ++ [x])).set A.length (spG y) = spl (A ++ [y]) := by
  rw [spl_set, List.set_append_right _ _ (Nat.le_refl _), Nat.sub_self]; rfl
theorem take_getD {l : List Sp.S} {k : Nat} (h : k < l.length) : l.take (k + 1) = l.take k ++ [l.getD k (0, 0)] := by
  rw [List.take_add_one]; simp [List.getD, h]
end Gv
