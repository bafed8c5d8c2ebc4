import Derived.Test.YtbfokpenlkdekaaGvTab
import Derived.Test.YtbfokpenlkdekaaProg
import Derived.KernelRfl
set_option maxRecDepth 100000
set_option linter.unusedVariables false
namespace Gv.Try
open Go Gv Go.Proofs
noncomputable def x8 : FnX := fnx Try.f8 [] []
theorem x8_ok : FnOk Try.prog 8 x8 := .mk Try.func8 (by kernel_rfl) (by kernel_rfl) (by kernel_rfl)
noncomputable def x10 : FnX := fnx Try.f10 [] []
theorem x10_ok : FnOk Try.prog 10 x10 := .mk Try.func10 (by kernel_rfl) (by kernel_rfl) (by kernel_rfl)
noncomputable def x11 : FnX := fnx Try.f11 [] []
theorem x11_ok : FnOk Try.prog 11 x11 := .mk Try.func11 (by kernel_rfl) (by kernel_rfl) (by kernel_rfl)
noncomputable def x12 : FnX := fnx Try.f12 [] [(4, [(0, 0), (1, 0), (2, 0), (3, 0), (4, 0), (5, 0), (6, 0), (7, 0), (8, 0), (9, 0), (10, 0), (11, 0), (12, 0), (13, 0), (14, 0), (15, 0), (16, 0), (17, 0), (18, 0), (19, 2), (20, 1)]), (7, [(0, 0), (1, 0), (2, 0), (3, 0), (4, 0), (5, 0), (6, 0), (7, 0), (8, 0)])]
theorem x12_ok : FnOk Try.prog 12 x12 := .mk Try.func12 (by kernel_rfl) (by kernel_rfl) (by kernel_rfl)
noncomputable def x14 : FnX := fnx Try.f14 [] []
theorem x14_ok : FnOk Try.prog 14 x14 := .mk Try.func14 (by kernel_rfl) (by kernel_rfl) (by kernel_rfl)
noncomputable def x15 : FnX := fnx Try.f15 [28, 69] [(14, [(0, 0), (1, 0), (2, 0), (3, 0), (4, 0), (5, 0), (6, 0), (7, 0), (8, 0), (9, 1), (10, 0), (11, 0)]), (15, [(0, 0), (1, 0), (2, 0), (3, 0), (4, 0), (5, 0), (6, 0), (7, 0), (8, 0), (9, 0), (10, 0), (11, 0), (12, 0), (13, 0), (14, 1)])]
theorem x15_ok : FnOk Try.prog 15 x15 := .mk Try.func15 (by kernel_rfl) (by kernel_rfl) (by kernel_rfl)
noncomputable def x17 : FnX := fnx Try.f17 [] [(4, [(0, 0), (1, 0), (2, 0), (3, 0), (4, 0), (5, 0), (6, 0), (7, 0), (8, 0), (9, 0), (10, 0), (11, 0), (12, 0), (13, 0), (14, 0), (15, 0), (16, 0), (17, 0), (18, 0), (19, 0), (20, 1), (21, 0), (22, 0), (23, 0)])]
theorem x17_ok : FnOk Try.prog 17 x17 := .mk Try.func17 (by kernel_rfl) (by kernel_rfl) (by kernel_rfl)
noncomputable def x22 : FnX := fnx Try.f22 [] []
theorem x22_ok : FnOk Try.prog 22 x22 := .mk Try.func22 (by kernel_rfl) (by kernel_rfl) (by kernel_rfl)
noncomputable def x24 : FnX := fnx Try.f24 [] []
theorem x24_ok : FnOk Try.prog 24 x24 := .mk Try.func24 (by kernel_rfl) (by kernel_rfl) (by kernel_rfl)
noncomputable def x28 : FnX := fnx Try.f28 [] []
theorem x28_ok : FnOk Try.prog 28 x28 := .mk Try.func28 (by kernel_rfl) (by kernel_rfl) (by kernel_rfl)
noncomputable def x29 : FnX := fnx Try.f29 [] []
theorem x29_ok : FnOk Try.prog 29 x29 := .mk Try.func29 (by kernel_rfl) (by kernel_rfl) (by kernel_rfl)
noncomputable def x30 : FnX := fnx Try.f30 [] [(6, [(0, 0), (1, 0), (2, 0), (3, 0), (4, 0), (5, 0), (6, 0), (7, 0), (8, 0)])]
theorem x30_ok : FnOk Try.prog 30 x30 := .mk Try.func30 (by kernel_rfl) (by kernel_rfl) (by kernel_rfl)
noncomputable def x31 : FnX := fnx Try.f31 [] []
theorem x31_ok : FnOk Try.prog 31 x31 := .mk Try.func31 (by kernel_rfl) (by kernel_rfl) (by kernel_rfl)
noncomputable def x32 : FnX := fnx Try.f32 [] []
theorem x32_ok : FnOk Try.prog 32 x32 := .mk Try.func32 (by kernel_rfl) (by kernel_rfl) (by kernel_rfl)
noncomputable def x33 : FnX := fnx Try.f33 [] []
theorem x33_ok : FnOk Try.prog 33 x33 := .mk Try.func33 (by kernel_rfl) (by kernel_rfl) (by kernel_rfl)
noncomputable def x40 : FnX := fnx Try.f40 [] []
theorem x40_ok : FnOk Try.prog 40 x40 := .mk Try.func40 (by kernel_rfl) (by kernel_rfl) (by kernel_rfl)
noncomputable def x41 : FnX := fnx Try.f41 [] []
theorem x41_ok : FnOk Try.prog 41 x41 := .mk Try.func41 (by kernel_rfl) (by kernel_rfl) (by kernel_rfl)
noncomputable def x42 : FnX := fnx Try.f42 [] []
theorem x42_ok : FnOk Try.prog 42 x42 := .mk Try.func42 (by kernel_rfl) (by kernel_rfl) (by kernel_rfl)
noncomputable def x43 : FnX := fnx Try.f43 [2, 3] []
theorem x43_ok : FnOk Try.prog 43 x43 := .mk Try.func43 (by kernel_rfl) (by kernel_rfl) (by kernel_rfl)
noncomputable def x44 : FnX := fnx Try.f44 [] []
theorem x44_ok : FnOk Try.prog 44 x44 := .mk Try.func44 (by kernel_rfl) (by kernel_rfl) (by kernel_rfl)
noncomputable def x45 : FnX := fnx Try.f45 [2, 3] []
theorem x45_ok : FnOk Try.prog 45 x45 := .mk Try.func45 (by kernel_rfl) (by kernel_rfl) (by kernel_rfl)
noncomputable def x47 : FnX := fnx Try.f47 [1] []
theorem x47_ok : FnOk Try.prog 47 x47 := .mk Try.func47 (by kernel_rfl) (by kernel_rfl) (by kernel_rfl)
noncomputable def x50 : FnX := fnx Try.f50 [] []
theorem x50_ok : FnOk Try.prog 50 x50 := .mk Try.func50 (by kernel_rfl) (by kernel_rfl) (by kernel_rfl)
noncomputable def x51 : FnX := fnx Try.f51 [22] []
theorem x51_ok : FnOk Try.prog 51 x51 := .mk Try.func51 (by kernel_rfl) (by kernel_rfl) (by kernel_rfl)
noncomputable def x52 : FnX := fnx Try.f52 [] [(17, [(0, 0), (1, 0), (2, 0), (3, 0), (4, 0), (5, 0), (6, 0), (7, 0), (8, 0), (9, 0), (10, 0), (11, 0), (12, 0), (13, 1), (14, 0), (15, 0), (16, 0)])]
theorem x52_ok : FnOk Try.prog 52 x52 := .mk Try.func52 (by kernel_rfl) (by kernel_rfl) (by kernel_rfl)
noncomputable def x53 : FnX := fnx Try.f53 [] []
theorem x53_ok : FnOk Try.prog 53 x53 := .mk Try.func53 (by kernel_rfl) (by kernel_rfl) (by kernel_rfl)
noncomputable def x54 : FnX := fnx Try.f54 [] []
theorem x54_ok : FnOk Try.prog 54 x54 := .mk Try.func54 (by kernel_rfl) (by kernel_rfl) (by kernel_rfl)
noncomputable def x56 : FnX := fnx Try.f56 [] [(4, [(0, 0), (1, 0), (2, 0), (3, 0), (4, 0), (5, 0), (6, 0), (7, 0), (8, 0), (9, 0), (10, 0), (11, 0), (12, 0), (13, 0), (14, 1), (15, 0), (16, 0)]), (6, [(0, 0), (1, 0), (2, 0), (3, 0), (4, 0), (5, 0), (6, 0), (7, 0), (8, 0), (9, 0), (10, 0), (11, 0), (12, 0), (13, 0), (14, 0), (15, 1), (16, 0), (17, 1)])]
theorem x56_ok : FnOk Try.prog 56 x56 := .mk Try.func56 (by kernel_rfl) (by kernel_rfl) (by kernel_rfl)
noncomputable def x57 : FnX := fnx Try.f57 [] [(10, [(0, 0), (1, 0), (2, 0), (3, 0), (4, 0), (5, 0), (6, 0), (7, 0), (8, 0), (9, 0), (10, 0), (11, 0), (12, 0), (13, 0), (14, 0), (15, 0), (16, 0), (17, 1), (18, 0), (19, 1)])]
theorem x57_ok : FnOk Try.prog 57 x57 := .mk Try.func57 (by kernel_rfl) (by kernel_rfl) (by kernel_rfl)
noncomputable def x58 : FnX := fnx Try.f58 [] [(10, [(0, 0), (1, 0), (2, 0), (3, 0), (4, 0), (5, 0), (6, 0), (7, 0), (8, 0), (9, 0), (10, 0), (11, 0), (12, 0), (13, 0), (14, 0), (15, 0), (16, 0), (17, 1), (18, 0), (19, 1)])]
theorem x58_ok : FnOk Try.prog 58 x58 := .mk Try.func58 (by kernel_rfl) (by kernel_rfl) (by kernel_rfl)
noncomputable def x59 : FnX := fnx Try.f59 [] []
theorem x59_ok : FnOk Try.prog 59 x59 := .mk Try.func59 (by kernel_rfl) (by kernel_rfl) (by kernel_rfl)
noncomputable def x60 : FnX := fnx Try.f60 [] [(3, [(0, 0), (1, 0), (2, 0), (3, 0), (4, 0), (5, 0), (6, 0), (7, 0), (8, 0), (9, 0), (10, 0), (11, 0), (12, 0), (13, 1), (14, 0), (15, 1)])]
theorem x60_ok : FnOk Try.prog 60 x60 := .mk Try.func60 (by kernel_rfl) (by kernel_rfl) (by kernel_rfl)
noncomputable def x61 : FnX := fnx Try.f61 [] [(5, [(0, 0), (1, 0), (2, 0), (3, 0), (4, 0), (5, 0), (6, 0), (7, 0), (8, 0), (9, 0), (10, 0), (11, 0), (12, 0), (13, 0), (14, 1), (15, 0), (16, 0), (17, 0)]), (11, [(0, 0), (1, 0), (2, 0), (3, 0), (4, 0), (5, 0), (6, 0), (7, 0), (8, 0), (9, 0), (10, 0), (11, 0), (12, 0), (13, 0), (14, 0), (15, 1), (16, 0), (17, 1)]), (16, [(0, 0), (1, 0), (2, 0), (3, 0), (4, 0), (5, 0), (6, 0), (7, 0), (8, 0), (9, 0), (10, 1), (11, 0), (12, 0)]), (17, [(0, 0), (1, 0), (2, 0), (3, 0), (4, 0), (5, 0), (6, 0), (7, 0), (8, 0), (9, 0), (10, 0), (11, 0), (12, 0), (13, 0), (14, 0), (15, 1), (16, 0), (17, 1)]), (22, [(0, 0), (1, 0), (2, 0), (3, 0), (4, 0), (5, 0), (6, 0), (7, 0), (8, 0), (9, 0), (10, 1), (11, 0), (12, 0)]), (23, [(0, 0), (1, 0), (2, 0), (3, 0), (4, 0), (5, 0), (6, 0), (7, 0), (8, 0), (9, 0), (10, 0), (11, 0), (12, 0), (13, 0), (14, 0), (15, 1), (16, 0), (17, 1)])]
theorem x61_ok : FnOk Try.prog 61 x61 := .mk Try.func61 (by kernel_rfl) (by kernel_rfl) (by kernel_rfl)
noncomputable def x62 : FnX := fnx Try.f62 [] [(1, [(0, 0), (1, 0), (2, 0), (3, 0), (4, 0), (5, 0), (6, 0), (7, 0), (8, 0), (9, 0), (10, 0), (11, 0), (12, 0), (13, 1), (14, 0), (15, 1)]), (3, [(0, 0), (1, 0), (2, 0), (3, 0), (4, 0), (5, 0), (6, 0), (7, 0), (8, 0), (9, 0), (10, 0), (11, 0), (12, 0), (13, 1), (14, 0), (15, 0), (16, 0)]), (5, [(0, 0), (1, 0), (2, 0), (3, 0), (4, 0), (5, 0), (6, 0), (7, 0), (8, 0), (9, 0), (10, 0), (11, 0), (12, 0), (13, 1), (14, 0), (15, 0)]), (8, [(0, 0), (1, 0), (2, 0), (3, 0), (4, 0), (5, 0), (6, 0), (7, 0), (8, 0), (9, 0), (10, 0), (11, 0), (12, 0), (13, 1), (14, 0), (15, 1)])]
theorem x62_ok : FnOk Try.prog 62 x62 := .mk Try.func62 (by kernel_rfl) (by kernel_rfl) (by kernel_rfl)
noncomputable def x63 : FnX := fnx Try.f63 [] [(1, [(0, 0), (1, 0), (2, 0), (3, 0), (4, 0), (5, 0), (6, 0), (7, 0), (8, 0), (9, 0), (10, 0), (11, 0), (12, 0), (13, 1), (14, 0), (15, 1)]), (3, [(0, 0), (1, 0), (2, 0), (3, 0), (4, 0), (5, 0), (6, 0), (7, 0), (8, 0), (9, 0), (10, 0), (11, 0), (12, 0), (13, 1), (14, 0), (15, 0)]), (5, [(0, 0), (1, 0), (2, 0), (3, 0), (4, 0), (5, 0), (6, 0), (7, 0), (8, 0), (9, 0), (10, 0), (11, 0), (12, 0), (13, 1), (14, 0), (15, 0), (16, 0)]), (8, [(0, 0), (1, 0), (2, 0), (3, 0), (4, 0), (5, 0), (6, 0), (7, 0), (8, 0), (9, 0), (10, 0), (11, 0), (12, 0), (13, 1), (14, 0), (15, 1)]), (10, [(0, 0), (1, 0), (2, 0), (3, 0), (4, 0), (5, 0), (6, 0), (7, 0), (8, 0), (9, 0), (10, 0), (11, 0), (12, 0), (13, 1), (14, 0), (15, 1)]), (13, [(0, 0), (1, 0), (2, 0), (3, 0), (4, 0), (5, 0), (6, 0), (7, 0), (8, 0), (9, 0), (10, 0), (11, 0), (12, 0), (13, 1), (14, 0), (15, 0)]), (15, [(0, 0), (1, 0), (2, 0), (3, 0), (4, 0), (5, 0), (6, 0), (7, 0), (8, 0), (9, 0), (10, 0), (11, 0), (12, 0), (13, 1), (14, 0), (15, 0), (16, 0)]), (18, [(0, 0), (1, 0), (2, 0), (3, 0), (4, 0), (5, 0), (6, 0), (7, 0), (8, 0), (9, 0), (10, 0), (11, 0), (12, 0), (13, 1), (14, 0), (15, 1)]), (21, [(0, 0), (1, 0), (2, 0), (3, 0), (4, 0), (5, 0), (6, 0), (7, 0), (8, 0), (9, 0), (10, 0), (11, 0), (12, 0), (13, 1), (14, 0), (15, 1)])]
theorem x63_ok : FnOk Try.prog 63 x63 := .mk Try.func63 (by kernel_rfl) (by kernel_rfl) (by kernel_rfl)
noncomputable def x64 : FnX := fnx Try.f64 [] []
theorem x64_ok : FnOk Try.prog 64 x64 := .mk Try.func64 (by kernel_rfl) (by kernel_rfl) (by kernel_rfl)
noncomputable def x65 : FnX := fnx Try.f65 [] []
theorem x65_ok : FnOk Try.prog 65 x65 := .mk Try.func65 (by kernel_rfl) (by kernel_rfl) (by kernel_rfl)
noncomputable def x66 : FnX := fnx Try.f66 [] [(3, [(0, 0), (1, 0), (2, 0), (3, 0), (4, 0), (5, 0), (6, 0), (7, 0), (8, 0), (9, 0), (10, 0), (11, 0), (12, 0), (13, 0), (14, 0), (15, 0), (16, 0), (17, 0), (18, 0), (19, 1), (20, 0), (21, 0)]), (5, [(0, 0), (1, 0), (2, 0), (3, 0), (4, 0), (5, 0), (6, 0), (7, 0), (8, 0), (9, 0), (10, 0), (11, 0), (12, 0), (13, 1), (14, 0), (15, 0)]), (6, [(0, 0), (1, 0), (2, 0), (3, 0), (4, 0), (5, 0), (6, 0), (7, 0), (8, 0), (9, 0), (10, 0), (11, 0), (12, 0), (13, 0), (14, 0), (15, 0), (16, 0), (17, 0), (18, 0), (19, 0), (20, 0), (21, 1), (22, 0), (23, 1)])]
theorem x66_ok : FnOk Try.prog 66 x66 := .mk Try.func66 (by kernel_rfl) (by kernel_rfl) (by kernel_rfl)
noncomputable def x67 : FnX := fnx Try.f67 [] []
theorem x67_ok : FnOk Try.prog 67 x67 := .mk Try.func67 (by kernel_rfl) (by kernel_rfl) (by kernel_rfl)
noncomputable def x68 : FnX := fnx Try.f68 [] [(1, [(0, 0), (1, 0), (2, 0), (3, 0), (4, 0), (5, 0), (6, 0), (7, 0), (8, 0), (9, 1)]), (2, [(0, 0), (1, 0), (2, 0), (3, 0), (4, 0), (5, 0), (6, 0), (7, 0), (8, 0), (9, 1)]), (3, [(0, 0), (1, 0), (2, 0), (3, 0), (4, 0), (5, 0), (6, 0), (7, 0), (8, 0), (9, 1)])]
theorem x68_ok : FnOk Try.prog 68 x68 := .mk Try.func68 (by kernel_rfl) (by kernel_rfl) (by kernel_rfl)
noncomputable def x69 : FnX := fnx Try.f69 [] []
theorem x69_ok : FnOk Try.prog 69 x69 := .mk Try.func69 (by kernel_rfl) (by kernel_rfl) (by kernel_rfl)
noncomputable def x70 : FnX := fnx Try.f70 [] []
theorem x70_ok : FnOk Try.prog 70 x70 := .mk Try.func70 (by kernel_rfl) (by kernel_rfl) (by kernel_rfl)
noncomputable def x71 : FnX := fnx Try.f71 [] [(1, [(0, 0), (1, 0), (2, 0), (3, 0), (4, 0), (5, 0), (6, 0), (7, 0), (8, 0), (9, 1), (10, 0)])]
theorem x71_ok : FnOk Try.prog 71 x71 := .mk Try.func71 (by kernel_rfl) (by kernel_rfl) (by kernel_rfl)
noncomputable def fns : List (Nat × FnX) := [(8, x8), (10, x10), (11, x11), (12, x12), (14, x14), (15, x15), (17, x17), (22, x22), (24, x24), (28, x28), (29, x29), (30, x30), (31, x31), (32, x32), (33, x33), (40, x40), (41, x41), (42, x42), (43, x43), (44, x44), (45, x45), (47, x47), (50, x50), (51, x51), (52, x52), (53, x53), (54, x54), (56, x56), (57, x57), (58, x58), (59, x59), (60, x60), (61, x61), (62, x62), (63, x63), (64, x64), (65, x65), (66, x66), (67, x67), (68, x68), (69, x69), (70, x70), (71, x71)]
noncomputable def T : Tabs := tabsOf Try.prog fns
theorem T_ok : T.Ok Try.prog := tabsOf_ok (by
  simp only [fns, List.forall_mem_cons]
  exact ⟨x8_ok, x10_ok, x11_ok, x12_ok, x14_ok, x15_ok, x17_ok, x22_ok, x24_ok, x28_ok, x29_ok, x30_ok, x31_ok, x32_ok, x33_ok, x40_ok, x41_ok, x42_ok, x43_ok, x44_ok, x45_ok, x47_ok, x50_ok, x51_ok, x52_ok, x53_ok, x54_ok, x56_ok, x57_ok, x58_ok, x59_ok, x60_ok, x61_ok, x62_ok, x63_ok, x64_ok, x65_ok, x66_ok, x67_ok, x68_ok, x69_ok, x70_ok, x71_ok, by simp⟩)
theorem mix : Try.prog.follows .mixedOrders = true := by kernel_rfl
end Gv.Try
