import Derived.Test.YtcjiabpfahmjnaaGvTab
import Derived.Test.YtcjiabpfahmjnaaProg
import Derived.KernelRfl
set_option maxRecDepth 100000
set_option linter.unusedVariables false
namespace Gv.Try
open Go Gv Go.Proofs
noncomputable def x9 : FnX := fnx Try.f9 [] []
theorem x9_ok : FnOk Try.prog 9 x9 := .mk Try.func9 (by kernel_rfl) (by kernel_rfl) (by kernel_rfl)
noncomputable def x12 : FnX := fnx Try.f12 [1] [(3, [(0, 0), (1, 0), (3, 0), (4, 0), (2, 2), (5, 1), (6, 1), (7, 0)])]
theorem x12_ok : FnOk Try.prog 12 x12 := .mk Try.func12 (by kernel_rfl) (by kernel_rfl) (by kernel_rfl)
noncomputable def x15 : FnX := fnx Try.f15 [] []
theorem x15_ok : FnOk Try.prog 15 x15 := .mk Try.func15 (by kernel_rfl) (by kernel_rfl) (by kernel_rfl)
noncomputable def x17 : FnX := fnx Try.f17 [] [(6, [(0, 0), (1, 0), (2, 0), (3, 0), (4, 0), (5, 0), (6, 0), (7, 0), (8, 0)])]
theorem x17_ok : FnOk Try.prog 17 x17 := .mk Try.func17 (by kernel_rfl) (by kernel_rfl) (by kernel_rfl)
noncomputable def x27 : FnX := fnx Try.f27 [] []
theorem x27_ok : FnOk Try.prog 27 x27 := .mk Try.func27 (by kernel_rfl) (by kernel_rfl) (by kernel_rfl)
noncomputable def x33 : FnX := fnx Try.f33 [] [(2, [(0, 0), (1, 0), (2, 0), (3, 0), (4, 0), (5, 0), (6, 0), (7, 0), (8, 0), (9, 0), (10, 0), (11, 0), (12, 0)])]
theorem x33_ok : FnOk Try.prog 33 x33 := .mk Try.func33 (by kernel_rfl) (by kernel_rfl) (by kernel_rfl)
noncomputable def x34 : FnX := fnx Try.f34 [1] []
theorem x34_ok : FnOk Try.prog 34 x34 := .mk Try.func34 (by kernel_rfl) (by kernel_rfl) (by kernel_rfl)
noncomputable def x35 : FnX := fnx Try.f35 [] []
theorem x35_ok : FnOk Try.prog 35 x35 := .mk Try.func35 (by kernel_rfl) (by kernel_rfl) (by kernel_rfl)
noncomputable def x41 : FnX := fnx Try.f41 [78] []
theorem x41_ok : FnOk Try.prog 41 x41 := .mk Try.func41 (by kernel_rfl) (by kernel_rfl) (by kernel_rfl)
noncomputable def x47 : FnX := fnx Try.f47 [] []
theorem x47_ok : FnOk Try.prog 47 x47 := .mk Try.func47 (by kernel_rfl) (by kernel_rfl) (by kernel_rfl)
noncomputable def x49 : FnX := fnx Try.f49 [5] []
theorem x49_ok : FnOk Try.prog 49 x49 := .mk Try.func49 (by kernel_rfl) (by kernel_rfl) (by kernel_rfl)
noncomputable def x50 : FnX := fnx Try.f50 [] []
theorem x50_ok : FnOk Try.prog 50 x50 := .mk Try.func50 (by kernel_rfl) (by kernel_rfl) (by kernel_rfl)
noncomputable def x51 : FnX := fnx Try.f51 [2, 3] []
theorem x51_ok : FnOk Try.prog 51 x51 := .mk Try.func51 (by kernel_rfl) (by kernel_rfl) (by kernel_rfl)
noncomputable def x55 : FnX := fnx Try.f55 [] []
theorem x55_ok : FnOk Try.prog 55 x55 := .mk Try.func55 (by kernel_rfl) (by kernel_rfl) (by kernel_rfl)
noncomputable def x56 : FnX := fnx Try.f56 [] [(1, [(0, 0), (1, 0), (2, 0), (3, 0), (4, 0), (5, 0), (6, 0), (7, 0)])]
theorem x56_ok : FnOk Try.prog 56 x56 := .mk Try.func56 (by kernel_rfl) (by kernel_rfl) (by kernel_rfl)
noncomputable def x57 : FnX := fnx Try.f57 [4] []
theorem x57_ok : FnOk Try.prog 57 x57 := .mk Try.func57 (by kernel_rfl) (by kernel_rfl) (by kernel_rfl)
noncomputable def x58 : FnX := fnx Try.f58 [] []
theorem x58_ok : FnOk Try.prog 58 x58 := .mk Try.func58 (by kernel_rfl) (by kernel_rfl) (by kernel_rfl)
noncomputable def x61 : FnX := fnx Try.f61 [] []
theorem x61_ok : FnOk Try.prog 61 x61 := .mk Try.func61 (by kernel_rfl) (by kernel_rfl) (by kernel_rfl)
noncomputable def x63 : FnX := fnx Try.f63 [] [(6, [(0, 0), (1, 0), (2, 0), (3, 0), (4, 0), (5, 0), (6, 0), (7, 0), (8, 0)])]
theorem x63_ok : FnOk Try.prog 63 x63 := .mk Try.func63 (by kernel_rfl) (by kernel_rfl) (by kernel_rfl)
noncomputable def x65 : FnX := fnx Try.f65 [2] []
theorem x65_ok : FnOk Try.prog 65 x65 := .mk Try.func65 (by kernel_rfl) (by kernel_rfl) (by kernel_rfl)
noncomputable def fns : List (Nat × FnX) := [(9, x9), (12, x12), (15, x15), (17, x17), (27, x27), (33, x33), (34, x34), (35, x35), (41, x41), (47, x47), (49, x49), (50, x50), (51, x51), (55, x55), (56, x56), (57, x57), (58, x58), (61, x61), (63, x63), (65, x65)]
noncomputable def T : Tabs := tabsOf Try.prog fns
theorem T_ok : T.Ok Try.prog := tabsOf_ok (by
  simp only [fns, List.forall_mem_cons]
  exact ⟨x9_ok, x12_ok, x15_ok, x17_ok, x27_ok, x33_ok, x34_ok, x35_ok, x41_ok, x47_ok, x49_ok, x50_ok, x51_ok, x55_ok, x56_ok, x57_ok, x58_ok, x61_ok, x63_ok, x65_ok, by simp⟩)
theorem mix : Try.prog.follows .mixedOrders = true := by kernel_rfl
end Gv.Try
