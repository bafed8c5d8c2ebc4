import Derived.Test.YtcjiabpfahmjnaaGvTab
import Derived.Test.YtcjiabpfahmjnaaProg
import Derived.KernelRfl
set_option maxRecDepth 100000
set_option linter.unusedVariables false
namespace Gv.Try
open Go Gv Go.Proofs
noncomputable def x5 : FnX := fnx Try.f5 [] []
theorem x5_ok : FnOk Try.prog 5 x5 := .mk Try.func5 (by kernel_rfl) (by kernel_rfl) (by kernel_rfl)
noncomputable def x17 : FnX := fnx Try.f17 [] [(6, [(0, 0), (1, 0), (2, 0), (3, 0), (4, 0), (5, 0), (6, 0), (7, 0), (8, 0)])]
theorem x17_ok : FnOk Try.prog 17 x17 := .mk Try.func17 (by kernel_rfl) (by kernel_rfl) (by kernel_rfl)
noncomputable def x19 : FnX := fnx Try.f19 [] []
theorem x19_ok : FnOk Try.prog 19 x19 := .mk Try.func19 (by kernel_rfl) (by kernel_rfl) (by kernel_rfl)
noncomputable def x20 : FnX := fnx Try.f20 [] []
theorem x20_ok : FnOk Try.prog 20 x20 := .mk Try.func20 (by kernel_rfl) (by kernel_rfl) (by kernel_rfl)
noncomputable def x21 : FnX := fnx Try.f21 [] []
theorem x21_ok : FnOk Try.prog 21 x21 := .mk Try.func21 (by kernel_rfl) (by kernel_rfl) (by kernel_rfl)
noncomputable def x22 : FnX := fnx Try.f22 [] []
theorem x22_ok : FnOk Try.prog 22 x22 := .mk Try.func22 (by kernel_rfl) (by kernel_rfl) (by kernel_rfl)
noncomputable def x23 : FnX := fnx Try.f23 [] []
theorem x23_ok : FnOk Try.prog 23 x23 := .mk Try.func23 (by kernel_rfl) (by kernel_rfl) (by kernel_rfl)
noncomputable def x42 : FnX := fnx Try.f42 [] [(2, [(0, 0), (1, 0), (2, 0), (3, 0), (4, 0), (5, 0), (6, 0), (7, 0), (8, 0), (9, 0), (10, 0), (11, 0), (12, 0), (13, 0), (14, 0), (15, 0), (16, 0), (17, 0), (18, 0), (19, 0)])]
theorem x42_ok : FnOk Try.prog 42 x42 := .mk Try.func42 (by kernel_rfl) (by kernel_rfl) (by kernel_rfl)
noncomputable def x43 : FnX := fnx Try.f43 [] [(2, [(0, 0), (1, 0), (2, 0), (3, 0), (4, 0), (5, 0), (6, 0), (7, 0), (8, 0), (9, 2), (10, 1)])]
theorem x43_ok : FnOk Try.prog 43 x43 := .mk Try.func43 (by kernel_rfl) (by kernel_rfl) (by kernel_rfl)
noncomputable def x44 : FnX := fnx Try.f44 [] []
theorem x44_ok : FnOk Try.prog 44 x44 := .mk Try.func44 (by kernel_rfl) (by kernel_rfl) (by kernel_rfl)
noncomputable def x45 : FnX := fnx Try.f45 [] []
theorem x45_ok : FnOk Try.prog 45 x45 := .mk Try.func45 (by kernel_rfl) (by kernel_rfl) (by kernel_rfl)
noncomputable def x46 : FnX := fnx Try.f46 [2] []
theorem x46_ok : FnOk Try.prog 46 x46 := .mk Try.func46 (by kernel_rfl) (by kernel_rfl) (by kernel_rfl)
noncomputable def x47 : FnX := fnx Try.f47 [] []
theorem x47_ok : FnOk Try.prog 47 x47 := .mk Try.func47 (by kernel_rfl) (by kernel_rfl) (by kernel_rfl)
noncomputable def x58 : FnX := fnx Try.f58 [] []
theorem x58_ok : FnOk Try.prog 58 x58 := .mk Try.func58 (by kernel_rfl) (by kernel_rfl) (by kernel_rfl)
noncomputable def x59 : FnX := fnx Try.f59 [7] []
theorem x59_ok : FnOk Try.prog 59 x59 := .mk Try.func59 (by kernel_rfl) (by kernel_rfl) (by kernel_rfl)
noncomputable def x60 : FnX := fnx Try.f60 [] []
theorem x60_ok : FnOk Try.prog 60 x60 := .mk Try.func60 (by kernel_rfl) (by kernel_rfl) (by kernel_rfl)
noncomputable def x61 : FnX := fnx Try.f61 [] []
theorem x61_ok : FnOk Try.prog 61 x61 := .mk Try.func61 (by kernel_rfl) (by kernel_rfl) (by kernel_rfl)
noncomputable def fns : List (Nat × FnX) := [(5, x5), (17, x17), (19, x19), (20, x20), (21, x21), (22, x22), (23, x23), (42, x42), (43, x43), (44, x44), (45, x45), (46, x46), (47, x47), (58, x58), (59, x59), (60, x60), (61, x61)]
noncomputable def T : Tabs := tabsOf Try.prog fns
theorem T_ok : T.Ok Try.prog := tabsOf_ok (by
  simp only [fns, List.forall_mem_cons]
  exact ⟨x5_ok, x17_ok, x19_ok, x20_ok, x21_ok, x22_ok, x23_ok, x42_ok, x43_ok, x44_ok, x45_ok, x46_ok, x47_ok, x58_ok, x59_ok, x60_ok, x61_ok, by simp⟩)
theorem mix : Try.prog.follows .mixedOrders = true := by kernel_rfl
end Gv.Try
namespace Gv.Try
open Go Gv
set_option maxRecDepth 1000000
theorem k22 : comes T 400 22 [] = some (.bool true) := by kernel_rfl
end Gv.Try
