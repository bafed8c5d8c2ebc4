import Derived.Test.YthidcccnjplafaaGreatP5
import Derived.Test.YthidcccnjplafaaGreatProg
import Derived.KernelRfl
set_option maxRecDepth 100000
namespace Gv.Tryz
open Go Gv Go.Proofs
theorem aggT59 : aggT Tryz.prog 59 = (some [(.int), (.int)]) := by kernel_rfl
theorem els102 : els Tryz.prog 102 = (some (1, false)) := by kernel_rfl
theorem els22 : els Tryz.prog 22 = (some (1, false)) := by kernel_rfl
theorem els25 : els Tryz.prog 25 = (some (1, false)) := by kernel_rfl
theorem els36 : els Tryz.prog 36 = (some (5, true)) := by kernel_rfl
theorem els39 : els Tryz.prog 39 = (some (2, true)) := by kernel_rfl
theorem els61 : els Tryz.prog 61 = (some (1, false)) := by kernel_rfl
theorem elt102 : elt Tryz.prog 102 = (some (1, (24, [(.slice [] (.nil))]))) := by kernel_rfl
theorem elt22 : elt Tryz.prog 22 = (some (1, (8, [(.int (.i64) 0)]))) := by kernel_rfl
theorem elt25 : elt Tryz.prog 25 = (some (1, (24, [(.slice [] (.nil))]))) := by kernel_rfl
theorem elt36 : elt Tryz.prog 36 = (some (5, (48, [(.int (.i64) 0), (.int (.i64) 0), (.slice [] (.nil)), (.bool false), (.bool false)]))) := by kernel_rfl
theorem elt39 : elt Tryz.prog 39 = (some (2, (16, [(.int (.i64) 0), (.int (.i64) 0)]))) := by kernel_rfl
theorem elt61 : elt Tryz.prog 61 = (some (1, (24, [(.slice [] (.nil))]))) := by kernel_rfl
theorem fld24_0 : fld Tryz.prog 24 0 = (some (0, (1, false))) := by kernel_rfl
theorem fld24_1 : fld Tryz.prog 24 1 = (some (1, (1, false))) := by kernel_rfl
theorem fld27_0 : fld Tryz.prog 27 0 = (some (0, (1, false))) := by kernel_rfl
theorem fld27_1 : fld Tryz.prog 27 1 = (some (1, (1, false))) := by kernel_rfl
theorem fld33_0 : fld Tryz.prog 33 0 = (some (0, (1, false))) := by kernel_rfl
theorem fld33_1 : fld Tryz.prog 33 1 = (some (1, (1, false))) := by kernel_rfl
theorem fld55_0 : fld Tryz.prog 55 0 = (some (0, (1, false))) := by kernel_rfl
theorem fld55_1 : fld Tryz.prog 55 1 = (some (1, (1, false))) := by kernel_rfl
theorem fld55_2 : fld Tryz.prog 55 2 = (some (2, (1, false))) := by kernel_rfl
theorem fld55_3 : fld Tryz.prog 55 3 = (some (3, (1, false))) := by kernel_rfl
theorem fld55_4 : fld Tryz.prog 55 4 = (some (4, (1, false))) := by kernel_rfl
theorem fld59_0 : fld Tryz.prog 59 0 = (some (0, (1, false))) := by kernel_rfl
theorem fld59_1 : fld Tryz.prog 59 1 = (some (1, (1, false))) := by kernel_rfl
theorem fld63_0 : fld Tryz.prog 63 0 = (some (0, (1, false))) := by kernel_rfl
theorem fld63_1 : fld Tryz.prog 63 1 = (some (1, (1, false))) := by kernel_rfl
theorem fld63_2 : fld Tryz.prog 63 2 = (some (2, (1, false))) := by kernel_rfl
theorem keyT92 : keyT Tryz.prog 92 = (some ((.mk [(.int)] false), 4)) := by kernel_rfl
theorem notInt102 : notInt Tryz.prog 102 = true := by kernel_rfl
theorem notInt115 : notInt Tryz.prog 115 = false := by kernel_rfl
theorem notInt117 : notInt Tryz.prog 117 = false := by kernel_rfl
theorem notInt119 : notInt Tryz.prog 119 = false := by kernel_rfl
theorem notInt120 : notInt Tryz.prog 120 = false := by kernel_rfl
theorem notInt124 : notInt Tryz.prog 124 = false := by kernel_rfl
theorem notInt22 : notInt Tryz.prog 22 = true := by kernel_rfl
theorem notInt24 : notInt Tryz.prog 24 = false := by kernel_rfl
theorem notInt25 : notInt Tryz.prog 25 = true := by kernel_rfl
theorem notInt27 : notInt Tryz.prog 27 = false := by kernel_rfl
theorem notInt3 : notInt Tryz.prog 3 = false := by kernel_rfl
theorem notInt30 : notInt Tryz.prog 30 = false := by kernel_rfl
theorem notInt33 : notInt Tryz.prog 33 = false := by kernel_rfl
theorem notInt36 : notInt Tryz.prog 36 = true := by kernel_rfl
theorem notInt39 : notInt Tryz.prog 39 = true := by kernel_rfl
theorem notInt55 : notInt Tryz.prog 55 = false := by kernel_rfl
theorem notInt59 : notInt Tryz.prog 59 = false := by kernel_rfl
theorem notInt61 : notInt Tryz.prog 61 = true := by kernel_rfl
theorem notInt80 : notInt Tryz.prog 80 = false := by kernel_rfl
theorem notInt82 : notInt Tryz.prog 82 = false := by kernel_rfl
theorem notInt84 : notInt Tryz.prog 84 = false := by kernel_rfl
theorem notInt87 : notInt Tryz.prog 87 = false := by kernel_rfl
theorem notInt92 : notInt Tryz.prog 92 = false := by kernel_rfl
theorem notInt99 : notInt Tryz.prog 99 = false := by kernel_rfl
theorem plc33 : plc Tryz.prog 33 = (some (.inl [(0, 1), (1, 1)])) := by kernel_rfl
theorem plc55 : plc Tryz.prog 55 = (some (.inl [(0, 1), (1, 1), (2, 1), (3, 1), (4, 1)])) := by kernel_rfl
theorem plc59 : plc Tryz.prog 59 = (some (.inl [(0, 1), (1, 1)])) := by kernel_rfl
theorem plc63 : plc Tryz.prog 63 = (some (.inl [(0, 1), (1, 1), (2, 1)])) := by kernel_rfl
theorem tab120 : tab Tryz.prog 120 = (some (1, false)) := by kernel_rfl
theorem tab22 : tab Tryz.prog 22 = (some (1, false)) := by kernel_rfl
theorem tab24 : tab Tryz.prog 24 = (some (2, true)) := by kernel_rfl
theorem tab25 : tab Tryz.prog 25 = (some (1, false)) := by kernel_rfl
theorem tab27 : tab Tryz.prog 27 = (some (2, true)) := by kernel_rfl
theorem tab3 : tab Tryz.prog 3 = (some (1, false)) := by kernel_rfl
theorem tab33 : tab Tryz.prog 33 = (some (2, true)) := by kernel_rfl
theorem tab36 : tab Tryz.prog 36 = (some (1, false)) := by kernel_rfl
theorem tab39 : tab Tryz.prog 39 = (some (1, false)) := by kernel_rfl
theorem tab4 : tab Tryz.prog 4 = (some (1, false)) := by kernel_rfl
theorem tab55 : tab Tryz.prog 55 = (some (5, true)) := by kernel_rfl
theorem tab59 : tab Tryz.prog 59 = (some (2, true)) := by kernel_rfl
theorem tab61 : tab Tryz.prog 61 = (some (1, false)) := by kernel_rfl
theorem und102 : Go.Program.underlying Tryz.prog 102 = (some (.slice 39)) := by kernel_rfl
theorem und108 : Go.Program.underlying Tryz.prog 108 = (some (.int (.i64))) := by kernel_rfl
theorem und115 : Go.Program.underlying Tryz.prog 115 = (some (.int (.u32))) := by kernel_rfl
theorem und117 : Go.Program.underlying Tryz.prog 117 = (some (.int (.u64))) := by kernel_rfl
theorem und119 : Go.Program.underlying Tryz.prog 119 = (some (.func #[55] #[4] false)) := by kernel_rfl
theorem und120 : Go.Program.underlying Tryz.prog 120 = (some (.int (.u64))) := by kernel_rfl
theorem und124 : Go.Program.underlying Tryz.prog 124 = (some (.pointer 3)) := by kernel_rfl
theorem und22 : Go.Program.underlying Tryz.prog 22 = (some (.slice 3)) := by kernel_rfl
theorem und25 : Go.Program.underlying Tryz.prog 25 = (some (.slice 22)) := by kernel_rfl
theorem und3 : Go.Program.underlying Tryz.prog 3 = (some (.int (.i64))) := by kernel_rfl
theorem und30 : Go.Program.underlying Tryz.prog 30 = (some (.pointer 63)) := by kernel_rfl
theorem und36 : Go.Program.underlying Tryz.prog 36 = (some (.slice 55)) := by kernel_rfl
theorem und39 : Go.Program.underlying Tryz.prog 39 = (some (.slice 59)) := by kernel_rfl
theorem und4 : Go.Program.underlying Tryz.prog 4 = (some (.bool)) := by kernel_rfl
theorem und5 : Go.Program.underlying Tryz.prog 5 = (some (.int (.u8))) := by kernel_rfl
theorem und61 : Go.Program.underlying Tryz.prog 61 = (some (.slice 36)) := by kernel_rfl
theorem und80 : Go.Program.underlying Tryz.prog 80 = (some (.func #[55, 55] #[4] false)) := by kernel_rfl
theorem und82 : Go.Program.underlying Tryz.prog 82 = (some (.func #[59] #[4] false)) := by kernel_rfl
theorem und84 : Go.Program.underlying Tryz.prog 84 = (some (.func #[59, 59] #[3] false)) := by kernel_rfl
theorem und87 : Go.Program.underlying Tryz.prog 87 = (some (.func #[3] #[4] false)) := by kernel_rfl
theorem und9 : Go.Program.underlying Tryz.prog 9 = (some (.string)) := by kernel_rfl
theorem und92 : Go.Program.underlying Tryz.prog 92 = (some (.map 3 4)) := by kernel_rfl
theorem und99 : Go.Program.underlying Tryz.prog 99 = (some (.int (.u64))) := by kernel_rfl
theorem zer120 : zer Tryz.prog 120 = (some [(.int (.u64) 0)]) := by kernel_rfl
theorem zer27 : zer Tryz.prog 27 = (some [(.slice [] (.nil)), (.slice [] (.nil))]) := by kernel_rfl
theorem zer3 : zer Tryz.prog 3 = (some [(.int (.i64) 0)]) := by kernel_rfl
theorem zer33 : zer Tryz.prog 33 = (some [(.slice [] (.nil)), (.slice [] (.nil))]) := by kernel_rfl
theorem zer55 : zer Tryz.prog 55 = (some [(.int (.i64) 0), (.int (.i64) 0), (.slice [] (.nil)), (.bool false), (.bool false)]) := by kernel_rfl
theorem zer59 : zer Tryz.prog 59 = (some [(.int (.i64) 0), (.int (.i64) 0)]) := by kernel_rfl
theorem zer63 : zer Tryz.prog 63 = (some [(.slice [] (.nil)), (.slice [] (.nil)), (.int (.i64) 0)]) := by kernel_rfl
theorem zeroG4 : zeroG Tryz.prog 4 = (some (.bool false)) := by kernel_rfl
set_option linter.defProp false in
def fbFz := And.intro aggT59 <| And.intro els102 <| And.intro els22 <| And.intro els25 <| And.intro els36 <| And.intro els39 <| And.intro els61 <| And.intro elt102 <| And.intro elt22 <| And.intro elt25 <| And.intro elt36 <| And.intro elt39 <| And.intro elt61 <| And.intro fld24_0 <| And.intro fld24_1 <| And.intro fld27_0 <| And.intro fld27_1 <| And.intro fld33_0 <| And.intro fld33_1 <| And.intro fld55_0 <| And.intro fld55_1 <| And.intro fld55_2 <| And.intro fld55_3 <| And.intro fld55_4 <| And.intro fld59_0 <| And.intro fld59_1 <| And.intro fld63_0 <| And.intro fld63_1 <| And.intro fld63_2 <| And.intro keyT92 <| And.intro notInt102 <| And.intro notInt115 <| And.intro notInt117 <| And.intro notInt119 <| And.intro notInt120 <| And.intro notInt124 <| And.intro notInt22 <| And.intro notInt24 <| And.intro notInt25 <| And.intro notInt27 <| And.intro notInt3 <| And.intro notInt30 <| And.intro notInt33 <| And.intro notInt36 <| And.intro notInt39 <| And.intro notInt55 <| And.intro notInt59 <| And.intro notInt61 <| And.intro notInt80 <| And.intro notInt82 <| And.intro notInt84 <| And.intro notInt87 <| And.intro notInt92 <| And.intro notInt99 <| And.intro plc33 <| And.intro plc55 <| And.intro plc59 <| And.intro plc63 <| And.intro tab120 <| And.intro tab22 <| And.intro tab24 <| And.intro tab25 <| And.intro tab27 <| And.intro tab3 <| And.intro tab33 <| And.intro tab36 <| And.intro tab39 <| And.intro tab4 <| And.intro tab55 <| And.intro tab59 <| And.intro tab61 <| And.intro und102 <| And.intro und108 <| And.intro und115 <| And.intro und117 <| And.intro und119 <| And.intro und120 <| And.intro und124 <| And.intro und22 <| And.intro und25 <| And.intro und3 <| And.intro und30 <| And.intro und36 <| And.intro und39 <| And.intro und4 <| And.intro und5 <| And.intro und61 <| And.intro und80 <| And.intro und82 <| And.intro und84 <| And.intro und87 <| And.intro und9 <| And.intro und92 <| And.intro und99 <| And.intro zer120 <| And.intro zer27 <| And.intro zer3 <| And.intro zer33 <| And.intro zer55 <| And.intro zer59 <| And.intro zer63 <| zeroG4
end Gv.Tryz

/- What all texts of contracts need. -/
set_option linter.unusedVariables false
namespace Gv.Tryz
open Go Gv Go.Proofs
theorem mixS : Tryz.prog.follows .mixedOrders = true := by kernel_rfl
theorem toNat_pred (n : Nat) : ((n : Int) - 1).toNat = n - 1 := by omega
theorem tmod_pick (n m : Int) (hm : 0 < m) : (n.tmod m < 0 → n.tmod m + m = n % m) ∧ (0 ≤ n.tmod m → n.tmod m = n % m) := by
  have h := Int.tmod_eq_emod (a := n) (b := m)
  have h1 := Int.emod_nonneg n (by omega : m ≠ 0)
  have h2 := Int.emod_lt_of_pos n hm
  split at h <;> rename_i h3
  · simp at h; omega
  · have : m ∣ n ↔ n % m = 0 := Int.dvd_iff_emod_eq_zero
    have : n % m ≠ 0 := fun e => h3 (.inr (this.2 e))
    omega
end Gv.Tryz
