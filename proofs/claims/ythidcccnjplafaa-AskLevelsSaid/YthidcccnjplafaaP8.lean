import Derived.Test.YthidcccnjplafaaP7
import Derived.Test.YthidcccnjplafaaProg
import Derived.KernelRfl
set_option maxRecDepth 100000
namespace Gv.Try
open Go Gv Go.Proofs
theorem aggT33 : aggT Try.prog 33 = (some [(.int), (.int)]) := by kernel_rfl
theorem els101 : els Try.prog 101 = (some (1, false)) := by kernel_rfl
theorem els25 : els Try.prog 25 = (some (1, false)) := by kernel_rfl
theorem els30 : els Try.prog 30 = (some (2, true)) := by kernel_rfl
theorem els36 : els Try.prog 36 = (some (1, false)) := by kernel_rfl
theorem els43 : els Try.prog 43 = (some (1, false)) := by kernel_rfl
theorem els46 : els Try.prog 46 = (some (5, true)) := by kernel_rfl
theorem elt101 : elt Try.prog 101 = (some (1, (24, [(.slice [] (.nil))]))) := by kernel_rfl
theorem elt25 : elt Try.prog 25 = (some (1, (24, [(.slice [] (.nil))]))) := by kernel_rfl
theorem elt30 : elt Try.prog 30 = (some (2, (16, [(.int (.i64) 0), (.int (.i64) 0)]))) := by kernel_rfl
theorem elt36 : elt Try.prog 36 = (some (1, (8, [(.int (.i64) 0)]))) := by kernel_rfl
theorem elt43 : elt Try.prog 43 = (some (1, (24, [(.slice [] (.nil))]))) := by kernel_rfl
theorem elt46 : elt Try.prog 46 = (some (5, (48, [(.int (.i64) 0), (.int (.i64) 0), (.slice [] (.nil)), (.bool false), (.bool false)]))) := by kernel_rfl
theorem fld27_0 : fld Try.prog 27 0 = (some (0, (1, false))) := by kernel_rfl
theorem fld27_1 : fld Try.prog 27 1 = (some (1, (1, false))) := by kernel_rfl
theorem fld33_0 : fld Try.prog 33 0 = (some (0, (1, false))) := by kernel_rfl
theorem fld33_1 : fld Try.prog 33 1 = (some (1, (1, false))) := by kernel_rfl
theorem fld38_0 : fld Try.prog 38 0 = (some (0, (1, false))) := by kernel_rfl
theorem fld38_1 : fld Try.prog 38 1 = (some (1, (1, false))) := by kernel_rfl
theorem fld40_0 : fld Try.prog 40 0 = (some (0, (1, false))) := by kernel_rfl
theorem fld40_1 : fld Try.prog 40 1 = (some (1, (1, false))) := by kernel_rfl
theorem fld58_0 : fld Try.prog 58 0 = (some (0, (1, false))) := by kernel_rfl
theorem fld58_1 : fld Try.prog 58 1 = (some (1, (1, false))) := by kernel_rfl
theorem fld58_2 : fld Try.prog 58 2 = (some (2, (1, false))) := by kernel_rfl
theorem fld58_3 : fld Try.prog 58 3 = (some (3, (1, false))) := by kernel_rfl
theorem fld58_4 : fld Try.prog 58 4 = (some (4, (1, false))) := by kernel_rfl
theorem fld64_0 : fld Try.prog 64 0 = (some (0, (1, false))) := by kernel_rfl
theorem fld64_1 : fld Try.prog 64 1 = (some (1, (1, false))) := by kernel_rfl
theorem fld64_2 : fld Try.prog 64 2 = (some (2, (1, false))) := by kernel_rfl
theorem keyT98 : keyT Try.prog 98 = (some ((.mk [(.int)] false), 4)) := by kernel_rfl
theorem notInt101 : notInt Try.prog 101 = true := by kernel_rfl
theorem notInt106 : notInt Try.prog 106 = false := by kernel_rfl
theorem notInt118 : notInt Try.prog 118 = false := by kernel_rfl
theorem notInt120 : notInt Try.prog 120 = false := by kernel_rfl
theorem notInt122 : notInt Try.prog 122 = false := by kernel_rfl
theorem notInt123 : notInt Try.prog 123 = false := by kernel_rfl
theorem notInt127 : notInt Try.prog 127 = false := by kernel_rfl
theorem notInt23 : notInt Try.prog 23 = false := by kernel_rfl
theorem notInt25 : notInt Try.prog 25 = true := by kernel_rfl
theorem notInt27 : notInt Try.prog 27 = false := by kernel_rfl
theorem notInt3 : notInt Try.prog 3 = false := by kernel_rfl
theorem notInt30 : notInt Try.prog 30 = true := by kernel_rfl
theorem notInt33 : notInt Try.prog 33 = false := by kernel_rfl
theorem notInt36 : notInt Try.prog 36 = true := by kernel_rfl
theorem notInt38 : notInt Try.prog 38 = false := by kernel_rfl
theorem notInt40 : notInt Try.prog 40 = false := by kernel_rfl
theorem notInt43 : notInt Try.prog 43 = true := by kernel_rfl
theorem notInt46 : notInt Try.prog 46 = true := by kernel_rfl
theorem notInt58 : notInt Try.prog 58 = false := by kernel_rfl
theorem notInt72 : notInt Try.prog 72 = false := by kernel_rfl
theorem notInt89 : notInt Try.prog 89 = false := by kernel_rfl
theorem notInt91 : notInt Try.prog 91 = false := by kernel_rfl
theorem notInt93 : notInt Try.prog 93 = false := by kernel_rfl
theorem notInt98 : notInt Try.prog 98 = false := by kernel_rfl
theorem plc27 : plc Try.prog 27 = (some (.inl [(0, 1), (1, 1)])) := by kernel_rfl
theorem plc33 : plc Try.prog 33 = (some (.inl [(0, 1), (1, 1)])) := by kernel_rfl
theorem plc58 : plc Try.prog 58 = (some (.inl [(0, 1), (1, 1), (2, 1), (3, 1), (4, 1)])) := by kernel_rfl
theorem plc64 : plc Try.prog 64 = (some (.inl [(0, 1), (1, 1), (2, 1)])) := by kernel_rfl
theorem tab123 : tab Try.prog 123 = (some (1, false)) := by kernel_rfl
theorem tab25 : tab Try.prog 25 = (some (1, false)) := by kernel_rfl
theorem tab27 : tab Try.prog 27 = (some (2, true)) := by kernel_rfl
theorem tab3 : tab Try.prog 3 = (some (1, false)) := by kernel_rfl
theorem tab30 : tab Try.prog 30 = (some (1, false)) := by kernel_rfl
theorem tab33 : tab Try.prog 33 = (some (2, true)) := by kernel_rfl
theorem tab36 : tab Try.prog 36 = (some (1, false)) := by kernel_rfl
theorem tab38 : tab Try.prog 38 = (some (2, true)) := by kernel_rfl
theorem tab4 : tab Try.prog 4 = (some (1, false)) := by kernel_rfl
theorem tab40 : tab Try.prog 40 = (some (2, true)) := by kernel_rfl
theorem tab43 : tab Try.prog 43 = (some (1, false)) := by kernel_rfl
theorem tab46 : tab Try.prog 46 = (some (1, false)) := by kernel_rfl
theorem tab58 : tab Try.prog 58 = (some (5, true)) := by kernel_rfl
theorem und101 : Go.Program.underlying Try.prog 101 = (some (.slice 30)) := by kernel_rfl
theorem und106 : Go.Program.underlying Try.prog 106 = (some (.int (.u64))) := by kernel_rfl
theorem und111 : Go.Program.underlying Try.prog 111 = (some (.int (.i64))) := by kernel_rfl
theorem und118 : Go.Program.underlying Try.prog 118 = (some (.int (.u32))) := by kernel_rfl
theorem und120 : Go.Program.underlying Try.prog 120 = (some (.int (.u64))) := by kernel_rfl
theorem und122 : Go.Program.underlying Try.prog 122 = (some (.func #[58] #[4] false)) := by kernel_rfl
theorem und123 : Go.Program.underlying Try.prog 123 = (some (.int (.u64))) := by kernel_rfl
theorem und127 : Go.Program.underlying Try.prog 127 = (some (.pointer 3)) := by kernel_rfl
theorem und23 : Go.Program.underlying Try.prog 23 = (some (.pointer 64)) := by kernel_rfl
theorem und25 : Go.Program.underlying Try.prog 25 = (some (.slice 36)) := by kernel_rfl
theorem und3 : Go.Program.underlying Try.prog 3 = (some (.int (.i64))) := by kernel_rfl
theorem und30 : Go.Program.underlying Try.prog 30 = (some (.slice 33)) := by kernel_rfl
theorem und36 : Go.Program.underlying Try.prog 36 = (some (.slice 3)) := by kernel_rfl
theorem und4 : Go.Program.underlying Try.prog 4 = (some (.bool)) := by kernel_rfl
theorem und43 : Go.Program.underlying Try.prog 43 = (some (.slice 46)) := by kernel_rfl
theorem und46 : Go.Program.underlying Try.prog 46 = (some (.slice 58)) := by kernel_rfl
theorem und5 : Go.Program.underlying Try.prog 5 = (some (.int (.u8))) := by kernel_rfl
theorem und72 : Go.Program.underlying Try.prog 72 = (some (.func #[58, 58] #[4] false)) := by kernel_rfl
theorem und89 : Go.Program.underlying Try.prog 89 = (some (.func #[3] #[4] false)) := by kernel_rfl
theorem und9 : Go.Program.underlying Try.prog 9 = (some (.string)) := by kernel_rfl
theorem und91 : Go.Program.underlying Try.prog 91 = (some (.func #[33] #[4] false)) := by kernel_rfl
theorem und93 : Go.Program.underlying Try.prog 93 = (some (.func #[33, 33] #[3] false)) := by kernel_rfl
theorem und98 : Go.Program.underlying Try.prog 98 = (some (.map 3 4)) := by kernel_rfl
theorem zer123 : zer Try.prog 123 = (some [(.int (.u64) 0)]) := by kernel_rfl
theorem zer27 : zer Try.prog 27 = (some [(.slice [] (.nil)), (.slice [] (.nil))]) := by kernel_rfl
theorem zer3 : zer Try.prog 3 = (some [(.int (.i64) 0)]) := by kernel_rfl
theorem zer33 : zer Try.prog 33 = (some [(.int (.i64) 0), (.int (.i64) 0)]) := by kernel_rfl
theorem zer40 : zer Try.prog 40 = (some [(.slice [] (.nil)), (.slice [] (.nil))]) := by kernel_rfl
theorem zer58 : zer Try.prog 58 = (some [(.int (.i64) 0), (.int (.i64) 0), (.slice [] (.nil)), (.bool false), (.bool false)]) := by kernel_rfl
theorem zer64 : zer Try.prog 64 = (some [(.slice [] (.nil)), (.slice [] (.nil)), (.int (.i64) 0)]) := by kernel_rfl
theorem zeroG4 : zeroG Try.prog 4 = (some (.bool false)) := by kernel_rfl
set_option linter.defProp false in
def fbFf := And.intro aggT33 <| And.intro els101 <| And.intro els25 <| And.intro els30 <| And.intro els36 <| And.intro els43 <| And.intro els46 <| And.intro elt101 <| And.intro elt25 <| And.intro elt30 <| And.intro elt36 <| And.intro elt43 <| And.intro elt46 <| And.intro fld27_0 <| And.intro fld27_1 <| And.intro fld33_0 <| And.intro fld33_1 <| And.intro fld38_0 <| And.intro fld38_1 <| And.intro fld40_0 <| And.intro fld40_1 <| And.intro fld58_0 <| And.intro fld58_1 <| And.intro fld58_2 <| And.intro fld58_3 <| And.intro fld58_4 <| And.intro fld64_0 <| And.intro fld64_1 <| And.intro fld64_2 <| And.intro keyT98 <| And.intro notInt101 <| And.intro notInt106 <| And.intro notInt118 <| And.intro notInt120 <| And.intro notInt122 <| And.intro notInt123 <| And.intro notInt127 <| And.intro notInt23 <| And.intro notInt25 <| And.intro notInt27 <| And.intro notInt3 <| And.intro notInt30 <| And.intro notInt33 <| And.intro notInt36 <| And.intro notInt38 <| And.intro notInt40 <| And.intro notInt43 <| And.intro notInt46 <| And.intro notInt58 <| And.intro notInt72 <| And.intro notInt89 <| And.intro notInt91 <| And.intro notInt93 <| And.intro notInt98 <| And.intro plc27 <| And.intro plc33 <| And.intro plc58 <| And.intro plc64 <| And.intro tab123 <| And.intro tab25 <| And.intro tab27 <| And.intro tab3 <| And.intro tab30 <| And.intro tab33 <| And.intro tab36 <| And.intro tab38 <| And.intro tab4 <| And.intro tab40 <| And.intro tab43 <| And.intro tab46 <| And.intro tab58 <| And.intro und101 <| And.intro und106 <| And.intro und111 <| And.intro und118 <| And.intro und120 <| And.intro und122 <| And.intro und123 <| And.intro und127 <| And.intro und23 <| And.intro und25 <| And.intro und3 <| And.intro und30 <| And.intro und36 <| And.intro und4 <| And.intro und43 <| And.intro und46 <| And.intro und5 <| And.intro und72 <| And.intro und89 <| And.intro und9 <| And.intro und91 <| And.intro und93 <| And.intro und98 <| And.intro zer123 <| And.intro zer27 <| And.intro zer3 <| And.intro zer33 <| And.intro zer40 <| And.intro zer58 <| And.intro zer64 <| zeroG4
end Gv.Try

/- What all texts of contracts need. -/
set_option linter.unusedVariables false
namespace Gv.Try
open Go Gv Go.Proofs
theorem mixS : Try.prog.follows .mixedOrders = true := by kernel_rfl
theorem toNat_pred (n : Nat) : ((n : Int) - 1).toNat = n - 1 := by omega
theorem tmod_pick (n m : Int) (hm : 0 < m) : (n.tmod m < 0 → n.tmod m + m = n % m) ∧ (0 ≤ n.tmod m → n.tmod m = n % m) := by
  have h := Int.tmod_eq_emod (a := n) (b := m)
  have h1 := Int.emod_nonneg n (by omega : m ≠ 0)
  have h2 := Int.emod_lt_of_pos n hm
  split at h <;> rename_i h3
  · simp at h; omega
  · have : m ∣ n ↔ n % m = 0 := Int.dvd_iff_emod_eq_zero
    have : n % m ≠ 0 := fun e => h3 (.inr (this.2 e))
    omega
end Gv.Try
