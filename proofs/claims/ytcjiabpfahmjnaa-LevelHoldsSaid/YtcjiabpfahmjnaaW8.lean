/- LevelHolds: from the readings. -/
import Derived.Test.YtcjiabpfahmjnaaSF2
import Derived.Test.YtcjiabpfahmjnaaKTab
import Derived.Test.YtcjiabpfahmjnaaGvBridge
set_option linter.unusedVariables false
namespace Gv.Try
open Go Gv Go.Proofs
theorem den_ints {gs : List GVal} (h : Den (.slice (.int .i64)) gs) : ∃ l : List Int, gs = [.slice (ints l) .none] ∧ l.length ≤ maxLen ∧ ∀ n ∈ l, (Lit.int .i64 n).wf = true := by
  obtain ⟨xs, rfl, hl, hx⟩ := h
  have : ∀ xs : List (List GVal), (∀ x ∈ xs, Den (.int .i64) x) → ∃ l : List Int, xs = ints l ∧ ∀ n ∈ l, (Lit.int .i64 n).wf = true := by
    intro xs
    induction xs with
    | nil => exact fun _ => ⟨[], rfl, by simp⟩
    | cons a r ih =>
      intro h
      obtain ⟨l, rfl, hl⟩ := ih fun x hx => h x (by simp [hx])
      obtain ⟨n, rfl, hn⟩ := h a (by simp)
      exact ⟨n :: l, rfl, by simpa using ⟨hn, hl⟩⟩
  obtain ⟨l, rfl, h2⟩ := this xs hx
  exact ⟨l, rfl, by simpa [ints] using hl, h2⟩
/-- a raw table -/
abbrev rawS : Sh := .agg [.slice (.int .i64), .slice (.int .i64)]
theorem den_raw {gs : List GVal} (h : Den rawS gs) : ∃ x y : List Int, gs = [.slice (ints x) .none, .slice (ints y) .none] ∧ (x.length ≤ maxLen ∧ y.length ≤ maxLen) ∧ ∀ n, n ∈ x ∨ n ∈ y → (Lit.int .i64 n).wf = true := by
  obtain ⟨ps, rfl, p, q, rfl, h1, p2, q2, rfl, h2, rfl⟩ := h
  obtain ⟨x, rfl, l1, w1⟩ := den_ints h1
  obtain ⟨y, rfl, l2, w2⟩ := den_ints h2
  exact ⟨x, y, rfl, ⟨l1, l2⟩, fun n hn => hn.elim (w1 n) (w2 n)⟩
theorem c22 : GPure Try.prog 22 [] (.bool true) := comes_ok mix T_ok k22
theorem w8 {g0 g1 : List GVal} (h0 : Den rawS g0) (h1 : Den (.int .i64) g1) : GPure Try.prog 8 ([rawS.val g0] ++ [Sh.val (.int .i64) g1]) (.bool true) := by
  obtain ⟨x, y, rfl, _, _⟩ := den_raw h0
  obtain ⟨n, rfl, _⟩ := h1
  exact spec8 x y n c22
end Gv.Try
