/- AskTells: from the readings. -/
import Derived.Test.YthidcccnjplafaaGreatP15
set_option linter.unusedVariables false
namespace Gv.Tryz
open Go Gv Go.Proofs
theorem den_raw {gs : List GVal} (h : Den (.agg [.slice (.int .i64), .slice (.int .i64)]) gs) : ∃ x y : List Int, gs = [.slice (ints x) .none, .slice (ints y) .none] := by
  obtain ⟨ps, rfl, p, q, rfl, hp, p2, q2, rfl, hq, rfl⟩ := h
  obtain ⟨x, rfl, _⟩ := den_i64s hp
  obtain ⟨y, rfl, _⟩ := den_i64s hq
  exact ⟨x, y, rfl⟩
theorem wAskTells {g0 g1 g2 g3 g4 : List GVal} (h0 : Den (.agg [.slice (.int .i64), .slice (.int .i64)]) g0) (h1 : Den (.int .i64) g1) (h2 : Den (.slice (.int .i64)) g2) (h3 : Den (.slice (.int .i64)) g3) (h4 : Den .bool g4) : GPure Tryz.prog 3 ([Sh.val (.agg [.slice (.int .i64), .slice (.int .i64)]) g0] ++ [Sh.val (.int .i64) g1] ++ [Sh.val (.slice (.int .i64)) g2] ++ [Sh.val (.slice (.int .i64)) g3] ++ [Sh.val .bool g4]) (.bool true) := by
  obtain ⟨x, y, rfl⟩ := den_raw h0
  obtain ⟨n, rfl, wn⟩ := h1
  obtain ⟨a, rfl, la, ia⟩ := den_i64s h2
  obtain ⟨b, rfl, lb, ib⟩ := den_i64s h3
  obtain ⟨s, rfl⟩ := h4
  exact specTells x y n a b s ⟨la, ia⟩ ⟨lb, ib⟩
end Gv.Tryz
