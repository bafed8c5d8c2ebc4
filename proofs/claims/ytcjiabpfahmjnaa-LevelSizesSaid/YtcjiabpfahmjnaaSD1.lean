/- The plain law of levels. -/
import Derived.Test.YtcjiabpfahmjnaaSC7
set_option linter.unusedVariables false
set_option linter.unusedSimpArgs false
namespace Gv.Try
open Go Gv Go.Proofs

theorem okP_at {l : List Seg} (h : SegsOK l) {s : Seg} (hs : s ∈ l) : okP (s.lo, s.hi) := h.1 _ (List.mem_map.2 ⟨s, hs, rfl⟩)
theorem SegsOK.app {a b : List Seg} (h : SegsOK (a ++ b)) : SegsOK a ∧ SegsOK b ∧ ∀ x ∈ a, ∀ y ∈ b, x.hi < y.lo := by
  obtain ⟨h1, h2⟩ := h
  simp only [spansOf, List.map_append, List.pairwise_append, List.mem_append] at h1 h2
  refine ⟨⟨fun p hp => h1 p (.inl hp), h2.1⟩, ⟨fun p hp => h1 p (.inr hp), h2.2.1⟩, fun x hx y hy => ?_⟩
  exact h2.2.2 (x.lo, x.hi) (List.mem_map.2 ⟨x, hx, rfl⟩) (y.lo, y.hi) (List.mem_map.2 ⟨y, hy, rfl⟩)
theorem SegsOK.lt {l : List Seg} (h : SegsOK l) {i j : Nat} (hij : i < j) (hj : j < l.length) : (l.getD i default).hi < (l.getD j default).lo := by
  have h2 := h.2
  rw [List.pairwise_iff_getElem] at h2
  have := h2 i j (by simp [spansOf]; omega) (by simp [spansOf]; omega) hij
  simpa [spansOf, List.getD, hj, show i < l.length by omega] using this
theorem SegsOK.okAt {l : List Seg} (h : SegsOK l) {i : Nat} (hi : i < l.length) : okP ((l.getD i default).lo, (l.getD i default).hi) := by
  have : l.getD i default = l[i] := by simp [List.getD, hi]
  rw [this]; exact okP_at h (List.getElem_mem hi)

theorem join_ok {l : List Seg} {size : Int} {n : Nat} (h : SegsOK (l.take n)) (hr : runOK l size n) : okP ((joinI (l.take n)).lo, (joinI (l.take n)).hi) ∧ (joinI (l.take n)).lo = (l.getD 0 default).lo ∧ (joinI (l.take n)).hi = (l.getD (n - 1) default).hi ∧ (joinI (l.take n)).head = (l.getD (n - 1) default).head := by
  obtain ⟨a, b, c, d⟩ := hr
  have hlen : (l.take n).length = n := by rw [List.length_take]; omega
  have at_ : ∀ i, i < n → (l.take n).getD i default = l.getD i default := fun i hi => by
    simp only [List.getD_eq_getElem?_getD]; rw [List.getElem?_take_of_lt hi]
  have e0 := at_ 0 (by omega)
  have e1 := at_ (n - 1) (by omega)
  have k0 := h.okAt (i := 0) (by omega)
  have k1 := h.okAt (i := n - 1) (by omega)
  rw [e0] at k0; rw [e1] at k1
  have hg := d (n - 1) (by omega)
  have elo : (joinI (l.take n)).lo = (l.getD 0 default).lo := by show ((l.take n).getD 0 default).lo = _; rw [e0]
  have ehi : (joinI (l.take n)).hi = (l.getD (n - 1) default).hi := by show ((l.take n).getD ((l.take n).length - 1) default).hi = _; rw [hlen, e1]
  have ehd : (joinI (l.take n)).head = (l.getD (n - 1) default).head := by show ((l.take n).getD ((l.take n).length - 1) default).head = _; rw [hlen, e1]
  refine ⟨?_, elo, ehi, ehd⟩
  rw [elo, ehi]
  have hs : split = 1099511627776 := rfl
  unfold sameG at hg
  rw [beq_iff_eq, Bool.eq_iff_iff, decide_eq_true_iff, decide_eq_true_iff] at hg
  unfold okP at *
  simp only at *
  have hle : (l.getD 0 default).lo ≤ (l.getD (n - 1) default).hi := by
    by_cases e : n = 1
    · subst e; exact k0.2.1
    · have := h.lt (i := 0) (j := n - 1) (by omega) (by omega)
      rw [e0, e1] at this
      omega
  omega
theorem UpOK.segs {size : Int} {l u : List Seg} (h : UpOK size l u) : SegsOK l → SegsOK u ∧ ∀ b : Int, (∀ s ∈ l, b < s.lo) → ∀ s ∈ u, b < s.lo := by
  induction h with
  | nil => exact fun h => ⟨h, fun b hb => hb⟩
  | cons l u n h1 h2 h3 ih =>
    intro h
    have h' := h
    rw [← List.take_append_drop n l] at h'
    obtain ⟨ha, hb, hc⟩ := h'.app
    obtain ⟨i1, i2⟩ := ih hb
    obtain ⟨j1, j2, j3, _⟩ := join_ok ha h1
    obtain ⟨n1, n2, n3, n4⟩ := h1
    have mem : ∀ i, i < n → l.getD i default ∈ l.take n := fun i hi => by
      have hlt : i < (l.take n).length := by rw [List.length_take]; omega
      have : l.getD i default = (l.take n)[i] := by simp [List.getD, show i < l.length by omega]
      rw [this]; exact List.getElem_mem hlt
    have hu : ∀ x ∈ u, (joinI (l.take n)).hi < x.lo := i2 _ fun s hs => by rw [j3]; exact hc _ (mem (n - 1) (by omega)) s hs
    refine ⟨⟨fun p hp => ?_, ?_⟩, fun b hbb s hs => ?_⟩
    · simp only [spansOf, List.map_cons, List.mem_cons] at hp
      rcases hp with rfl | hp
      · exact j1
      · exact i1.1 p hp
    · simp only [spansOf, List.map_cons, List.pairwise_cons]
      refine ⟨fun p hp => ?_, i1.2⟩
      obtain ⟨x, hx, rfl⟩ := List.mem_map.1 hp
      exact hu x hx
    · rcases List.mem_cons.1 hs with rfl | hs
      · rw [j2]; exact hbb _ (List.mem_of_mem_take (mem 0 (by omega)))
      · exact i2 b (fun x hx => hbb x (List.mem_of_mem_drop hx)) s hs
/-- what one joined segment is made of -/
theorem UpOK.at_ {size : Int} {l u : List Seg} {j k : Nat} (hl : SegsOK l) (h : UpOK size (l.drop k) (u.drop j)) (hj : j < u.length) : ∃ n : Nat, 1 ≤ n ∧ (n : Int) ≤ size ∧ k + n ≤ l.length ∧ (u.getD j default).lo = (l.getD k default).lo ∧ (u.getD j default).hi = (l.getD (k + n - 1) default).hi ∧
    (u.getD j default).head = (l.getD (k + n - 1) default).head ∧ (u.getD j default).root = anyR ((l.drop k).take n) ∧ ((u.getD j default).lo < split ↔ (u.getD j default).hi < split) ∧ UpOK size (l.drop (k + n)) (u.drop (j + 1)) := by
  have eu : u.drop j = u.getD j default :: u.drop (j + 1) := by rw [List.drop_eq_getElem_cons hj]; simp [List.getD, hj]
  rw [eu] at h
  generalize hl2 : l.drop k = l2 at h
  generalize hu2 : u.getD j default :: u.drop (j + 1) = u2 at h
  cases h with
  | nil => cases hu2
  | cons _ u' n h1 h2 h3 =>
    have e1 : u.getD j default = joinI (l2.take n) := by injection hu2
    have e2 : u.drop (j + 1) = u' := by injection hu2
    have hs : SegsOK (l2.take n) := by
      have h' := hl
      rw [← List.take_append_drop k l] at h'
      have := h'.app.2.1
      rw [hl2, ← List.take_append_drop n l2] at this
      exact this.app.1
    obtain ⟨j1, j2, j3, j4⟩ := join_ok hs h1
    obtain ⟨n1, n2, n3, n4⟩ := h1
    have hlen : l2.length = l.length - k := by rw [← hl2, List.length_drop]
    have at2 : ∀ i, l2.getD i default = l.getD (k + i) default := fun i => by rw [← hl2]; simp [List.getD]
    have e3 : k + (n - 1) = k + n - 1 := by omega
    refine ⟨n, n1, n2, by omega, ?_, ?_, ?_, ?_, ?_, ?_⟩
    · rw [e1, j2, at2]; rfl
    · rw [e1, j3, at2, e3]
    · rw [e1, j4, at2, e3]
    · rw [e1]; rfl
    · rw [e1]; exact j1.2.2.2
    · rw [e2, ← List.drop_drop, hl2]; exact h3
theorem UpOK.end_ {size : Int} {l u : List Seg} {j k : Nat} (h : UpOK size (l.drop k) (u.drop j)) (hj : u.length ≤ j) (hk : k ≤ l.length) : k = l.length := by
  rw [List.drop_eq_nil_of_le hj] at h
  generalize hl2 : l.drop k = l2 at h
  cases h with
  | nil =>
    have := congrArg List.length hl2
    rw [List.length_drop] at this
    simp at this; omega
theorem LevOK.segs {size : Int} {l : List Seg} {L : List (List Seg)} (h : LevOK size l L) (hl : SegsOK l) : ∀ i, i < L.length → SegsOK (L.getD i [])
  | 0, _ => by rw [h.2.2.1]; exact hl
  | i + 1, hi => ((h.2.2.2.1 i hi).1.segs (LevOK.segs h hl i (by omega))).1

end Gv.Try
