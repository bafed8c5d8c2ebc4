/- The plain law of levels. -/
import Derived.Test.YtcjiabpfahmjnaaSC7
set_option linter.unusedVariables false
set_option linter.unusedSimpArgs false
namespace Gv.Try
open Go Gv Go.Proofs

theorem okP_at {l : List Seg} (h : SegsOK l) {s : Seg} (hs : s ∈ l) : okP (s.lo, s.hi) := h.1 _ (List.mem_map.2 ⟨s, hs, rfl⟩)
theorem SegsOK.app {a b : List Seg} (h : SegsOK (a ++ b)) : SegsOK a ∧ SegsOK b ∧ ∀ x ∈ a, ∀ y ∈ b, x.hi < y.lo := by
  obtain ⟨h1, h2⟩ := h
  simp only [spansOf, List.map_append, List.pairwise_append, List.mem_append] at h1 h2
  refine ⟨⟨fun p hp => h1 p (.inl hp), h2.1⟩, ⟨fun p hp => h1 p (.inr hp), h2.2.1⟩, fun x hx y hy => ?_⟩
  exact h2.2.2 (x.lo, x.hi) (List.mem_map.2 ⟨x, hx, rfl⟩) (y.lo, y.hi) (List.mem_map.2 ⟨y, hy, rfl⟩)
theorem SegsOK.lt {l : List Seg} (h : SegsOK l) {i j : Nat} (hij : i < j) (hj : j < l.length) : (l.getD i default).hi < (l.getD j default).lo := by
  have h2 := h.2
  rw [List.pairwise_iff_getElem] at h2
  have := h2 i j (by simp [spansOf]; omega) (by simp [spansOf]; omega) hij
  simpa [spansOf, List.getD, hj, show i < l.length by omega] using this
theorem SegsOK.okAt {l : List Seg} (h : SegsOK l) {i : Nat} (hi : i < l.length) : okP ((l.getD i default).lo, (l.getD i default).hi) := by
  have : l.getD i default = l[i] := by simp [List.getD, hi]
  rw [this]; exact okP_at h (List.getElem_mem hi)

theorem join_ok {l : List Seg} {size : Int} {n : Nat} (h : SegsOK (l.take n)) (hr : runOK l size n) : okP ((joinI (l.take n)).lo, (joinI (l.take n)).hi) ∧ (joinI (l.take n)).lo = (l.getD 0 default).lo ∧ (joinI (l.take n)).hi = (l.getD (n - 1) default).hi ∧ (joinI (l.take n)).head = (l.getD (n - 1) default).head := by
  obtain ⟨a, b, c, d⟩ := hr
  have hlen : (l.take n).length = n := by rw [List.length_take]; omega
  have at_ : ∀ i, i < n → (l.take n).getD i default = l.getD i default := fun i hi => by
    simp only [List.getD_eq_getElem?_getD]; rw [List.getElem?_take_of_lt hi]
  have e0 := at_ 0 (by omega)
  have e1 := at_ (n - 1) (by omega)
  have k0 := h.okAt (i := 0) (by omega)
  have k1 := h.okAt (i := n - 1) (by omega)
  rw [e0] at k0; rw [e1] at k1
  have hg := d (n - 1) (by omega)
  have elo : (joinI (l.take n)).lo = (l.getD 0 default).lo := by show ((l.take n).getD 0 default).lo = _; rw [e0]
  have ehi : (joinI (l.take n)).hi = (l.getD (n - 1) default).hi := by show ((l.take n).getD ((l.take n).length - 1) default).hi = _; rw [hlen, e1]
  have ehd : (joinI (l.take n)).head = (l.getD (n - 1) default).head := by show ((l.take n).getD ((l.take n).length - 1) default).head = _; rw [hlen, e1]
  refine ⟨?_, elo, ehi, ehd⟩
  rw [elo, ehi]
  have hs : split = 1099511627776 := rfl
  unfold sameG at hg
  rw [beq_iff_eq, Bool.eq_iff_iff, decide_eq_true_iff, decide_eq_true_iff] at hg
  unfold okP at *
  simp only at *
  have hle : (l.getD 0 default).lo ≤ (l.getD (n - 1) default).hi := by
    by_cases e : n = 1
    · subst e; exact k0.2.1
    · have := h.lt (i := 0) (j := n - 1) (by omega) (by omega)
      rw [e0, e1] at this
      omega
  omega
theorem UpOK.segs {size : Int} {l u : List Seg} (h : UpOK size l u) : SegsOK l → SegsOK u ∧ ∀ b : Int, (∀ s ∈ l, b < s.lo) → ∀ s ∈ u, b < s.lo := by
  induction h with
  | nil => exact fun h => ⟨h, fun b hb => hb⟩
  | cons l u n h1 h2 h3 ih =>
    intro h
    have h' := h
    rw [← List.take_append_drop n l] at h'
    obtain ⟨ha, hb, hc⟩ := h'.app
    obtain ⟨i1, i2⟩ := ih hb
    obtain ⟨j1, j2, j3, _⟩ := join_ok ha h1
    obtain ⟨n1, n2, n3, n4⟩ := h1
    have mem : ∀ i, i < n → l.getD i default ∈ l.take n := fun i hi => by
      have hlt : i < (l.take n).length := by rw [List.length_take]; omega
      have : l.getD i default = (l.take n)[i] := by simp [List.getD, show i < l.length by omega]
      rw [this]; exact List.getElem_mem hlt
    have hu : ∀ x ∈ u, (joinI (l.take n)).hi < x.lo := i2 _ fun s hs => by rw [j3]; exact hc _ (mem (n - 1) (by omega)) s hs
    refine ⟨⟨fun p hp => ?_, ?_⟩, fun b hbb s hs => ?_⟩
    · simp only [spansOf, List.map_cons, List.mem_cons] at hp
      rcases hp with rfl | hp
      · exact j1
      · exact i1.1 p hp
    · simp only [spansOf, List.map_cons, List.pairwise_cons]
      refine ⟨fun p hp => ?_, i1.2⟩
      obtain ⟨x, hx, rfl⟩ := List.mem_map.1 hp
      exact hu x hx
    · rcases List.mem_cons.1 hs with rfl | hs
      · rw [j2]; exact hbb _ (List.mem_of_mem_take (mem 0 (by omega)))
      · exact i2 b (fun x hx => hbb x (List.mem_of_mem_drop hx)) s hs
/-- what one joined segment is made of -/
theorem UpOK.at_ {size : Int} {l u : List Seg} {j k : Nat} (hl : SegsOK l) (h : UpOK size (l.drop k) (u.drop j)) (hj : j < u.length) : ∃ n : Nat, 1 ≤ n ∧ (n : Int) ≤ size ∧ k + n ≤ l.length ∧ (u.getD j default).lo = (l.getD k default).lo ∧ (u.getD j default).hi = (l.getD (k + n - 1) default).hi ∧
    (u.getD j default).head = (l.getD (k + n - 1) default).head ∧ (u.getD j default).root = anyR ((l.drop k).take n) ∧ ((u.getD j default).lo < split ↔ (u.getD j default).hi < split) ∧ UpOK size (l.drop (k + n)) (u.drop (j + 1)) := by
  have eu : u.drop j = u.getD j default :: u.drop (j + 1) := by rw [List.drop_eq_getElem_cons hj]; simp [List.getD, hj]
  rw [eu] at h
  generalize hl2 : l.drop k = l2 at h
  generalize hu2 : u.getD j default :: u.drop (j + 1) = u2 at h
  cases h with
  | nil => cases hu2
  | cons _ u' n h1 h2 h3 =>
    have e1 : u.getD j default = joinI (l2.take n) := by injection hu2
    have e2 : u.drop (j + 1) = u' := by injection hu2
    have hs : SegsOK (l2.take n) := by
      have h' := hl
      rw [← List.take_append_drop k l] at h'
      have := h'.app.2.1
      rw [hl2, ← List.take_append_drop n l2] at this
      exact this.app.1
    obtain ⟨j1, j2, j3, j4⟩ := join_ok hs h1
    obtain ⟨n1, n2, n3, n4⟩ := h1
    have hlen : l2.length = l.length - k := by rw [← hl2, List.length_drop]
    have at2 : ∀ i, l2.getD i default = l.getD (k + i) default := fun i => by rw [← hl2]; simp [List.getD]
    have e3 : k + (n - 1) = k + n - 1 := by omega
    refine ⟨n, n1, n2, by omega, ?_, ?_, ?_, ?_, ?_, ?_⟩
    · rw [e1, j2, at2]; rfl
    · rw [e1, j3, at2, e3]
    · rw [e1, j4, at2, e3]
    · rw [e1]; rfl
    · rw [e1]; exact j1.2.2.2
    · rw [e2, ← List.drop_drop, hl2]; exact h3
theorem UpOK.end_ {size : Int} {l u : List Seg} {j k : Nat} (h : UpOK size (l.drop k) (u.drop j)) (hj : u.length ≤ j) (hk : k ≤ l.length) : k = l.length := by
  rw [List.drop_eq_nil_of_le hj] at h
  generalize hl2 : l.drop k = l2 at h
  cases h with
  | nil =>
    have := congrArg List.length hl2
    rw [List.length_drop] at this
    simp at this; omega
theorem LevOK.segs {size : Int} {l : List Seg} {L : List (List Seg)} (h : LevOK size l L) (hl : SegsOK l) : ∀ i, i < L.length → SegsOK (L.getD i [])
  | 0, _ => by rw [h.2.2.1]; exact hl
  | i + 1, hi => ((h.2.2.2.1 i hi).1.segs (LevOK.segs h hl i (by omega))).1

end Gv.Try
/- The plain law of what levels hold. -/
set_option linter.unusedVariables false
set_option linter.unusedSimpArgs false
namespace Gv.Try
open Go Gv Go.Proofs

def clos (m o : List (List Int)) (l : List Int) : Prop := ∀ x ∈ l, ∀ p ∈ parI m o x, hasI m.length o.length p = true → p ∈ l
/-- where one is, the other one is an ancestor -/
def Leads (m o : List (List Int)) (a b : Int) : Prop := ∀ l : List Int, b ∈ l → clos m o l → a ∈ l
theorem Leads.refl (m o : List (List Int)) (a : Int) : Leads m o a a := fun l h _ => h
theorem Leads.trans {m o : List (List Int)} {a b c : Int} (h : Leads m o a b) (k : Leads m o b c) : Leads m o a c := fun l hl hc => h l (k l hl hc) hc
theorem Leads.par {m o : List (List Int)} {a b : Int} (h : a ∈ parI m o b) (ha : hasI m.length o.length a = true) : Leads m o a b := fun l hl hc => hc b hl a h ha
structure SegH (m o : List (List Int)) (s : Seg) : Prop where
  le : s.lo ≤ s.hi
  lead : ∀ id, s.lo ≤ id → id ≤ s.hi → Leads m o id s.hi
  has : ∀ id, s.lo ≤ id → id ≤ s.hi → hasI m.length o.length id = true
  all : ∀ id, s.lo ≤ id → id ≤ s.hi → ∀ p ∈ parI m o id, p < s.lo → p ∈ s.par
  from_ : ∀ p ∈ s.par, p < s.lo ∧ ∃ id, s.lo ≤ id ∧ id ≤ s.hi ∧ p ∈ parI m o id
  nodup : s.par.Nodup
def okC (m o : List (List Int)) : Nat → List Seg → Nat → Prop
  | n, [], n' => n = n'
  | n, s :: r, n' => SegH m o s ∧ (∀ d : Nat, s.lo + d ≤ s.hi → n + d < m.length + o.length ∧ (allI m.length o.length).getD (n + d) 0 = s.lo + d) ∧ okC m o (n + (s.hi - s.lo + 1).toNat) r n'
theorem okC_append (m o : List (List Int)) : ∀ (a b : List Seg) (n n' : Nat), okC m o n (a ++ b) n' ↔ ∃ k, okC m o n a k ∧ okC m o k b n'
  | [], b, n, n' => by simp [okC]
  | s :: a, b, n, n' => by
    simp only [List.cons_append, okC, okC_append m o a b]
    constructor
    · rintro ⟨h1, h2, k, h3, h4⟩; exact ⟨k, ⟨h1, h2, h3⟩, h4⟩
    · rintro ⟨k, ⟨h1, h2, h3⟩, h4⟩; exact ⟨h1, h2, k, h3, h4⟩
theorem okC_le (m o : List (List Int)) : ∀ (l : List Seg) (n n' : Nat), okC m o n l n' → n ≤ n' ∧ (l ≠ [] → n < n') ∧ (∀ s ∈ l, SegH m o s)
  | [], n, n', h => by simp only [okC] at h; subst h; simp
  | s :: r, n, n', h => by
    simp only [okC] at h
    obtain ⟨h1, h2, h3⟩ := h
    have := okC_le m o r _ _ h3
    have hle := h1.le
    refine ⟨by omega, fun _ => by omega, fun x hx => ?_⟩
    rcases List.mem_cons.1 hx with rfl | hx
    · exact h1
    · exact this.2.2 x hx
/-- each place is in a segment -/
theorem okC_in (m o : List (List Int)) : ∀ (l : List Seg) (n n' : Nat), okC m o n l n' → ∀ i, n ≤ i → i < n' → ∃ s ∈ l, s.lo ≤ (allI m.length o.length).getD i 0 ∧ (allI m.length o.length).getD i 0 ≤ s.hi
  | [], n, n', h, i, h1, h2 => by simp only [okC] at h; omega
  | s :: r, n, n', h, i, h1, h2 => by
    simp only [okC] at h
    obtain ⟨k1, k2, k3⟩ := h
    by_cases e : i < n + (s.hi - s.lo + 1).toNat
    · have := k2 (i - n) (by have := k1.le; omega)
      rw [show n + (i - n) = i by omega] at this
      exact ⟨s, by simp, by omega, by have := k1.le; omega⟩
    · obtain ⟨x, hx, hh⟩ := okC_in m o r _ _ k3 i (by omega) h2
      exact ⟨x, by simp [hx], hh⟩
/-- the first and the last place -/
theorem okC_ends (m o : List (List Int)) : ∀ (l : List Seg) (n n' : Nat), okC m o n l n' → l ≠ [] → n' ≤ m.length + o.length ∧ (l.getD 0 default).lo = (allI m.length o.length).getD n 0 ∧ (l.getD (l.length - 1) default).hi = (allI m.length o.length).getD (n' - 1) 0
  | [], n, n', h, hne => absurd rfl hne
  | s :: r, n, n', h, _ => by
    simp only [okC] at h
    obtain ⟨k1, k2, k3⟩ := h
    have hle := k1.le
    have e0 := k2 0 (by omega)
    have e1 := k2 (s.hi - s.lo).toNat (by omega)
    have e2 : n + (s.hi - s.lo + 1).toNat - 1 = n + (s.hi - s.lo).toNat := by omega
    refine ⟨?_, by simp; simp at e0; omega, ?_⟩
    · by_cases hr : r = []
      · subst hr; simp only [okC] at k3; omega
      · exact (okC_ends m o r _ _ k3 hr).1
    · by_cases hr : r = []
      · subst hr; simp only [okC] at k3
        rw [← k3, e2, e1.2]
        show s.hi = _
        omega
      · have := (okC_ends m o r _ _ k3 hr).2.2
        rw [← this]
        have hpos : 0 < r.length := List.length_pos_iff.2 hr
        simp only [List.length_cons, Nat.add_sub_cancel]
        congr 1
        obtain ⟨j, hj⟩ : ∃ j, r.length = j + 1 := ⟨r.length - 1, by omega⟩
        rw [hj]; simp

theorem jpar_mem (lo : Int) : ∀ (q acc : List Int) (p : Int), p ∈ jpar lo acc q ↔ p ∈ acc ∨ (p ∈ q ∧ p < lo)
  | [], acc, p => by simp [jpar]
  | a :: q, acc, p => by
    rw [jpar, jpar_mem lo q]
    split
    · rename_i h
      simp only [List.mem_append, List.mem_cons, List.mem_nil_iff, or_false]
      constructor
      · rintro ((h1 | h1) | h1)
        · exact .inl h1
        · subst h1; exact .inr ⟨.inl rfl, h.1⟩
        · exact .inr ⟨.inr h1.1, h1.2⟩
      · rintro (h1 | ⟨h1 | h1, h2⟩)
        · exact .inl (.inl h1)
        · exact .inl (.inr h1)
        · exact .inr ⟨h1, h2⟩
    · rename_i h
      simp only [List.mem_cons]
      constructor
      · rintro (h1 | h1)
        · exact .inl h1
        · exact .inr ⟨.inr h1.1, h1.2⟩
      · rintro (h1 | ⟨h1 | h1, h2⟩)
        · exact .inl h1
        · subst h1
          by_cases hm : p ∈ acc
          · exact .inl hm
          · exact absurd ⟨h2, hm⟩ h
        · exact .inr ⟨h1, h2⟩
theorem jpar_nodup (lo : Int) : ∀ (q acc : List Int), acc.Nodup → (jpar lo acc q).Nodup
  | [], acc, h => h
  | a :: q, acc, h => by
    rw [jpar]
    refine jpar_nodup lo q _ ?_
    split
    · rename_i h2
      rw [List.nodup_append]
      exact ⟨h, by simp, fun x hx y hy => by simp at hy; subst hy; exact fun e => h2.2 (by rw [← e]; exact hx)⟩
    · exact h
theorem jall_mem' (lo : Int) (p : Int) : ∀ (l : List Seg) (acc : List Int), p ∈ l.foldl (fun acc s => jpar lo acc s.par) acc ↔ p ∈ acc ∨ ∃ s ∈ l, p ∈ s.par ∧ p < lo
  | [], acc => by simp
  | a :: l, acc => by
    rw [List.foldl_cons, jall_mem' lo p l, jpar_mem]
    simp only [List.mem_cons, exists_eq_or_imp]
    constructor
    · rintro ((h | h) | h)
      · exact .inl h
      · exact .inr (.inl h)
      · exact .inr (.inr h)
    · rintro (h | h | h)
      · exact .inl (.inl h)
      · exact .inl (.inr h)
      · exact .inr h
theorem jall_mem (lo : Int) (p : Int) (l : List Seg) : p ∈ jall lo l ↔ ∃ s ∈ l, p ∈ s.par ∧ p < lo := by
  rw [jall, jall_mem']; simp
theorem jall_nodup (lo : Int) : ∀ (l : List Seg) (acc : List Int), acc.Nodup → (l.foldl (fun acc s => jpar lo acc s.par) acc).Nodup
  | [], acc, h => h
  | a :: l, acc, h => jall_nodup lo l _ (jpar_nodup lo _ _ h)
theorem headsN_pos : ∀ (l : List Seg), l ≠ [] → 1 ≤ headsN l
  | [s], _ => by simp [headsN, anyP]
  | s :: x :: r, _ => by
    have := headsN_pos (x :: r) (by simp)
    rw [headsN]; omega
/-- one head: all lead to the last one -/
theorem leads_last (m o : List (List Int)) : ∀ (l : List Seg), (∀ s ∈ l, SegH m o s) → headsN l = 1 → ∀ s ∈ l, Leads m o s.hi (l.getD (l.length - 1) default).hi
  | [], _, h, s, hs => by simp at hs
  | [a], _, h, s, hs => by simp at hs; subst hs; simp; exact Leads.refl _ _ _
  | a :: x :: r, hh, h, s, hs => by
    have hp := headsN_pos (x :: r) (by simp)
    rw [headsN] at h
    have h1 : anyP a.hi (x :: r) = true := by
      by_cases e : anyP a.hi (x :: r) = true
      · exact e
      · rw [if_neg e] at h; omega
    rw [if_pos h1] at h
    have ih := leads_last m o (x :: r) (fun s hs => hh s (by simp at hs ⊢; right; exact hs)) (by omega)
    have el : (a :: x :: r).getD ((a :: x :: r).length - 1) default = (x :: r).getD ((x :: r).length - 1) default := by simp
    rw [el]
    rcases List.mem_cons.1 hs with rfl | hs
    · simp only [anyP, List.any_eq_true, decide_eq_true_eq] at h1
      obtain ⟨y, hy, hm⟩ := h1
      have hy' := hh y (by simp at hy ⊢; right; exact hy)
      obtain ⟨_, id, i1, i2, i3⟩ := hy'.from_ _ hm
      have hs' := hh s (by simp)
      exact ((Leads.par i3 (hs'.has _ hs'.le (Int.le_refl _))).trans (hy'.lead id i1 i2)).trans (ih y hy)
    · exact ih s hs
/-- numbers of one group are one behind the other -/
theorem allI_run {m o i j : Nat} (h : i ≤ j) (hj : j < m + o) (hm : m + o ≤ 500) (hg : (allI m o).getD i 0 < split ↔ (allI m o).getD j 0 < split) : (allI m o).getD j 0 = (allI m o).getD i 0 + ((j - i : Nat) : Int) := by
  have hs : split = 1099511627776 := rfl
  have e1 := allI_at m o i (by omega)
  have e2 := allI_at m o j hj
  split at e1 <;> split at e2 <;> omega

theorem okC_join {m o : List (List Int)} (hm : m.length + o.length ≤ 500) {l : List Seg} {n n' : Nat} (h : okC m o n l n') (hne : l ≠ []) (hs : SegsOK l) (hg : (joinI l).lo < split ↔ (joinI l).hi < split) (hh : l.length = 1 ∨ headsN l = 1) : okC m o n [joinI l] n' := by
  obtain ⟨h1, h2, h3⟩ := okC_le m o l n n' h
  obtain ⟨k1, k2, k3⟩ := okC_ends m o l n n' h hne
  have hlt := h2 hne
  have hpos : 0 < l.length := List.length_pos_iff.2 hne
  have elo : (joinI l).lo = (allI m.length o.length).getD n 0 := k2
  have ehi : (joinI l).hi = (allI m.length o.length).getD (n' - 1) 0 := k3
  have hrun := allI_run (m := m.length) (o := o.length) (i := n) (j := n' - 1) (by omega) (by omega) hm (by rw [← elo, ← ehi]; exact hg)
  have hlast : ∀ s ∈ l, Leads m o s.hi (joinI l).hi := by
    rcases hh with hh | hh
    · intro s hs
      have : l = [s] := by
        match l, hh with
        | [a], _ => simp at hs; rw [hs]
      rw [this]
      exact Leads.refl _ _ _
    · exact leads_last m o l h3 hh
  have hin : ∀ id, (joinI l).lo ≤ id → id ≤ (joinI l).hi → ∃ s ∈ l, s.lo ≤ id ∧ id ≤ s.hi := fun id q1 q2 => by
    have hi : (allI m.length o.length).getD (n + (id - (joinI l).lo).toNat) 0 = id := by
      have hb : n + (id - (joinI l).lo).toNat ≤ n' - 1 := by omega
      have hs : split = 1099511627776 := rfl
      have e0 := allI_at m.length o.length n (by omega)
      have e1 := allI_at m.length o.length (n' - 1) (by omega)
      have e2 := allI_at m.length o.length (n + (id - (joinI l).lo).toNat) (by omega)
      split at e0 <;> split at e1 <;> split at e2 <;> omega
    obtain ⟨s, q3, q4⟩ := okC_in m o l n n' h (n + (id - (joinI l).lo).toNat) (by omega) (by omega)
    rw [hi] at q4
    exact ⟨s, q3, q4⟩
  have hb : ∀ s ∈ l, (joinI l).lo ≤ s.lo ∧ s.hi ≤ (joinI l).hi := fun s hs2 => by
    obtain ⟨i, hi⟩ := List.getElem?_of_mem hs2
    have hil := (List.getElem?_eq_some_iff.1 hi).1
    have ei : l.getD i default = s := by simp [List.getD, hi]
    have s0 := (h3 _ (show l.getD 0 default ∈ l by rw [List.getD_eq_getElem?_getD, List.getElem?_eq_getElem hpos]; exact List.getElem_mem hpos)).le
    have sl := (h3 _ (show l.getD (l.length - 1) default ∈ l by rw [List.getD_eq_getElem?_getD, List.getElem?_eq_getElem (by omega)]; exact List.getElem_mem _)).le
    have ss := (h3 s hs2).le
    constructor
    · show (l.getD 0 default).lo ≤ s.lo
      by_cases e : i = 0
      · subst e; rw [ei]; exact Int.le_refl _
      · have := hs.lt (i := 0) (j := i) (by omega) hil
        rw [ei] at this; omega
    · show s.hi ≤ (l.getD (l.length - 1) default).hi
      by_cases e : i = l.length - 1
      · rw [← e, ei]; exact Int.le_refl _
      · have := hs.lt (i := i) (j := l.length - 1) (by omega) (by omega)
        rw [ei] at this; omega
  refine ⟨⟨by omega, fun id q1 q2 => ?_, fun id q1 q2 => ?_, fun id q1 q2 p hp hlt2 => ?_, fun p hp => ?_, jall_nodup _ _ _ (by simp)⟩, fun d hd => ?_, ?_⟩
  · obtain ⟨s, q3, q4, q5⟩ := hin id q1 q2
    exact ((h3 s q3).lead id q4 q5).trans (hlast s q3)
  · obtain ⟨s, q3, q4, q5⟩ := hin id q1 q2
    exact (h3 s q3).has id q4 q5
  · obtain ⟨s, q3, q4, q5⟩ := hin id q1 q2
    refine (jall_mem _ _ _).2 ⟨s, q3, (h3 s q3).all id q4 q5 p hp ?_, hlt2⟩
    have := (hb s q3).1; omega
  · obtain ⟨s, q3, q4, q5⟩ := (jall_mem _ _ _).1 hp
    obtain ⟨_, id, i1, i2, i3⟩ := (h3 s q3).from_ p q4
    have := hb s q3
    exact ⟨q5, id, by omega, by omega, i3⟩
  · have hb : n + d ≤ n' - 1 := by omega
    have hs : split = 1099511627776 := rfl
    have e0 := allI_at m.length o.length n (by omega)
    have e1 := allI_at m.length o.length (n' - 1) (by omega)
    have e2 := allI_at m.length o.length (n + d) (by omega)
    refine ⟨by omega, ?_⟩
    split at e0 <;> split at e1 <;> split at e2 <;> omega
  · show n + ((joinI l).hi - (joinI l).lo + 1).toNat = n'
    omega

theorem UpOK.okC {m o : List (List Int)} (hm : m.length + o.length ≤ 500) {size : Int} {l u : List Seg} (h : UpOK size l u) : ∀ n n', SegsOK l → okC m o n l n' → okC m o n u n' := by
  induction h with
  | nil => exact fun n n' _ h => h
  | cons l u n0 h1 h2 h3 ih =>
    intro n n' hs hc
    rw [← List.take_append_drop n0 l, okC_append] at hc
    obtain ⟨k, c1, c2⟩ := hc
    have hs' := hs
    rw [← List.take_append_drop n0 l] at hs'
    obtain ⟨sa, sb, _⟩ := hs'.app
    obtain ⟨j1, _, _, _⟩ := join_ok sa h1
    obtain ⟨n1, n2, n3, n4⟩ := h1
    have hlen : (l.take n0).length = n0 := by rw [List.length_take]; omega
    have hne : l.take n0 ≠ [] := fun e => by rw [e] at hlen; simp at hlen; omega
    have := okC_join hm c1 hne sa j1.2.2.2 (by rw [hlen]; exact h2)
    rw [show joinI (l.take n0) :: u = [joinI (l.take n0)] ++ u from rfl, okC_append]
    exact ⟨k, this, ih k n' sb c2⟩

/-- parents are there, smaller, and different -/
theorem okRow_nodup {m o : Nat} {lim most : Int} : ∀ {q seen : List Int}, okRow m o lim most seen q = true → seen.Nodup → (seen ++ q).Nodup
  | [], seen, _, h => by simpa using h
  | a :: r, seen, h, hs => by
    simp only [okRow, Bool.and_eq_true, Bool.not_eq_true', Bool.or_eq_false_iff, decide_eq_false_iff_not] at h
    have := okRow_nodup h.2 (by rw [List.nodup_append]; exact ⟨hs, by simp, fun x hx y hy => by simp at hy; subst hy; exact fun e => h.1.2 (by rw [← e]; exact hx)⟩)
    simpa using this
theorem okG_at {m o : Nat} {most : Int} : ∀ {l : List (List Int)} {frm : Int}, okG m o most frm l = true → ∀ k, k < l.length → (∀ p ∈ l.getD k [], p < frm + k ∧ hasI m o p = true) ∧ (l.getD k []).Nodup
  | [], _, _, k, hk => by simp at hk
  | a :: l, frm, h, 0, hk => by
    simp only [okG, Bool.and_eq_true] at h
    refine ⟨fun p hp => ?_, ?_⟩
    · have := okRow_at h.1.1 p (by simpa using hp)
      exact ⟨by simp; omega, this.2.2⟩
    · have := okRow_nodup h.1.1 (by simp)
      simpa using this
  | a :: l, frm, h, k + 1, hk => by
    simp only [okG, Bool.and_eq_true] at h
    have := okG_at h.2 k (by simpa using hk)
    simp only [List.getD_cons_succ]
    refine ⟨fun p hp => ?_, this.2⟩
    have := this.1 p hp
    exact ⟨by omega, this.2⟩
theorem parI_props {m o : List (List Int)} (hm : m.length + o.length ≤ 500) (hr : rightI m o = true) (id : Int) : (∀ p ∈ parI m o id, p < id ∧ hasI m.length o.length p = true) ∧ (parI m o id).Nodup := by
  rw [rightI, Bool.and_eq_true] at hr
  unfold parI
  split
  · rename_i h
    have := okG_at hr.1 id.toNat (by omega)
    refine ⟨fun p hp => ?_, this.2⟩
    have := this.1 p hp
    exact ⟨by omega, this.2⟩
  · split
    · rename_i h
      have := okG_at hr.2 (id - split).toNat (by omega)
      refine ⟨fun p hp => ?_, this.2⟩
      have := this.1 p hp
      exact ⟨by omega, this.2⟩
    · simp
theorem okS_C {m o : List (List Int)} (hm : m.length + o.length ≤ 500) (hr : rightI m o = true) : ∀ (l : List Seg) (n : Nat), okS m o n l → okC m o n l (m.length + o.length)
  | [], n, h => by simp only [okS] at h; exact h
  | s :: r, n, h => by
    simp only [okS] at h
    obtain ⟨⟨h1, h2, h3⟩, h4, h5, h6, h7, h8⟩ := h
    have inA : ∀ id, s.lo ≤ id → id ≤ s.hi → hasI m.length o.length id = true := fun id q1 q2 => by
      obtain ⟨a, b, _⟩ := h4 (id - s.lo).toNat (by omega)
      rw [← allI_hasI, show id = s.lo + ((id - s.lo).toNat : Int) by omega, ← b, List.getD_eq_getElem?_getD, List.getElem?_eq_getElem (by rw [allI_len]; exact a)]
      exact List.getElem_mem _
    have lead : ∀ k : Nat, s.lo + k ≤ s.hi → Leads m o (s.hi - k) s.hi := by
      intro k
      induction k with
      | zero => intro _; simp; exact Leads.refl _ _ _
      | succ k ih =>
        intro hk
        refine Leads.trans ?_ (ih (by omega))
        obtain ⟨_, _, c⟩ := h4 (s.hi - (k : Int) - s.lo).toNat (by omega)
        have c := c (by omega)
        rw [show s.lo + ((s.hi - (k : Int) - s.lo).toNat : Int) = s.hi - k by omega] at c
        refine Leads.par ?_ (inA _ (by omega) (by omega))
        rw [c]; simp; omega
    refine ⟨⟨h2, fun id q1 q2 => ?_, inA, fun id q1 q2 p hp hlt => ?_, fun p hp => ?_, ?_⟩, fun d hd => ⟨(h4 d hd).1, (h4 d hd).2.1⟩, okS_C hm hr r _ h8⟩
    · have := lead (s.hi - id).toNat (by omega)
      rwa [show s.hi - ((s.hi - id).toNat : Int) = id by omega] at this
    · by_cases e : id = s.lo
      · rw [e, h5] at hp; exact hp
      · obtain ⟨_, _, c⟩ := h4 (id - s.lo).toNat (by omega)
        have c := c (by omega)
        rw [show s.lo + ((id - s.lo).toNat : Int) = id by omega] at c
        rw [c] at hp; simp at hp; omega
    · rw [← h5] at hp
      exact ⟨((parI_props hm hr s.lo).1 p hp).1, s.lo, Int.le_refl _, h2, hp⟩
    · rw [← h5]; exact (parI_props hm hr s.lo).2

/-- a group's segments are one behind the other -/
theorem okS_segs {m o : List (List Int)} (hm : m.length + o.length ≤ 500) : ∀ (l : List Seg) (n : Nat), okS m o n l → SegsOK l ∧ ∀ s ∈ l, (allI m.length o.length).getD n 0 ≤ s.lo
  | [], n, h => ⟨⟨by simp [spansOf], by simp [spansOf]⟩, by simp⟩
  | s :: r, n, h => by
    simp only [okS] at h
    obtain ⟨⟨h1, h2, h3⟩, h4, h5, h6, h7, h8⟩ := h
    obtain ⟨i1, i2⟩ := okS_segs hm r _ h8
    have hs : split = 1099511627776 := rfl
    obtain ⟨a0, b0, _⟩ := h4 0 (by omega)
    obtain ⟨a1, b1, _⟩ := h4 (s.hi - s.lo).toNat (by omega)
    have e0 := allI_at m.length o.length (n + 0) a0
    have e1 := allI_at m.length o.length (n + (s.hi - s.lo).toNat) a1
    have key : ∀ x ∈ r, s.hi < x.lo := fun x hx => by
      have := i2 x hx
      by_cases e : n + (s.hi - s.lo + 1).toNat < m.length + o.length
      · have e2 := allI_at m.length o.length (n + (s.hi - s.lo + 1).toNat) e
        split at e1 <;> split at e2 <;> omega
      · exfalso
        match r, h8, hx with
        | y :: r', h8, _ =>
          simp only [okS] at h8
          obtain ⟨⟨_, y2, _⟩, y4, _⟩ := h8
          have := (y4 0 (by omega)).1
          omega
    have okp : okP (s.lo, s.hi) := by
      unfold okP
      simp only
      split at e0 <;> split at e1 <;> omega
    refine ⟨⟨fun p hp => ?_, ?_⟩, fun x hx => ?_⟩
    · simp only [spansOf, List.map_cons, List.mem_cons] at hp
      rcases hp with rfl | hp
      · exact okp
      · exact i1.1 p hp
    · simp only [spansOf, List.map_cons, List.pairwise_cons]
      refine ⟨fun p hp => ?_, i1.2⟩
      obtain ⟨x, hx, rfl⟩ := List.mem_map.1 hp
      exact key x hx
    · rcases List.mem_cons.1 hx with rfl | hx
      · simp at b0; simp; omega
      · have := key x hx
        simp at b0
        have : (allI m.length o.length).getD n 0 = s.lo := by simpa using b0
        omega
end Gv.Try
