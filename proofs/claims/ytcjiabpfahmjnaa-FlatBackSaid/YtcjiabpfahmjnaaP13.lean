/- The plain law of what levels hold. -/
import Derived.Test.YtcjiabpfahmjnaaP12
import Derived.Test.YtcjiabpfahmjnaaP8
import Derived.Test.YtcjiabpfahmjnaaP6
import Derived.Test.YtcjiabpfahmjnaaP11
set_option linter.unusedVariables false
set_option linter.unusedSimpArgs false
namespace Gv.Try
open Go Gv Go.Proofs

def clos (m o : List (List Int)) (l : List Int) : Prop := ∀ x ∈ l, ∀ p ∈ parI m o x, hasI m.length o.length p = true → p ∈ l
/-- where one is, the other one is an ancestor -/
def Leads (m o : List (List Int)) (a b : Int) : Prop := ∀ l : List Int, b ∈ l → clos m o l → a ∈ l
theorem Leads.refl (m o : List (List Int)) (a : Int) : Leads m o a a := fun l h _ => h
theorem Leads.trans {m o : List (List Int)} {a b c : Int} (h : Leads m o a b) (k : Leads m o b c) : Leads m o a c := fun l hl hc => h l (k l hl hc) hc
theorem Leads.par {m o : List (List Int)} {a b : Int} (h : a ∈ parI m o b) (ha : hasI m.length o.length a = true) : Leads m o a b := fun l hl hc => hc b hl a h ha
structure SegH (m o : List (List Int)) (s : Seg) : Prop where
  le : s.lo ≤ s.hi
  lead : ∀ id, s.lo ≤ id → id ≤ s.hi → Leads m o id s.hi
  has : ∀ id, s.lo ≤ id → id ≤ s.hi → hasI m.length o.length id = true
  all : ∀ id, s.lo ≤ id → id ≤ s.hi → ∀ p ∈ parI m o id, p < s.lo → p ∈ s.par
  from_ : ∀ p ∈ s.par, p < s.lo ∧ ∃ id, s.lo ≤ id ∧ id ≤ s.hi ∧ p ∈ parI m o id
  nodup : s.par.Nodup
def okC (m o : List (List Int)) : Nat → List Seg → Nat → Prop
  | n, [], n' => n = n'
  | n, s :: r, n' => SegH m o s ∧ (∀ d : Nat, s.lo + d ≤ s.hi → n + d < m.length + o.length ∧ (allI m.length o.length).getD (n + d) 0 = s.lo + d) ∧ okC m o (n + (s.hi - s.lo + 1).toNat) r n'
theorem okC_append (m o : List (List Int)) : ∀ (a b : List Seg) (n n' : Nat), okC m o n (a ++ b) n' ↔ ∃ k, okC m o n a k ∧ okC m o k b n'
  | [], b, n, n' => by simp [okC]
  | s :: a, b, n, n' => by
    simp only [List.cons_append, okC, okC_append m o a b]
    constructor
    · rintro ⟨h1, h2, k, h3, h4⟩; exact ⟨k, ⟨h1, h2, h3⟩, h4⟩
    · rintro ⟨k, ⟨h1, h2, h3⟩, h4⟩; exact ⟨h1, h2, k, h3, h4⟩
theorem okC_le (m o : List (List Int)) : ∀ (l : List Seg) (n n' : Nat), okC m o n l n' → n ≤ n' ∧ (l ≠ [] → n < n') ∧ (∀ s ∈ l, SegH m o s)
  | [], n, n', h => by simp only [okC] at h; subst h; simp
  | s :: r, n, n', h => by
    simp only [okC] at h
    obtain ⟨h1, h2, h3⟩ := h
    have := okC_le m o r _ _ h3
    have hle := h1.le
    refine ⟨by omega, fun _ => by omega, fun x hx => ?_⟩
    rcases List.mem_cons.1 hx with rfl | hx
    · exact h1
    · exact this.2.2 x hx
/-- each place is in a segment -/
theorem okC_in (m o : List (List Int)) : ∀ (l : List Seg) (n n' : Nat), okC m o n l n' → ∀ i, n ≤ i → i < n' → ∃ s ∈ l, s.lo ≤ (allI m.length o.length).getD i 0 ∧ (allI m.length o.length).getD i 0 ≤ s.hi
  | [], n, n', h, i, h1, h2 => by simp only [okC] at h; omega
  | s :: r, n, n', h, i, h1, h2 => by
    simp only [okC] at h
    obtain ⟨k1, k2, k3⟩ := h
    by_cases e : i < n + (s.hi - s.lo + 1).toNat
    · have := k2 (i - n) (by have := k1.le; omega)
      rw [show n + (i - n) = i by omega] at this
      exact ⟨s, by simp, by omega, by have := k1.le; omega⟩
    · obtain ⟨x, hx, hh⟩ := okC_in m o r _ _ k3 i (by omega) h2
      exact ⟨x, by simp [hx], hh⟩
/-- the first and the last place -/
theorem okC_ends (m o : List (List Int)) : ∀ (l : List Seg) (n n' : Nat), okC m o n l n' → l ≠ [] → n' ≤ m.length + o.length ∧ (l.getD 0 default).lo = (allI m.length o.length).getD n 0 ∧ (l.getD (l.length - 1) default).hi = (allI m.length o.length).getD (n' - 1) 0
  | [], n, n', h, hne => absurd rfl hne
  | s :: r, n, n', h, _ => by
    simp only [okC] at h
    obtain ⟨k1, k2, k3⟩ := h
    have hle := k1.le
    have e0 := k2 0 (by omega)
    have e1 := k2 (s.hi - s.lo).toNat (by omega)
    have e2 : n + (s.hi - s.lo + 1).toNat - 1 = n + (s.hi - s.lo).toNat := by omega
    refine ⟨?_, by simp; simp at e0; omega, ?_⟩
    · by_cases hr : r = []
      · subst hr; simp only [okC] at k3; omega
      · exact (okC_ends m o r _ _ k3 hr).1
    · by_cases hr : r = []
      · subst hr; simp only [okC] at k3
        rw [← k3, e2, e1.2]
        show s.hi = _
        omega
      · have := (okC_ends m o r _ _ k3 hr).2.2
        rw [← this]
        have hpos : 0 < r.length := List.length_pos_iff.2 hr
        simp only [List.length_cons, Nat.add_sub_cancel]
        congr 1
        obtain ⟨j, hj⟩ : ∃ j, r.length = j + 1 := ⟨r.length - 1, by omega⟩
        rw [hj]; simp

theorem jpar_mem (lo : Int) : ∀ (q acc : List Int) (p : Int), p ∈ jpar lo acc q ↔ p ∈ acc ∨ (p ∈ q ∧ p < lo)
  | [], acc, p => by simp [jpar]
  | a :: q, acc, p => by
    rw [jpar, jpar_mem lo q]
    split
    · rename_i h
      simp only [List.mem_append, List.mem_cons, List.mem_nil_iff, or_false]
      constructor
      · rintro ((h1 | h1) | h1)
        · exact .inl h1
        · subst h1; exact .inr ⟨.inl rfl, h.1⟩
        · exact .inr ⟨.inr h1.1, h1.2⟩
      · rintro (h1 | ⟨h1 | h1, h2⟩)
        · exact .inl (.inl h1)
        · exact .inl (.inr h1)
        · exact .inr ⟨h1, h2⟩
    · rename_i h
      simp only [List.mem_cons]
      constructor
      · rintro (h1 | h1)
        · exact .inl h1
        · exact .inr ⟨.inr h1.1, h1.2⟩
      · rintro (h1 | ⟨h1 | h1, h2⟩)
        · exact .inl h1
        · subst h1
          by_cases hm : p ∈ acc
          · exact .inl hm
          · exact absurd ⟨h2, hm⟩ h
        · exact .inr ⟨h1, h2⟩
theorem jpar_nodup (lo : Int) : ∀ (q acc : List Int), acc.Nodup → (jpar lo acc q).Nodup
  | [], acc, h => h
  | a :: q, acc, h => by
    rw [jpar]
    refine jpar_nodup lo q _ ?_
    split
    · rename_i h2
      rw [List.nodup_append]
      exact ⟨h, by simp, fun x hx y hy => by simp at hy; subst hy; exact fun e => h2.2 (by rw [← e]; exact hx)⟩
    · exact h
theorem jall_mem' (lo : Int) (p : Int) : ∀ (l : List Seg) (acc : List Int), p ∈ l.foldl (fun acc s => jpar lo acc s.par) acc ↔ p ∈ acc ∨ ∃ s ∈ l, p ∈ s.par ∧ p < lo
  | [], acc => by simp
  | a :: l, acc => by
    rw [List.foldl_cons, jall_mem' lo p l, jpar_mem]
    simp only [List.mem_cons, exists_eq_or_imp]
    constructor
    · rintro ((h | h) | h)
      · exact .inl h
      · exact .inr (.inl h)
      · exact .inr (.inr h)
    · rintro (h | h | h)
      · exact .inl (.inl h)
      · exact .inl (.inr h)
      · exact .inr h
theorem jall_mem (lo : Int) (p : Int) (l : List Seg) : p ∈ jall lo l ↔ ∃ s ∈ l, p ∈ s.par ∧ p < lo := by
  rw [jall, jall_mem']; simp
theorem jall_nodup (lo : Int) : ∀ (l : List Seg) (acc : List Int), acc.Nodup → (l.foldl (fun acc s => jpar lo acc s.par) acc).Nodup
  | [], acc, h => h
  | a :: l, acc, h => jall_nodup lo l _ (jpar_nodup lo _ _ h)
theorem headsN_pos : ∀ (l : List Seg), l ≠ [] → 1 ≤ headsN l
  | [s], _ => by simp [headsN, anyP]
  | s :: x :: r, _ => by
    have := headsN_pos (x :: r) (by simp)
    rw [headsN]; omega
/-- one head: all lead to the last one -/
theorem leads_last (m o : List (List Int)) : ∀ (l : List Seg), (∀ s ∈ l, SegH m o s) → headsN l = 1 → ∀ s ∈ l, Leads m o s.hi (l.getD (l.length - 1) default).hi
  | [], _, h, s, hs => by simp at hs
  | [a], _, h, s, hs => by simp at hs; subst hs; simp; exact Leads.refl _ _ _
  | a :: x :: r, hh, h, s, hs => by
    have hp := headsN_pos (x :: r) (by simp)
    rw [headsN] at h
    have h1 : anyP a.hi (x :: r) = true := by
      by_cases e : anyP a.hi (x :: r) = true
      · exact e
      · rw [if_neg e] at h; omega
    rw [if_pos h1] at h
    have ih := leads_last m o (x :: r) (fun s hs => hh s (by simp at hs ⊢; right; exact hs)) (by omega)
    have el : (a :: x :: r).getD ((a :: x :: r).length - 1) default = (x :: r).getD ((x :: r).length - 1) default := by simp
    rw [el]
    rcases List.mem_cons.1 hs with rfl | hs
    · simp only [anyP, List.any_eq_true, decide_eq_true_eq] at h1
      obtain ⟨y, hy, hm⟩ := h1
      have hy' := hh y (by simp at hy ⊢; right; exact hy)
      obtain ⟨_, id, i1, i2, i3⟩ := hy'.from_ _ hm
      have hs' := hh s (by simp)
      exact ((Leads.par i3 (hs'.has _ hs'.le (Int.le_refl _))).trans (hy'.lead id i1 i2)).trans (ih y hy)
    · exact ih s hs
/-- numbers of one group are one behind the other -/
theorem allI_run {m o i j : Nat} (h : i ≤ j) (hj : j < m + o) (hm : m + o ≤ 1000) (hg : (allI m o).getD i 0 < split ↔ (allI m o).getD j 0 < split) : (allI m o).getD j 0 = (allI m o).getD i 0 + ((j - i : Nat) : Int) := by
  have hs : split = 1099511627776 := rfl
  have e1 := allI_at m o i (by omega)
  have e2 := allI_at m o j hj
  split at e1 <;> split at e2 <;> omega

theorem okC_join {m o : List (List Int)} (hm : m.length + o.length ≤ 1000) {l : List Seg} {n n' : Nat} (h : okC m o n l n') (hne : l ≠ []) (hs : SegsOK l) (hg : (joinI l).lo < split ↔ (joinI l).hi < split) (hh : l.length = 1 ∨ headsN l = 1) : okC m o n [joinI l] n' := by
  obtain ⟨h1, h2, h3⟩ := okC_le m o l n n' h
  obtain ⟨k1, k2, k3⟩ := okC_ends m o l n n' h hne
  have hlt := h2 hne
  have hpos : 0 < l.length := List.length_pos_iff.2 hne
  have elo : (joinI l).lo = (allI m.length o.length).getD n 0 := k2
  have ehi : (joinI l).hi = (allI m.length o.length).getD (n' - 1) 0 := k3
  have hrun := allI_run (m := m.length) (o := o.length) (i := n) (j := n' - 1) (by omega) (by omega) hm (by rw [← elo, ← ehi]; exact hg)
  have hlast : ∀ s ∈ l, Leads m o s.hi (joinI l).hi := by
    rcases hh with hh | hh
    · intro s hs
      have : l = [s] := by
        match l, hh with
        | [a], _ => simp at hs; rw [hs]
      rw [this]
      exact Leads.refl _ _ _
    · exact leads_last m o l h3 hh
  have hin : ∀ id, (joinI l).lo ≤ id → id ≤ (joinI l).hi → ∃ s ∈ l, s.lo ≤ id ∧ id ≤ s.hi := fun id q1 q2 => by
    have hi : (allI m.length o.length).getD (n + (id - (joinI l).lo).toNat) 0 = id := by
      have hb : n + (id - (joinI l).lo).toNat ≤ n' - 1 := by omega
      have hs : split = 1099511627776 := rfl
      have e0 := allI_at m.length o.length n (by omega)
      have e1 := allI_at m.length o.length (n' - 1) (by omega)
      have e2 := allI_at m.length o.length (n + (id - (joinI l).lo).toNat) (by omega)
      split at e0 <;> split at e1 <;> split at e2 <;> omega
    obtain ⟨s, q3, q4⟩ := okC_in m o l n n' h (n + (id - (joinI l).lo).toNat) (by omega) (by omega)
    rw [hi] at q4
    exact ⟨s, q3, q4⟩
  have hb : ∀ s ∈ l, (joinI l).lo ≤ s.lo ∧ s.hi ≤ (joinI l).hi := fun s hs2 => by
    obtain ⟨i, hi⟩ := List.getElem?_of_mem hs2
    have hil := (List.getElem?_eq_some_iff.1 hi).1
    have ei : l.getD i default = s := by simp [List.getD, hi]
    have s0 := (h3 _ (show l.getD 0 default ∈ l by rw [List.getD_eq_getElem?_getD, List.getElem?_eq_getElem hpos]; exact List.getElem_mem hpos)).le
    have sl := (h3 _ (show l.getD (l.length - 1) default ∈ l by rw [List.getD_eq_getElem?_getD, List.getElem?_eq_getElem (by omega)]; exact List.getElem_mem _)).le
    have ss := (h3 s hs2).le
    constructor
    · show (l.getD 0 default).lo ≤ s.lo
      by_cases e : i = 0
      · subst e; rw [ei]; exact Int.le_refl _
      · have := hs.lt (i := 0) (j := i) (by omega) hil
        rw [ei] at this; omega
    · show s.hi ≤ (l.getD (l.length - 1) default).hi
      by_cases e : i = l.length - 1
      · rw [← e, ei]; exact Int.le_refl _
      · have := hs.lt (i := i) (j := l.length - 1) (by omega) (by omega)
        rw [ei] at this; omega
  refine ⟨⟨by omega, fun id q1 q2 => ?_, fun id q1 q2 => ?_, fun id q1 q2 p hp hlt2 => ?_, fun p hp => ?_, jall_nodup _ _ _ (by simp)⟩, fun d hd => ?_, ?_⟩
  · obtain ⟨s, q3, q4, q5⟩ := hin id q1 q2
    exact ((h3 s q3).lead id q4 q5).trans (hlast s q3)
  · obtain ⟨s, q3, q4, q5⟩ := hin id q1 q2
    exact (h3 s q3).has id q4 q5
  · obtain ⟨s, q3, q4, q5⟩ := hin id q1 q2
    refine (jall_mem _ _ _).2 ⟨s, q3, (h3 s q3).all id q4 q5 p hp ?_, hlt2⟩
    have := (hb s q3).1; omega
  · obtain ⟨s, q3, q4, q5⟩ := (jall_mem _ _ _).1 hp
    obtain ⟨_, id, i1, i2, i3⟩ := (h3 s q3).from_ p q4
    have := hb s q3
    exact ⟨q5, id, by omega, by omega, i3⟩
  · have hb : n + d ≤ n' - 1 := by omega
    have hs : split = 1099511627776 := rfl
    have e0 := allI_at m.length o.length n (by omega)
    have e1 := allI_at m.length o.length (n' - 1) (by omega)
    have e2 := allI_at m.length o.length (n + d) (by omega)
    refine ⟨by omega, ?_⟩
    split at e0 <;> split at e1 <;> split at e2 <;> omega
  · show n + ((joinI l).hi - (joinI l).lo + 1).toNat = n'
    omega

theorem UpOK.okC {m o : List (List Int)} (hm : m.length + o.length ≤ 1000) {size : Int} {l u : List Seg} (h : UpOK size l u) : ∀ n n', SegsOK l → okC m o n l n' → okC m o n u n' := by
  induction h with
  | nil => exact fun n n' _ h => h
  | cons l u n0 h1 h2 h3 ih =>
    intro n n' hs hc
    rw [← List.take_append_drop n0 l, okC_append] at hc
    obtain ⟨k, c1, c2⟩ := hc
    have hs' := hs
    rw [← List.take_append_drop n0 l] at hs'
    obtain ⟨sa, sb, _⟩ := hs'.app
    obtain ⟨j1, _, _, _⟩ := join_ok sa h1
    obtain ⟨n1, n2, n3, n4⟩ := h1
    have hlen : (l.take n0).length = n0 := by rw [List.length_take]; omega
    have hne : l.take n0 ≠ [] := fun e => by rw [e] at hlen; simp at hlen; omega
    have := okC_join hm c1 hne sa j1.2.2.2 (by rw [hlen]; exact h2)
    rw [show joinI (l.take n0) :: u = [joinI (l.take n0)] ++ u from rfl, okC_append]
    exact ⟨k, this, ih k n' sb c2⟩

/-- parents are there, smaller, and different -/
theorem okRow_nodup {m o : Nat} {lim most : Int} : ∀ {q seen : List Int}, okRow m o lim most seen q = true → seen.Nodup → (seen ++ q).Nodup
  | [], seen, _, h => by simpa using h
  | a :: r, seen, h, hs => by
    simp only [okRow, Bool.and_eq_true, Bool.not_eq_true', Bool.or_eq_false_iff, decide_eq_false_iff_not] at h
    have := okRow_nodup h.2 (by rw [List.nodup_append]; exact ⟨hs, by simp, fun x hx y hy => by simp at hy; subst hy; exact fun e => h.1.2 (by rw [← e]; exact hx)⟩)
    simpa using this
theorem okG_at {m o : Nat} {most : Int} : ∀ {l : List (List Int)} {frm : Int}, okG m o most frm l = true → ∀ k, k < l.length → (∀ p ∈ l.getD k [], p < frm + k ∧ hasI m o p = true) ∧ (l.getD k []).Nodup
  | [], _, _, k, hk => by simp at hk
  | a :: l, frm, h, 0, hk => by
    simp only [okG, Bool.and_eq_true] at h
    refine ⟨fun p hp => ?_, ?_⟩
    · have := okRow_at h.1.1 p (by simpa using hp)
      exact ⟨by simp; omega, this.2.2⟩
    · have := okRow_nodup h.1.1 (by simp)
      simpa using this
  | a :: l, frm, h, k + 1, hk => by
    simp only [okG, Bool.and_eq_true] at h
    have := okG_at h.2 k (by simpa using hk)
    simp only [List.getD_cons_succ]
    refine ⟨fun p hp => ?_, this.2⟩
    have := this.1 p hp
    exact ⟨by omega, this.2⟩
theorem parI_props {m o : List (List Int)} (hm : m.length + o.length ≤ 1000) (hr : rightI m o = true) (id : Int) : (∀ p ∈ parI m o id, p < id ∧ hasI m.length o.length p = true) ∧ (parI m o id).Nodup := by
  rw [rightI, Bool.and_eq_true] at hr
  unfold parI
  split
  · rename_i h
    have := okG_at hr.1 id.toNat (by omega)
    refine ⟨fun p hp => ?_, this.2⟩
    have := this.1 p hp
    exact ⟨by omega, this.2⟩
  · split
    · rename_i h
      have := okG_at hr.2 (id - split).toNat (by omega)
      refine ⟨fun p hp => ?_, this.2⟩
      have := this.1 p hp
      exact ⟨by omega, this.2⟩
    · simp
theorem okS_C {m o : List (List Int)} (hm : m.length + o.length ≤ 1000) (hr : rightI m o = true) : ∀ (l : List Seg) (n : Nat), okS m o n l → okC m o n l (m.length + o.length)
  | [], n, h => by simp only [okS] at h; exact h
  | s :: r, n, h => by
    simp only [okS] at h
    obtain ⟨⟨h1, h2, h3⟩, h4, h5, h6, h7, h8⟩ := h
    have inA : ∀ id, s.lo ≤ id → id ≤ s.hi → hasI m.length o.length id = true := fun id q1 q2 => by
      obtain ⟨a, b, _⟩ := h4 (id - s.lo).toNat (by omega)
      rw [← allI_hasI, show id = s.lo + ((id - s.lo).toNat : Int) by omega, ← b, List.getD_eq_getElem?_getD, List.getElem?_eq_getElem (by rw [allI_len]; exact a)]
      exact List.getElem_mem _
    have lead : ∀ k : Nat, s.lo + k ≤ s.hi → Leads m o (s.hi - k) s.hi := by
      intro k
      induction k with
      | zero => intro _; simp; exact Leads.refl _ _ _
      | succ k ih =>
        intro hk
        refine Leads.trans ?_ (ih (by omega))
        obtain ⟨_, _, c⟩ := h4 (s.hi - (k : Int) - s.lo).toNat (by omega)
        have c := c (by omega)
        rw [show s.lo + ((s.hi - (k : Int) - s.lo).toNat : Int) = s.hi - k by omega] at c
        refine Leads.par ?_ (inA _ (by omega) (by omega))
        rw [c]; simp; omega
    refine ⟨⟨h2, fun id q1 q2 => ?_, inA, fun id q1 q2 p hp hlt => ?_, fun p hp => ?_, ?_⟩, fun d hd => ⟨(h4 d hd).1, (h4 d hd).2.1⟩, okS_C hm hr r _ h8⟩
    · have := lead (s.hi - id).toNat (by omega)
      rwa [show s.hi - ((s.hi - id).toNat : Int) = id by omega] at this
    · by_cases e : id = s.lo
      · rw [e, h5] at hp; exact hp
      · obtain ⟨_, _, c⟩ := h4 (id - s.lo).toNat (by omega)
        have c := c (by omega)
        rw [show s.lo + ((id - s.lo).toNat : Int) = id by omega] at c
        rw [c] at hp; simp at hp; omega
    · rw [← h5] at hp
      exact ⟨((parI_props hm hr s.lo).1 p hp).1, s.lo, Int.le_refl _, h2, hp⟩
    · rw [← h5]; exact (parI_props hm hr s.lo).2

/-- a group's segments are one behind the other -/
theorem okS_segs {m o : List (List Int)} (hm : m.length + o.length ≤ 1000) : ∀ (l : List Seg) (n : Nat), okS m o n l → SegsOK l ∧ ∀ s ∈ l, (allI m.length o.length).getD n 0 ≤ s.lo
  | [], n, h => ⟨⟨by simp [spansOf], by simp [spansOf]⟩, by simp⟩
  | s :: r, n, h => by
    simp only [okS] at h
    obtain ⟨⟨h1, h2, h3⟩, h4, h5, h6, h7, h8⟩ := h
    obtain ⟨i1, i2⟩ := okS_segs hm r _ h8
    have hs : split = 1099511627776 := rfl
    obtain ⟨a0, b0, _⟩ := h4 0 (by omega)
    obtain ⟨a1, b1, _⟩ := h4 (s.hi - s.lo).toNat (by omega)
    have e0 := allI_at m.length o.length (n + 0) a0
    have e1 := allI_at m.length o.length (n + (s.hi - s.lo).toNat) a1
    have key : ∀ x ∈ r, s.hi < x.lo := fun x hx => by
      have := i2 x hx
      by_cases e : n + (s.hi - s.lo + 1).toNat < m.length + o.length
      · have e2 := allI_at m.length o.length (n + (s.hi - s.lo + 1).toNat) e
        split at e1 <;> split at e2 <;> omega
      · exfalso
        match r, h8, hx with
        | y :: r', h8, _ =>
          simp only [okS] at h8
          obtain ⟨⟨_, y2, _⟩, y4, _⟩ := h8
          have := (y4 0 (by omega)).1
          omega
    have okp : okP (s.lo, s.hi) := by
      unfold okP
      simp only
      split at e0 <;> split at e1 <;> omega
    refine ⟨⟨fun p hp => ?_, ?_⟩, fun x hx => ?_⟩
    · simp only [spansOf, List.map_cons, List.mem_cons] at hp
      rcases hp with rfl | hp
      · exact okp
      · exact i1.1 p hp
    · simp only [spansOf, List.map_cons, List.pairwise_cons]
      refine ⟨fun p hp => ?_, i1.2⟩
      obtain ⟨x, hx, rfl⟩ := List.mem_map.1 hp
      exact key x hx
    · rcases List.mem_cons.1 hx with rfl | hx
      · simp at b0; simp; omega
      · have := key x hx
        simp at b0
        have : (allI m.length o.length).getD n 0 = s.lo := by simpa using b0
        omega
end Gv.Try
/- The plain law of heads: kept by a map, counted by ancestors. -/
set_option linter.unusedVariables false
set_option linter.unusedSimpArgs false
namespace Gv.Try
open Go Gv Go.Proofs

theorem hdel_nodup : ∀ (q l : List Int), l.Nodup → (hdel l q).Nodup ∧ ∀ x, x ∈ hdel l q ↔ x ∈ l ∧ x ∉ q
  | [], l, h => ⟨h, fun x => by simp [hdel]⟩
  | p :: q, l, h => by
    obtain ⟨h1, h2⟩ := hdel_nodup q (l.erase p) (h.erase p)
    refine ⟨h1, fun x => ?_⟩
    show x ∈ hdel (l.erase p) q ↔ _
    rw [h2, h.mem_erase_iff]
    simp only [List.mem_cons, not_or]
    constructor
    · rintro ⟨⟨a, b⟩, c⟩; exact ⟨b, a, c⟩
    · rintro ⟨a, b, c⟩; exact ⟨⟨b, a⟩, c⟩
/-- the heads that are kept are those without a child -/
theorem lrun_hs (frm : Int) (l : List (List Int)) : ∀ k, (lrun frm l k).hs.Nodup ∧ ∀ x, x ∈ (lrun frm l k).hs ↔ ∃ j : Nat, j < k ∧ x = frm + j ∧ ∀ c : Nat, j < c → c < k → x ∉ l.getD c []
  | 0 => by simp [lrun]
  | k + 1 => by
    obtain ⟨i1, i2⟩ := lrun_hs frm l k
    have hlt := (lrun_heads frm l k).1
    have hh : (lrun frm l (k + 1)).hs = hins (hdel (lrun frm l k).hs (l.getD k [])) (frm + k) := by
      rw [lrun]; unfold lstep; simp only; split <;> rfl
    obtain ⟨d1, d2⟩ := hdel_nodup (l.getD k []) _ i1
    have hn : frm + (k : Int) ∉ hdel (lrun frm l k).hs (l.getD k []) := fun h => by
      have := hlt _ ((d2 _).1 h).1; omega
    rw [hh, hins, if_neg hn]
    refine ⟨?_, fun x => ?_⟩
    · rw [List.nodup_append]
      exact ⟨d1, by simp, fun a ha b hb => by simp at hb; subst hb; exact fun e => hn (by rw [← e]; exact ha)⟩
    · rw [List.mem_append, d2, i2]
      simp only [List.mem_singleton]
      constructor
      · rintro (⟨⟨j, h1, h2, h3⟩, h4⟩ | h)
        · refine ⟨j, by omega, h2, fun c hc1 hc2 => ?_⟩
          by_cases e : c = k
          · subst e; exact h4
          · exact h3 c hc1 (by omega)
        · exact ⟨k, by omega, h, fun c hc1 hc2 => by omega⟩
      · rintro ⟨j, h1, h2, h3⟩
        by_cases e : j = k
        · subst e; exact .inr h2
        · exact .inl ⟨⟨j, by omega, h2, fun c hc1 hc2 => h3 c hc1 (by omega)⟩, h3 k (by omega) (by omega)⟩
/-- one head alone: each one ahead has a child -/
theorem one_head (frm : Int) (l : List (List Int)) (k : Nat) : (lrun frm l (k + 1)).hs.length = 1 ↔ ∀ j : Nat, j < k → ∃ c : Nat, j < c ∧ c ≤ k ∧ frm + (j : Int) ∈ l.getD c [] := by
  obtain ⟨i1, i2⟩ := lrun_hs frm l (k + 1)
  have hk : frm + (k : Int) ∈ (lrun frm l (k + 1)).hs := (i2 _).2 ⟨k, by omega, rfl, fun c h1 h2 => by omega⟩
  constructor
  · intro h j hj
    apply Classical.byContradiction
    intro hno
    have hj2 : frm + (j : Int) ∈ (lrun frm l (k + 1)).hs := (i2 _).2 ⟨j, by omega, rfl, fun c h1 h2 h3 => hno ⟨c, h1, by omega, h3⟩⟩
    match hhs : (lrun frm l (k + 1)).hs, h with
    | [a], _ =>
      rw [hhs] at hk hj2
      simp at hk hj2
      omega
  · intro h
    have all : ∀ x ∈ (lrun frm l (k + 1)).hs, x = frm + k := fun x hx => by
      obtain ⟨j, h1, h2, h3⟩ := (i2 x).1 hx
      by_cases e : j = k
      · rw [h2, e]
      · obtain ⟨c, c1, c2, c3⟩ := h j (by omega)
        exact absurd (h2 ▸ c3) (h3 c c1 (by omega))
    have := nodup_len (lrun frm l (k + 1)).hs [frm + k] i1 (fun x hx => by rw [all x hx]; simp)
    have h2 := List.length_pos_of_mem hk
    simp at this; omega

/-- a segment's head, told at its last ID -/
theorem lrun_head (frm : Int) (l : List (List Int)) : ∀ k, ∀ s ∈ (lrun frm l k).out, ∃ j : Nat, j < k ∧ s.hi = frm + j ∧ s.head = decide ((lrun frm l (j + 1)).hs.length = 1)
  | 0, s, hs => by simp [lrun] at hs
  | k + 1, s, hs => by
    have ih := lrun_head frm l k
    have hh : (lrun frm l (k + 1)).hs = hins (hdel (lrun frm l k).hs (l.getD k [])) (frm + k) := by
      rw [lrun]; unfold lstep; simp only; split <;> rfl
    have hne := (lrun_len frm l k).2
    rw [lrun] at hs
    unfold lstep at hs
    simp only at hs
    split at hs
    · rename_i h
      obtain ⟨e1, e2⟩ := set_last (lrun frm l k).out (hne (by omega)) default { (lrun frm l k).out.getD ((lrun frm l k).out.length - 1) default with hi := frm + k, head := decide ((hins (hdel (lrun frm l k).hs (l.getD k [])) (frm + k)).length = 1) }
      rw [e2, List.mem_append] at hs
      rcases hs with hs | hs
      · obtain ⟨j, h1, h2, h3⟩ := ih s (by rw [e1]; exact List.mem_append_left _ hs)
        exact ⟨j, by omega, h2, h3⟩
      · rw [List.mem_singleton] at hs; subst hs
        exact ⟨k, by omega, rfl, by rw [hh]⟩
    · rw [List.mem_append] at hs
      rcases hs with hs | hs
      · obtain ⟨j, h1, h2, h3⟩ := ih s hs
        exact ⟨j, by omega, h2, h3⟩
      · rw [List.mem_singleton] at hs; subst hs
        exact ⟨k, by omega, rfl, by rw [hh]⟩

/-- how many of a set are in a stretch: all of them, or not -/
theorem count_all (A l : List Int) (hA : A.Nodup) (hl : l.Nodup) (hin : ∀ x ∈ l, x ∈ A) : l.length = A.length ↔ ∀ x ∈ A, x ∈ l := by
  constructor
  · intro h x hx
    apply Classical.byContradiction
    intro hn
    have := nodup_len l (A.erase x) hl fun y hy => (List.mem_erase_of_ne (fun e => hn (by rw [← e]; exact hy))).2 (hin y hy)
    rw [List.length_erase_of_mem hx] at this
    have := List.length_pos_of_mem hx
    omega
  · intro h
    have h1 := nodup_len l A hl hin
    have h2 := nodup_len A l hA h
    omega
theorem ups_nodup (a : Int) : ∀ k, (ups a k).Nodup
  | 0 => by simp [ups]
  | k + 1 => by
    rw [ups_succ, List.nodup_append]
    exact ⟨ups_nodup a k, by simp, fun x hx y hy => by simp at hy; subst hy; have := (ups_mem a k x).1 hx; omega⟩

/-- heads by ancestors: for one group's rows -/
theorem count_head {m o : List (List Int)} (hm : m.length + o.length ≤ 1000) (hr : rightI m o = true) (frm : Int) (L : List (List Int)) (hg : (frm = 0 ∧ L = m) ∨ (frm = split ∧ L = o)) {j : Nat} (hj : j < L.length) {l : List Int} (hu : UpSet m o [frm + j] l) :
    (l.filter (fun x => decide (frm ≤ x))).length = j + 1 ↔ (lrun frm L (j + 1)).hs.length = 1 := by
  have hs : split = 1099511627776 := rfl
  have hl5 : L.length ≤ 1000 := by rcases hg with ⟨_, rfl⟩ | ⟨_, rfl⟩ <;> omega
  have hrow : ∀ c : Nat, c < L.length → parI m o (frm + c) = L.getD c [] := fun c hc => by
    rcases hg with ⟨rfl, rfl⟩ | ⟨rfl, rfl⟩
    · rw [parI_m _ _ _ (by omega) (by omega)]; congr 1; omega
    · rw [parI_o _ _ _ (by omega) (by omega) (by omega)]; congr 1; omega
  have hlt := fun x p hp => (parI_props hm hr x).1 p hp
  have hhas : ∀ c : Nat, c < L.length → hasI m.length o.length (frm + c) = true := fun c hc => by
    rw [hasI, decide_eq_true_iff]
    rcases hg with ⟨rfl, rfl⟩ | ⟨rfl, rfl⟩ <;> omega
  have hfrm : 0 ≤ frm := by rcases hg with ⟨rfl, _⟩ | ⟨rfl, _⟩ <;> omega
  -- all are at most the start
  have hle : ∀ x ∈ l, x ≤ frm + j := fun x hx => hu.least (fun x => x ≤ frm + j) (fun x hx => by simp at hx; omega) (fun x hx p hp => by have := (hlt x p hp).1; show p ≤ _; have hx : x ≤ frm + j := hx; omega) x (.inl hx)
  have hA : (ups frm (j + 1)).length = j + 1 := ups_length _ _
  have hnd : (l.filter (fun x => decide (frm ≤ x))).Nodup := hu.nodup.filter _
  have hca := count_all (ups frm (j + 1)) (l.filter (fun x => decide (frm ≤ x))) (ups_nodup _ _) hnd (fun x hx => by
    rw [List.mem_filter, decide_eq_true_iff] at hx
    rw [ups_mem]; have := hle x hx.1; omega)
  rw [hA] at hca
  rw [hca, one_head]
  constructor
  · intro h i hi
    apply Classical.byContradiction
    intro hno
    have hmem : frm + (i : Int) ∈ l := by
      have := h (frm + i) ((ups_mem _ _ _).2 (by omega))
      rw [List.mem_filter] at this; exact this.1
    have := hu.least (fun x => x ≤ frm + j ∧ x ≠ frm + i) (fun x hx => by simp at hx; subst hx; exact ⟨by omega, by omega⟩) (fun x hx p hp => by
      obtain ⟨h1, h2⟩ := hx
      have hpx := (hlt x p hp).1
      refine ⟨by omega, fun e => ?_⟩
      subst e
      have hc : ∃ c : Nat, x = frm + c := ⟨(x - frm).toNat, by omega⟩
      obtain ⟨c, rfl⟩ := hc
      rw [hrow c (by omega)] at hp
      exact hno ⟨c, by omega, by omega, hp⟩) (frm + i) (.inl hmem)
    exact this.2 rfl
  · intro h
    have key : ∀ d : Nat, d ≤ j → frm + ((j - d : Nat) : Int) ∈ l := by
      intro d
      induction d using Nat.strongRecOn with
      | ind d ih =>
        intro hd
        by_cases e : d = 0
        · subst e
          rcases hu.start (frm + j) (by simp) (hhas j hj) with h | h
          · simpa using h
          · simp at h
        · obtain ⟨c, c1, c2, c3⟩ := h (j - d) (by omega)
          have hc := ih (j - c) (by omega) (by omega)
          rw [show j - (j - c) = c by omega] at hc
          rw [← hrow c (by omega)] at c3
          rcases hu.step _ hc _ c3 (hhas (j - d) (by omega)) with h | h
          · exact h
          · simp at h
    intro x hx
    rw [ups_mem] at hx
    rw [List.mem_filter, decide_eq_true_iff]
    have := key (frm + j - x).toNat (by omega)
    rw [show frm + ((j - (frm + j - x).toNat : Nat) : Int) = x by omega] at this
    exact ⟨this, hx.1⟩

end Gv.Try
/- The plain law of the document's segments. -/
set_option linter.unusedVariables false
set_option linter.unusedSimpArgs false
namespace Gv.Try
open Go Gv Go.Proofs

def strip (s : Seg) : Seg := { s with head := false }
def stripL (l : List Seg) : List Seg := l.map strip
theorem stripL_append (a b : List Seg) : stripL (a ++ b) = stripL a ++ stripL b := by simp [stripL]
theorem stripL_length (l : List Seg) : (stripL l).length = l.length := by simp [stripL]
theorem stripL_at (l : List Seg) (i : Nat) : (stripL l).getD i default = strip (l.getD i default) := by
  simp only [stripL, List.getD_eq_getElem?_getD, List.getElem?_map]
  cases l[i]? <;> rfl
theorem stripL_set (l : List Seg) (i : Nat) (s : Seg) : (stripL l).set i (strip s) = stripL (l.set i s) := by simp [stripL, List.map_set]
theorem chain_last {frm : Int} {l : List (List Int)} {x : List Seg} {a b : Int} (h : chain frm l a x b) (hne : x ≠ []) : (x.getD (x.length - 1) default).hi + 1 = b := by
  obtain ⟨e1, _⟩ := set_last x hne default default
  rw [e1, chain_append] at h
  obtain ⟨c, _, h2⟩ := h
  simp only [chain] at h2
  exact h2.2.2.2.2.2.2
theorem chain_in {frm : Int} {l : List (List Int)} : ∀ {x : List Seg} {a b : Int}, chain frm l a x b → ∀ s ∈ x, a ≤ s.lo ∧ s.lo ≤ s.hi ∧ s.hi < b
  | [], a, b, h, s, hs => by simp at hs
  | y :: x, a, b, h, s, hs => by
    simp only [chain] at h
    obtain ⟨h1, h2, _, _, _, _, h7⟩ := h
    have := chain_le _ _ _ _ _ h7
    rcases List.mem_cons.1 hs with rfl | hs
    · omega
    · have := chain_in h7 s hs; omega
/-- the document's segments of the first IDs, heads not yet told -/
def refL (m o : List (List Int)) (k : Nat) : List Seg := if k ≤ m.length then stripL (lrun 0 m k).out else stripL (linesI 0 m) ++ stripL (lrun split o (k - m.length)).out
/-- one row more, heads aside -/
theorem lstep_strip (frm : Int) (l : List (List Int)) (k : Nat) (P : List Seg) (hP : k = 0 → P = [] ∨ (P.getD (P.length - 1) default).hi ≠ frm - 1) :
    let out := P ++ stripL (lrun frm l k).out
    let id := frm + (k : Int)
    let p := l.getD k []
    ((out ≠ [] ∧ (out.getD (out.length - 1) default).hi = id - 1 ∧ p.length = 1 ∧ p.getD 0 0 = id - 1) → P ++ stripL (lrun frm l (k + 1)).out = out.set (out.length - 1) { out.getD (out.length - 1) default with hi := id }) ∧
    (¬ (out ≠ [] ∧ (out.getD (out.length - 1) default).hi = id - 1 ∧ p.length = 1 ∧ p.getD 0 0 = id - 1) → P ++ stripL (lrun frm l (k + 1)).out = out ++ [⟨id, id, p, decide (p.length = 0), false⟩]) := by
  intro out id p
  have hch := lrun_chain frm l k
  have hne := (lrun_len frm l k).2
  have hrun : (lrun frm l (k + 1)) = lstep frm (lrun frm l k) k (l.getD k []) := rfl
  rw [hrun]
  by_cases hk : k = 0
  · subst hk
    have e0 : (lrun frm l 0).out = [] := rfl
    have eo : out = P := by show P ++ stripL (lrun frm l 0).out = P; rw [e0]; simp [stripL]
    have el : stripL (lstep frm (lrun frm l 0) 0 (l.getD 0 [])).out = [⟨id, id, p, decide (p.length = 0), false⟩] := by
      unfold lstep; simp only [Nat.lt_irrefl, false_and, if_false]; rw [e0]; rfl
    rw [el, eo]
    refine ⟨fun ⟨h1, h2, _⟩ => ?_, fun _ => rfl⟩
    rcases hP rfl with h | h
    · exact absurd h h1
    · exact absurd (by rw [h2]; show frm + ((0 : Nat) : Int) - 1 = frm - 1; omega) h
  · have hno := hne hk
    have hlast := chain_last hch hno
    obtain ⟨e1, e2⟩ := set_last (lrun frm l k).out hno default default
    have hpos : 0 < (lrun frm l k).out.length := List.length_pos_iff.2 hno
    have hout : out ≠ [] := fun e => by
      have := congrArg List.length e
      simp only [out, List.length_append, stripL_length, List.length_nil] at this; omega
    have hlen : out.length - 1 = P.length + ((lrun frm l k).out.length - 1) := by
      simp only [out, List.length_append, stripL_length]; omega
    have hat : out.getD (out.length - 1) default = strip ((lrun frm l k).out.getD ((lrun frm l k).out.length - 1) default) := by
      rw [hlen, ← stripL_at]
      show (P ++ stripL (lrun frm l k).out).getD _ default = _
      simp only [List.getD_eq_getElem?_getD]
      rw [List.getElem?_append_right (by omega)]; congr 2; omega
    have hhi : (out.getD (out.length - 1) default).hi = id - 1 := by
      rw [hat]
      show ((lrun frm l k).out.getD ((lrun frm l k).out.length - 1) default).hi = frm + (k : Int) - 1
      omega
    unfold lstep
    simp only
    refine ⟨fun ⟨_, _, h3, h4⟩ => ?_, fun h => ?_⟩
    · rw [if_pos ⟨by omega, h3, h4⟩, hat, hlen]
      show _ = (P ++ stripL (lrun frm l k).out).set _ _
      rw [List.set_append_right _ _ (by omega), show P.length + ((lrun frm l k).out.length - 1) - P.length = (lrun frm l k).out.length - 1 by omega]
      congr 1
      rw [← stripL_set]; rfl
    · rw [if_neg (fun h2 => h ⟨hout, hhi, h2.2.1, h2.2.2⟩), stripL_append, ← List.append_assoc]
      rfl
theorem refL_step {m o : List (List Int)} (hm : m.length + o.length ≤ 1000) {k : Nat} (hk : k < m.length + o.length) {out : List Seg} (ho : out = refL m o k) {id : Int} (hid : id = (allI m.length o.length).getD k 0) {p : List Int} (hp : p = parI m o id) :
    ((out ≠ [] ∧ (out.getD (out.length - 1) default).hi = id - 1 ∧ p.length = 1 ∧ p.getD 0 0 = id - 1) → refL m o (k + 1) = out.set (out.length - 1) { out.getD (out.length - 1) default with hi := id }) ∧
    (¬ (out ≠ [] ∧ (out.getD (out.length - 1) default).hi = id - 1 ∧ p.length = 1 ∧ p.getD 0 0 = id - 1) → refL m o (k + 1) = out ++ [⟨id, id, p, decide (p.length = 0), false⟩]) := by
  have hs : split = 1099511627776 := rfl
  have eid := allI_at m.length o.length k hk
  rw [← hid] at eid
  subst ho
  by_cases hkm : k < m.length
  · rw [if_pos hkm] at eid
    have e1 : refL m o k = [] ++ stripL (lrun 0 m k).out := by rw [refL, if_pos (by omega)]; rfl
    have e2 : refL m o (k + 1) = [] ++ stripL (lrun 0 m (k + 1)).out := by rw [refL, if_pos (by omega)]; rfl
    have e3 : p = m.getD k [] := by rw [hp, eid, parI_m _ _ _ (by omega) (by omega)]; congr 1
    have := lstep_strip 0 m k [] (fun _ => .inl rfl)
    rw [Int.zero_add] at this
    rw [e1, e2, e3, eid]
    exact this
  · rw [if_neg hkm] at eid
    have e1 : refL m o k = stripL (linesI 0 m) ++ stripL (lrun split o (k - m.length)).out := by
      rw [refL]
      split
      · have : k = m.length := by omega
        rw [this, Nat.sub_self]; simp [linesI, lrun, stripL]
      · rfl
    have e2 : refL m o (k + 1) = stripL (linesI 0 m) ++ stripL (lrun split o (k - m.length + 1)).out := by
      rw [refL, if_neg (by omega), show k + 1 - m.length = k - m.length + 1 by omega]
    have e3 : p = o.getD (k - m.length) [] := by rw [hp, eid, parI_o _ _ _ (by omega) (by omega) (by omega)]; congr 1; omega
    have := lstep_strip split o (k - m.length) (stripL (linesI 0 m)) (fun h0 => by
      by_cases hm0 : linesI 0 m = []
      · left; rw [hm0]; rfl
      · right
        have hc := chain_last (lrun_chain 0 m m.length) hm0
        rw [stripL_length, stripL_at]
        show ((linesI 0 m).getD ((linesI 0 m).length - 1) default).hi ≠ split - 1
        have hc' : ((linesI 0 m).getD ((linesI 0 m).length - 1) default).hi + 1 = 0 + (m.length : Int) := hc
        omega)
    rw [e1, e2, e3, eid]
    exact this
theorem refL_end {m o : List (List Int)} (hr : rightI m o = true) : refL m o (m.length + o.length) = stripL (buildI m o) := by
  rw [buildI, if_pos hr, stripL_append, refL]
  split
  · have h : o.length = 0 := by omega
    have : o = [] := List.length_eq_zero_iff.1 h
    subst this; simp [linesI, lrun, stripL]
  · rw [show m.length + o.length - m.length = o.length by omega]; rfl
/-- a segment's head is what its ancestors tell -/
theorem head_told {m o : List (List Int)} (hm : m.length + o.length ≤ 1000) (hr : rightI m o = true) {s : Seg} (hs : s ∈ buildI m o) {first : Int} (hf : first = if split ≤ s.lo then split else 0) {l : List Int} (hu : UpSet m o [s.hi] l) :
    s.head = decide (((l.filter (fun x => decide (first ≤ x))).length : Int) = s.hi - first + 1) := by
  have hsp : split = 1099511627776 := rfl
  rw [buildI, if_pos hr, List.mem_append] at hs
  have key : ∀ (frm : Int) (L : List (List Int)), ((frm = 0 ∧ L = m) ∨ (frm = split ∧ L = o)) → s ∈ linesI frm L → first = frm → s.head = decide (((l.filter (fun x => decide (first ≤ x))).length : Int) = s.hi - first + 1) := by
    intro frm L hg hs hff
    obtain ⟨j, h1, h2, h3⟩ := lrun_head frm L L.length s hs
    rw [h2] at hu
    have := count_head hm hr frm L hg h1 hu
    rw [h3, hff, h2, Bool.eq_iff_iff, decide_eq_true_iff, decide_eq_true_iff, ← this]
    omega
  rcases hs with hs | hs
  · have := chain_in (lrun_chain 0 m m.length) s hs
    exact key 0 m (.inl ⟨rfl, rfl⟩) hs (by rw [hf, if_neg (by omega)])
  · have := chain_in (lrun_chain split o o.length) s hs
    exact key split o (.inr ⟨rfl, rfl⟩) hs (by rw [hf, if_pos (by omega)])
end Gv.Try
/- Contract: the document's segments are the program's. -/
set_option linter.unusedVariables false
set_option linter.unusedSimpArgs false
set_option maxRecDepth 20000
set_option maxHeartbeats 8000000
namespace Gv.Try
open Go Gv Go.Proofs

def mixL (T : List Seg) (i : Nat) : List Seg := T.take i ++ (stripL T).drop i
theorem mix_length (T : List Seg) (i : Nat) (h : i ≤ T.length) : (mixL T i).length = T.length := by
  rw [mixL, List.length_append, List.length_take, List.length_drop, stripL_length]; omega
theorem mix_at (T : List Seg) (i : Nat) (h : i < T.length) : (mixL T i).getD i default = strip (T.getD i default) := by
  rw [← stripL_at, mixL]
  have hl : (T.take i).length = i := by rw [List.length_take]; omega
  simp only [List.getD_eq_getElem?_getD]
  rw [List.getElem?_append_right (by omega), hl, List.getElem?_drop]; simp
theorem mix_set (T : List Seg) (i : Nat) (h : i < T.length) : (mixL T i).set i (T.getD i default) = mixL T (i + 1) := by
  have hl : (T.take i).length = i := by rw [List.length_take]; omega
  rw [mixL, mixL, List.set_append_right _ _ (by omega), hl, Nat.sub_self]
  have hd : (stripL T).drop i = (stripL T).getD i default :: (stripL T).drop (i + 1) := by
    have h' : i < (stripL T).length := by rw [stripL_length]; exact h
    rw [List.drop_eq_getElem_cons h']; simp [List.getD, h']
  rw [hd, List.set_cons_zero, take_succ' T i h, List.append_assoc]; rfl
theorem mix_zero (T : List Seg) : mixL T 0 = stripL T := by simp [mixL]
theorem mix_end (T : List Seg) : mixL T T.length = T := by
  rw [mixL, List.take_length, List.drop_eq_nil_of_le (by rw [stripL_length]; exact Nat.le_refl _), List.append_nil]
theorem filt_take (l : List Int) (f : Int → Bool) (j : Nat) (h : j < l.length) : ((l.take (j + 1)).filter f).length = ((l.take j).filter f).length + (if f (l.getD j 0) = true then 1 else 0) := by
  rw [List.take_add_one, List.filter_append, List.length_append, List.getElem?_eq_getElem h]
  have : l.getD j 0 = l[j] := by simp [List.getD, h]
  rw [this]
  simp only [Option.toList, List.filter_cons, List.filter_nil]
  split <;> rfl

theorem spec24 (m o : List (List Int)) (hm : m.length + o.length ≤ 1000) (hr : rightI m o = true) (hrow : ∀ x, (parI m o x).length ≤ 4) (hseg : ∀ s ∈ buildI m o, 0 ≤ s.lo ∧ s.lo ≤ s.hi ∧ s.hi ≤ split + 1000) :
    GPure Try.prog 24 [.agg [.slice (tabG m) .none, .slice (tabG o) .none]] (.slice (segsG (buildI m o)) .none) := by
  have hA : (allI m.length o.length).length = m.length + o.length := allI_len _ _
  refine h24.pureF mixS (by simp) ?_
  simp only [gstart, s24, List.cons_append, List.nil_append, List.length_cons, List.length_nil, Nat.reduceAdd, Nat.reduceSub, List.replicate_succ, List.replicate_zero]
  simp +contextual -implicitDefEqProofs (maxSteps := 2000000) (disch := omega) only [drawC, ↓lenV, binV, optV, ↓loadV, ↓storeV, ↓fieldAddrV, ↓indexAddrV, ↓boxV, ↓buildV, ↓buildSliceV, ↓sliceV, ↓appendV, ↓srcV, bound, cutTag, hiTag, fillG, fillE, place, GVal.cells, grp, GVal.ofConst, ↓resV, resG, List.map, List.headD, List.take, List.drop, ↓reduceIte, Nat.reduceEqDiff, Nat.reduceAdd, Nat.reduceSub, Nat.reduceLeDiff, reduceCtorEq, implies_true, ne_eq, ↓asrcV, aggV, Tag.cap, List.replicate, allSolid, GVal.solid, Nat.reduceBEq, Nat.reduceMul, Nat.reduceLT, List.length_map, List.length_range, splice, vcA, ↓vcB, vcC, fbA, e24]
  refine (spec14 m o .none .none (by omega) (by omega)).then ?_
  simp +contextual -implicitDefEqProofs (maxSteps := 2000000) (disch := omega) only [drawC, ↓lenV, binV, optV, ↓loadV, ↓storeV, ↓fieldAddrV, ↓indexAddrV, ↓boxV, ↓buildV, ↓buildSliceV, ↓sliceV, ↓appendV, ↓srcV, bound, cutTag, hiTag, fillG, fillE, place, GVal.cells, grp, GVal.ofConst, ↓resV, resG, List.map, List.headD, List.take, List.drop, ↓reduceIte, Nat.reduceEqDiff, Nat.reduceAdd, Nat.reduceSub, Nat.reduceLeDiff, reduceCtorEq, implies_true, ne_eq, ↓asrcV, aggV, Tag.cap, List.replicate, allSolid, GVal.solid, Nat.reduceBEq, Nat.reduceMul, Nat.reduceLT, List.length_map, List.length_range, splice, vcA, ↓vcB, vcC, fbA, e24]
  refine vcSLoop_by (ι := { p : Nat × Nat // p.1 ≤ m.length + o.length ∧ (refL m o p.1).length ≤ p.1 }) (fun p => ⟨[.any, .ref [.slice (tabG m) .none, .slice (tabG o) .none], .any, .own 0 p.1.2 0 (refL m o p.1.1).length, .slice (ints (allI m.length o.length)) .none, .int .i64 (p.1.1 : Nat)] ++ List.replicate 135 .any, [.row p.1.2 5 (segsG (refL m o p.1.1))]⟩) (fun p => m.length + o.length - p.1.1) ?_ ?_
  · refine Into.row 3 5 rfl rfl ?_
    simp +contextual -implicitDefEqProofs (maxSteps := 2000000) (disch := omega) only [drawC, ↓lenV, binV, optV, ↓loadV, ↓storeV, ↓fieldAddrV, ↓indexAddrV, ↓boxV, ↓buildV, ↓buildSliceV, ↓sliceV, ↓appendV, ↓srcV, bound, cutTag, hiTag, fillG, fillE, place, GVal.cells, grp, GVal.ofConst, ↓resV, resG, List.map, List.headD, List.take, List.drop, ↓reduceIte, Nat.reduceEqDiff, Nat.reduceAdd, Nat.reduceSub, Nat.reduceLeDiff, reduceCtorEq, implies_true, ne_eq, ↓asrcV, aggV, Tag.cap, List.replicate, allSolid, GVal.solid, Nat.reduceBEq, Nat.reduceMul, Nat.reduceLT, List.length_map, List.length_range, splice, vcA, ↓vcB, vcC, fbA, e24]
    intro t
    have e0 : refL m o 0 = [] := by rw [refL, if_pos (by omega)]; rfl
    exact Into.first ⟨(0, t), by omega, by rw [e0]; simp⟩ ⟨[], by simp [e0, segsG]⟩ (by simp [WL, leG_self, leG_any, e0])
  · rintro ⟨⟨k, v⟩, hk, hol⟩
    change k ≤ m.length + o.length at hk
    change (refL m o k).length ≤ k at hol
    by_cases hkm : k < m.length + o.length
    · have hst := refL_step hm hkm rfl rfl rfl
      have hp4 := hrow ((allI m.length o.length).getD k 0)
      have ek := allI_at m.length o.length k hkm
      have hs : split = 1099511627776 := rfl
      have hid : 0 ≤ (allI m.length o.length).getD k 0 ∧ (allI m.length o.length).getD k 0 ≤ split + 1000 := by split at ek <;> omega
      have d0 : decide ((k : Int) < ((allI m.length o.length).length : Int)) = true := decide_eq_true (by omega)
      clear ek
      have c16 := spec16 m o .none .none ((allI m.length o.length).getD k 0) (by omega) (by omega)
      have eid : (ints (allI m.length o.length)).getD k [] = [.int .i64 ((allI m.length o.length).getD k 0)] := ints_at _ _ (by rw [hA]; exact hkm)
      generalize (allI m.length o.length).getD k 0 = id at *
      simp +contextual -implicitDefEqProofs (maxSteps := 2000000) (disch := omega) only [vcS_skip, vcS_reg, vcS_drw, vcS_seq, vcS_cond, vcS_block, vcS_exit, vcS_ret, vcS_loopI, drawC, opsS_nil, opsS_one, opsS_if, ordS_nil, ordS_one, ordS_if, hold_mk, ev_tmp, ev_const, ev_func, put_some, put_none, setS_mk, ↓lenV, binV, optV, ↓loadV, ↓storeV, ↓fieldAddrV, ↓indexAddrV, ↓boxV, ↓buildV, ↓buildSliceV, ↓sliceV, ↓appendV, ↓srcV, bound, cutTag, hiTag, fillG, fillE, place, GVal.cells, grp, GVal.ofConst, ↓resV, resG, sget_0, sget_1, sget_2, sget_3, sget_4, set_0, set_1, set_2, set_3, set_4, setO_0, setO_1, setO_2, setL_0, setL_1, setL_2, List.map, List.headD, List.take, List.drop, ↓reduceIte, Nat.reduceEqDiff, Nat.reduceAdd, Nat.reduceSub, Nat.reduceLeDiff, reduceCtorEq, implies_true, ne_eq, norm_i64, ints_length, leG_bool, leG_int, ↓asrcV, aggV, Tag.cap, List.replicate, okCells_eq, allSolid_eq, allSolid, GVal.solid, all_nil, all_cons, all_append, all_ints, all_tabG, stamp_nil, stamp_tok, stamp_row, stamp_map, tick_nil, tick_tok, tick_row, tick_map, Nat.reduceBEq, tabG_length, tabG_at, Nat.reduceMul, Nat.reduceLT, List.length_map, List.length_range, leA_int, leA_bool, leA_slice, leA_agg, leA_tuple, WL_nil, WL_cons, leG_self, splice, ↓vcB, vcC, fbA, e24, d0, eid]
      refine ⟨by omega, by omega, c16.then ?_⟩
      generalize hrf : refL m o k = out at *
      generalize hrf1 : refL m o (k + 1) = out1 at *
      generalize parI m o id = p at *
      have hpos : 0 < out.length → out ≠ [] := fun h e => by subst e; simp at h
      have hsz : out1.length ≤ k + 1 := by
        by_cases hc : out ≠ [] ∧ (out.getD (out.length - 1) default).hi = id - 1 ∧ p.length = 1 ∧ p.getD 0 0 = id - 1
        · rw [hst.1 hc, List.length_set]; omega
        · rw [hst.2 hc, List.length_append]; simp; omega
      have eid' : (ints (allI m.length o.length)).getD k [] = [.int .i64 id] := eid
      simp +contextual -implicitDefEqProofs (maxSteps := 2000000) (disch := omega) only [drawC, ↓lenV, binV, optV, ↓loadV, ↓storeV, ↓fieldAddrV, ↓indexAddrV, ↓boxV, ↓buildV, ↓buildSliceV, ↓sliceV, ↓appendV, ↓srcV, bound, cutTag, hiTag, fillG, fillE, place, GVal.cells, grp, GVal.ofConst, ↓resV, resG, List.map, List.headD, List.take, List.drop, ↓reduceIte, Nat.reduceEqDiff, Nat.reduceAdd, Nat.reduceSub, Nat.reduceLeDiff, reduceCtorEq, implies_true, ne_eq, ↓asrcV, aggV, Tag.cap, List.replicate, allSolid, GVal.solid, Nat.reduceBEq, Nat.reduceMul, Nat.reduceLT, List.length_map, List.length_range, splice, vcA, ↓vcB, vcC, fbA, e24, segsG_length, segsG_at, segG, toNat_pred, Int.toNat_zero, all_segsG, cast_beq_zero, eid', d0]
      refine ⟨fun h1 => ⟨by omega, by omega, by omega, by omega, by omega, by omega, fun h2 => ⟨fun h3 => ⟨by omega, by omega, by omega, by omega, fun h4 => ?_, fun h4 => ?_⟩, fun h3 => ?_⟩, fun h2 => ?_⟩, fun h1 => ?_⟩
      · have e1 := hst.1 ⟨hpos (by omega), h2, by omega, h4⟩
        repeat (refine ⟨by omega, ?_⟩)
        refine Into.at ⟨(k + 1, v), by show k + 1 ≤ _; omega, by show (refL m o (k + 1)).length ≤ k + 1; rw [hrf1]; exact hsz⟩ (by show _ < _; simp; omega) ⟨[], ?_⟩ (by simp [WL, leG_self, leG_any, leG_int, hrf1, e1])
        simp only [hrf1, e1, List.append_nil, ← segsG_set]; rfl
      all_goals
        have e1 := hst.2 (by
          rintro ⟨q1, q2, q3, q4⟩
          first
            | exact absurd q4 h4
            | (have q3' : (p.length : Int) = 1 := by omega
               exact absurd q3' h3)
            | exact absurd q2 h2
            | (have := List.length_pos_iff.2 q1; omega))
        repeat (refine ⟨by omega, ?_⟩)
        intro a
        refine ⟨⟨[.tok a 1], rfl⟩, ?_⟩
        repeat (refine ⟨by omega, ?_⟩)
        intro b
        rw [List.take_of_length_le (by rw [segsG_length]; omega)]
        refine Into.rowLast 0 (segsG out) _ (segG ⟨id, id, p, decide (p.length = 0), false⟩) rfl (fun x hx => by have := all_segsG out; simp only [eq_iff_iff, iff_true] at this; exact this x hx) rfl (by simp [WL, segG, leG_self, leG_none, leG_bool] <;> (intro e; subst e; simp at h3)) ?_
        refine Into.at ⟨(k + 1, b), by show k + 1 ≤ _; omega, by show (refL m o (k + 1)).length ≤ k + 1; rw [hrf1]; exact hsz⟩ (by show _ < _; simp; omega) ⟨[.tok a 1], by simp [hrf1, e1, segsG_append, segsG_one]⟩ (by simp [WL, leG_self, leG_any, leG_int, hrf1, e1])
    · have hk2 : k = m.length + o.length := by omega
      have d0 : decide ((k : Int) < ((allI m.length o.length).length : Int)) = false := decide_eq_false (by omega)
      have hre := refL_end (m := m) (o := o) hr
      subst hk2
      rw [hre, stripL_length] at hol
      generalize hT : buildI m o = T at *
      have told : ∀ i, i < T.length → ∀ (first : Int), first = (if split ≤ (T.getD i default).lo then split else 0) → ∀ l, UpSet m o [(T.getD i default).hi] l → (T.getD i default).head = decide (((l.filter (fun x => decide (first ≤ x))).length : Int) = (T.getD i default).hi - first + 1) := fun i hi first hf l hu =>
        head_told hm hr (by rw [hT, List.getD_eq_getElem?_getD, List.getElem?_eq_getElem hi]; exact List.getElem_mem hi) hf hu
      have segb : ∀ i, i < T.length → 0 ≤ (T.getD i default).lo ∧ (T.getD i default).lo ≤ (T.getD i default).hi ∧ (T.getD i default).hi ≤ split + 1000 := fun i hi => hseg _ (by rw [List.getD_eq_getElem?_getD, List.getElem?_eq_getElem hi]; exact List.getElem_mem hi)
      simp +contextual -implicitDefEqProofs (maxSteps := 2000000) (disch := omega) only [drawC, ↓lenV, binV, optV, ↓loadV, ↓storeV, ↓fieldAddrV, ↓indexAddrV, ↓boxV, ↓buildV, ↓buildSliceV, ↓sliceV, ↓appendV, ↓srcV, bound, cutTag, hiTag, fillG, fillE, place, GVal.cells, grp, GVal.ofConst, ↓resV, resG, List.map, List.headD, List.take, List.drop, ↓reduceIte, Nat.reduceEqDiff, Nat.reduceAdd, Nat.reduceSub, Nat.reduceLeDiff, reduceCtorEq, implies_true, ne_eq, ↓asrcV, aggV, Tag.cap, List.replicate, allSolid, GVal.solid, Nat.reduceBEq, Nat.reduceMul, Nat.reduceLT, List.length_map, List.length_range, splice, vcA, ↓vcB, vcC, fbA, e24, segsG_length, d0, hre, stripL_length]
      refine ⟨fun h => absurd h (by rw [hA]; omega), fun _ => ?_⟩
      refine vcSLoop_by (ι := { i : Nat // i ≤ T.length }) (fun i => ⟨[.any, .ref [.slice (tabG m) .none, .slice (tabG o) .none], .any, .own 0 v 0 T.length, .any, .any, .any, .any, .any, .int .i64 (i.1 : Nat)] ++ List.replicate 131 .any, [.row v 5 (segsG (mixL T i.1))]⟩) (fun i => T.length - i.1) ?_ ?_
      · exact Into.first ⟨0, by omega⟩ ⟨[], by simp [mix_zero]⟩ (by simp [WL, leG_self, leG_any])
      · rintro ⟨i, hi⟩
        by_cases hiT : i < T.length
        · have d1 : decide ((i : Int) < (T.length : Int)) = true := decide_eq_true (by omega)
          have hml := mix_length T i hi
          have eM : (segsG (mixL T i)).getD i [] = segG (strip (T.getD i default)) := by rw [segsG_at _ _ (by omega), mix_at T i hiT]
          have sb := segb i hiT
          have tl := told i hiT
          have hms := mix_set T i hiT
          generalize T.getD i default = s at *
          have hsp : split = 1099511627776 := rfl
          by_cases hlo : 1099511627776 ≤ s.lo
          · have d2 : decide (1099511627776 ≤ s.lo) = true := decide_eq_true hlo
            have tl := tl 1099511627776 (by rw [if_pos (by omega), hsp])
            simp +contextual -implicitDefEqProofs (maxSteps := 2000000) (disch := omega) only [drawC, ↓lenV, binV, optV, ↓loadV, ↓storeV, ↓fieldAddrV, ↓indexAddrV, ↓boxV, ↓buildV, ↓buildSliceV, ↓sliceV, ↓appendV, ↓srcV, bound, cutTag, hiTag, fillG, fillE, place, GVal.cells, grp, GVal.ofConst, ↓resV, resG, List.map, List.headD, List.take, List.drop, ↓reduceIte, Nat.reduceEqDiff, Nat.reduceAdd, Nat.reduceSub, Nat.reduceLeDiff, reduceCtorEq, implies_true, ne_eq, ↓asrcV, aggV, Tag.cap, List.replicate, allSolid, GVal.solid, Nat.reduceBEq, Nat.reduceMul, Nat.reduceLT, List.length_map, List.length_range, splice, vcA, ↓vcB, vcC, fbA, e24, segsG_length, d1, d2, hml, eM, segG, strip, ints_one]
            repeat (refine ⟨by omega, ?_⟩)
            refine (rel48 m o .none .none .full [s.hi] (by omega) (by omega) (by simp) hrow).then ?_
            rintro g ⟨l, rfl, hl⟩
            have hll := hl.out_len
            have hd := tl l hl
            have hcl : (l.filter (fun x => decide ((1099511627776 : Int) ≤ x))).length ≤ l.length := List.length_filter_le _ _
            simp +contextual -implicitDefEqProofs (maxSteps := 2000000) (disch := omega) only [drawC, ↓lenV, binV, optV, ↓loadV, ↓storeV, ↓fieldAddrV, ↓indexAddrV, ↓boxV, ↓buildV, ↓buildSliceV, ↓sliceV, ↓appendV, ↓srcV, bound, cutTag, hiTag, fillG, fillE, place, GVal.cells, grp, GVal.ofConst, ↓resV, resG, List.map, List.headD, List.take, List.drop, ↓reduceIte, Nat.reduceEqDiff, Nat.reduceAdd, Nat.reduceSub, Nat.reduceLeDiff, reduceCtorEq, implies_true, ne_eq, ↓asrcV, aggV, Tag.cap, List.replicate, allSolid, GVal.solid, Nat.reduceBEq, Nat.reduceMul, Nat.reduceLT, List.length_map, List.length_range, splice, vcA, ↓vcB, vcC, fbA, e24]
            refine vcSLoop_by (ι := { j : Nat // j ≤ l.length }) (fun j => ⟨[.any, .ref [.slice (tabG m) .none, .slice (tabG o) .none], .any, .own 0 v 0 T.length, .any, .any, .any, .any, .any, .int .i64 (i : Nat), .int .i64 1099511627776, .slice (ints l) .none, .int .i64 (((l.take j.1).filter (fun x => decide ((1099511627776 : Int) ≤ x))).length : Nat), .int .i64 (j.1 : Nat)] ++ List.replicate 127 .any, [.row v 5 (segsG (mixL T i))]⟩) (fun j => l.length - j.1) ?_ ?_
            · exact Into.first ⟨0, by omega⟩ ⟨[], by simp⟩ (by simp [WL, leG_self, leG_any])
            · rintro ⟨j, hj⟩
              have hcj : ((l.take j).filter (fun x => decide ((1099511627776 : Int) ≤ x))).length ≤ j := Nat.le_trans (List.length_filter_le _ _) (by rw [List.length_take]; omega)
              by_cases hjl : j < l.length
              · have d3 : decide ((j : Int) < (l.length : Int)) = true := decide_eq_true (by omega)
                have hft := filt_take l (fun x => decide ((1099511627776 : Int) ≤ x)) j hjl
                simp only [decide_eq_true_eq] at hft
                simp +contextual -implicitDefEqProofs (maxSteps := 2000000) (disch := omega) only [drawC, ↓lenV, binV, optV, ↓loadV, ↓storeV, ↓fieldAddrV, ↓indexAddrV, ↓boxV, ↓buildV, ↓buildSliceV, ↓sliceV, ↓appendV, ↓srcV, bound, cutTag, hiTag, fillG, fillE, place, GVal.cells, grp, GVal.ofConst, ↓resV, resG, List.map, List.headD, List.take, List.drop, ↓reduceIte, Nat.reduceEqDiff, Nat.reduceAdd, Nat.reduceSub, Nat.reduceLeDiff, reduceCtorEq, implies_true, ne_eq, ↓asrcV, aggV, Tag.cap, List.replicate, allSolid, GVal.solid, Nat.reduceBEq, Nat.reduceMul, Nat.reduceLT, List.length_map, List.length_range, splice, vcA, ↓vcB, vcC, fbA, e24, d3]
                refine ⟨by omega, by omega, fun h4 => ?_, fun h4 => ?_⟩
                · rw [if_pos h4] at hft
                  exact Into.at ⟨j + 1, by omega⟩ (by show l.length - (j + 1) < l.length - j; omega) ⟨[], by simp⟩ (by simp [WL, leG_self, leG_any, leG_int, hft])
                · rw [if_neg (by omega)] at hft
                  exact Into.at ⟨j + 1, by omega⟩ (by show l.length - (j + 1) < l.length - j; omega) ⟨[], by simp⟩ (by simp [WL, leG_self, leG_any, leG_int, hft])
              · have d3 : decide ((j : Int) < (l.length : Int)) = false := decide_eq_false (by omega)
                have etk : l.take j = l := List.take_of_length_le (by omega)
                have hbq : ((((l.filter (fun x => decide ((1099511627776 : Int) ≤ x))).length : Nat) : Int) == s.hi - 1099511627776 + 1) = s.head := by
                  rw [hd, Bool.eq_iff_iff, beq_iff_eq, decide_eq_true_iff]
                simp +contextual -implicitDefEqProofs (maxSteps := 2000000) (disch := omega) only [drawC, ↓lenV, binV, optV, ↓loadV, ↓storeV, ↓fieldAddrV, ↓indexAddrV, ↓boxV, ↓buildV, ↓buildSliceV, ↓sliceV, ↓appendV, ↓srcV, bound, cutTag, hiTag, fillG, fillE, place, GVal.cells, grp, GVal.ofConst, ↓resV, resG, List.map, List.headD, List.take, List.drop, ↓reduceIte, Nat.reduceEqDiff, Nat.reduceAdd, Nat.reduceSub, Nat.reduceLeDiff, reduceCtorEq, implies_true, ne_eq, ↓asrcV, aggV, Tag.cap, List.replicate, allSolid, GVal.solid, Nat.reduceBEq, Nat.reduceMul, Nat.reduceLT, List.length_map, List.length_range, splice, vcA, ↓vcB, vcC, fbA, e24, segsG_length, d3, hml, eM, segG, strip, etk, hbq]
                repeat (refine ⟨by omega, ?_⟩)
                refine Into.at ⟨i + 1, by omega⟩ (by show T.length - (i + 1) < T.length - i; omega) ⟨[], ?_⟩ (by simp [WL, leG_self, leG_any, leG_int])
                simp only [← hms, List.append_nil, ← segsG_set]; rfl
          · have d2 : decide (1099511627776 ≤ s.lo) = false := decide_eq_false hlo
            have tl := tl 0 (by rw [if_neg (by omega)])
            simp +contextual -implicitDefEqProofs (maxSteps := 2000000) (disch := omega) only [drawC, ↓lenV, binV, optV, ↓loadV, ↓storeV, ↓fieldAddrV, ↓indexAddrV, ↓boxV, ↓buildV, ↓buildSliceV, ↓sliceV, ↓appendV, ↓srcV, bound, cutTag, hiTag, fillG, fillE, place, GVal.cells, grp, GVal.ofConst, ↓resV, resG, List.map, List.headD, List.take, List.drop, ↓reduceIte, Nat.reduceEqDiff, Nat.reduceAdd, Nat.reduceSub, Nat.reduceLeDiff, reduceCtorEq, implies_true, ne_eq, ↓asrcV, aggV, Tag.cap, List.replicate, allSolid, GVal.solid, Nat.reduceBEq, Nat.reduceMul, Nat.reduceLT, List.length_map, List.length_range, splice, vcA, ↓vcB, vcC, fbA, e24, segsG_length, d1, d2, hml, eM, segG, strip, ints_one]
            repeat (refine ⟨by omega, ?_⟩)
            refine (rel48 m o .none .none .full [s.hi] (by omega) (by omega) (by simp) hrow).then ?_
            rintro g ⟨l, rfl, hl⟩
            have hll := hl.out_len
            have hd := tl l hl
            have hcl : (l.filter (fun x => decide ((0 : Int) ≤ x))).length ≤ l.length := List.length_filter_le _ _
            simp +contextual -implicitDefEqProofs (maxSteps := 2000000) (disch := omega) only [drawC, ↓lenV, binV, optV, ↓loadV, ↓storeV, ↓fieldAddrV, ↓indexAddrV, ↓boxV, ↓buildV, ↓buildSliceV, ↓sliceV, ↓appendV, ↓srcV, bound, cutTag, hiTag, fillG, fillE, place, GVal.cells, grp, GVal.ofConst, ↓resV, resG, List.map, List.headD, List.take, List.drop, ↓reduceIte, Nat.reduceEqDiff, Nat.reduceAdd, Nat.reduceSub, Nat.reduceLeDiff, reduceCtorEq, implies_true, ne_eq, ↓asrcV, aggV, Tag.cap, List.replicate, allSolid, GVal.solid, Nat.reduceBEq, Nat.reduceMul, Nat.reduceLT, List.length_map, List.length_range, splice, vcA, ↓vcB, vcC, fbA, e24]
            refine vcSLoop_by (ι := { j : Nat // j ≤ l.length }) (fun j => ⟨[.any, .ref [.slice (tabG m) .none, .slice (tabG o) .none], .any, .own 0 v 0 T.length, .any, .any, .any, .any, .any, .int .i64 (i : Nat), .int .i64 0, .slice (ints l) .none, .int .i64 (((l.take j.1).filter (fun x => decide ((0 : Int) ≤ x))).length : Nat), .int .i64 (j.1 : Nat)] ++ List.replicate 127 .any, [.row v 5 (segsG (mixL T i))]⟩) (fun j => l.length - j.1) ?_ ?_
            · exact Into.first ⟨0, by omega⟩ ⟨[], by simp⟩ (by simp [WL, leG_self, leG_any])
            · rintro ⟨j, hj⟩
              have hcj : ((l.take j).filter (fun x => decide ((0 : Int) ≤ x))).length ≤ j := Nat.le_trans (List.length_filter_le _ _) (by rw [List.length_take]; omega)
              by_cases hjl : j < l.length
              · have d3 : decide ((j : Int) < (l.length : Int)) = true := decide_eq_true (by omega)
                have hft := filt_take l (fun x => decide ((0 : Int) ≤ x)) j hjl
                simp only [decide_eq_true_eq] at hft
                simp +contextual -implicitDefEqProofs (maxSteps := 2000000) (disch := omega) only [drawC, ↓lenV, binV, optV, ↓loadV, ↓storeV, ↓fieldAddrV, ↓indexAddrV, ↓boxV, ↓buildV, ↓buildSliceV, ↓sliceV, ↓appendV, ↓srcV, bound, cutTag, hiTag, fillG, fillE, place, GVal.cells, grp, GVal.ofConst, ↓resV, resG, List.map, List.headD, List.take, List.drop, ↓reduceIte, Nat.reduceEqDiff, Nat.reduceAdd, Nat.reduceSub, Nat.reduceLeDiff, reduceCtorEq, implies_true, ne_eq, ↓asrcV, aggV, Tag.cap, List.replicate, allSolid, GVal.solid, Nat.reduceBEq, Nat.reduceMul, Nat.reduceLT, List.length_map, List.length_range, splice, vcA, ↓vcB, vcC, fbA, e24, d3]
                refine ⟨by omega, by omega, fun h4 => ?_, fun h4 => ?_⟩
                · rw [if_pos h4] at hft
                  exact Into.at ⟨j + 1, by omega⟩ (by show l.length - (j + 1) < l.length - j; omega) ⟨[], by simp⟩ (by simp [WL, leG_self, leG_any, leG_int, hft])
                · rw [if_neg (by omega)] at hft
                  exact Into.at ⟨j + 1, by omega⟩ (by show l.length - (j + 1) < l.length - j; omega) ⟨[], by simp⟩ (by simp [WL, leG_self, leG_any, leG_int, hft])
              · have d3 : decide ((j : Int) < (l.length : Int)) = false := decide_eq_false (by omega)
                have etk : l.take j = l := List.take_of_length_le (by omega)
                have hbq : ((((l.filter (fun x => decide ((0 : Int) ≤ x))).length : Nat) : Int) == s.hi - 0 + 1) = s.head := by
                  rw [hd, Bool.eq_iff_iff, beq_iff_eq, decide_eq_true_iff]
                simp +contextual -implicitDefEqProofs (maxSteps := 2000000) (disch := omega) only [drawC, ↓lenV, binV, optV, ↓loadV, ↓storeV, ↓fieldAddrV, ↓indexAddrV, ↓boxV, ↓buildV, ↓buildSliceV, ↓sliceV, ↓appendV, ↓srcV, bound, cutTag, hiTag, fillG, fillE, place, GVal.cells, grp, GVal.ofConst, ↓resV, resG, List.map, List.headD, List.take, List.drop, ↓reduceIte, Nat.reduceEqDiff, Nat.reduceAdd, Nat.reduceSub, Nat.reduceLeDiff, reduceCtorEq, implies_true, ne_eq, ↓asrcV, aggV, Tag.cap, List.replicate, allSolid, GVal.solid, Nat.reduceBEq, Nat.reduceMul, Nat.reduceLT, List.length_map, List.length_range, splice, vcA, ↓vcB, vcC, fbA, e24, segsG_length, d3, hml, eM, segG, strip, etk, hbq]
                repeat (refine ⟨by omega, ?_⟩)
                refine Into.at ⟨i + 1, by omega⟩ (by show T.length - (i + 1) < T.length - i; omega) ⟨[], ?_⟩ (by simp [WL, leG_self, leG_any, leG_int])
                simp only [← hms, List.append_nil, ← segsG_set]; rfl
        · have d1 : decide ((i : Int) < (T.length : Int)) = false := decide_eq_false (by omega)
          have e1 : i = T.length := by omega
          subst e1
          simp +contextual -implicitDefEqProofs (maxSteps := 2000000) (disch := omega) only [drawC, ↓lenV, binV, optV, ↓loadV, ↓storeV, ↓fieldAddrV, ↓indexAddrV, ↓boxV, ↓buildV, ↓buildSliceV, ↓sliceV, ↓appendV, ↓srcV, bound, cutTag, hiTag, fillG, fillE, place, GVal.cells, grp, GVal.ofConst, ↓resV, resG, List.map, List.headD, List.take, List.drop, ↓reduceIte, Nat.reduceEqDiff, Nat.reduceAdd, Nat.reduceSub, Nat.reduceLeDiff, reduceCtorEq, implies_true, ne_eq, ↓asrcV, aggV, Tag.cap, List.replicate, allSolid, GVal.solid, Nat.reduceBEq, Nat.reduceMul, Nat.reduceLT, List.length_map, List.length_range, splice, vcA, ↓vcB, vcC, fbA, e24, segsG_length, d1, mix_end]
          exact ⟨4, .slice (segsG T) .none, frz_own rfl (segsG_length _).symm (frz_segs _ 1 _), by rw [leA_slice]⟩

end Gv.Try
/- Less is said of a row that the call owns. -/
set_option linter.unusedVariables false
namespace Gv
open Go
theorem Into.rowLe {st : GSt} {N : GSt → Prop} (i : Nat) {t sz : Nat} (xs ys : List (List GVal)) (hO : st.o[i]? = some (.row t sz xs)) (hw : GLess xs ys) (h : Into ⟨st.s, st.o.set i (.row t sz ys)⟩ N) : Into st N := by
  intro E a w hs' ha
  obtain ⟨h1, h2, h3⟩ := hw.flat
  obtain ⟨l, _, _, hz, _⟩ := hs'.real i _ hO
  obtain ⟨q1, q2⟩ := hs'.cells hO (ys := ys) h2.symm (fun y hy => h3 sz hz y hy) (fun j g' hj => by
    obtain ⟨g, hg, hl⟩ := h1.at_ j g' hj
    exact ⟨g, hg, fun v hv => hl _ _ hv⟩)
  obtain ⟨st', E', r1, r2, r3, r4⟩ := h E a w q1 ha
  exact ⟨st', E', r1, r2, q2.trans r3, r4⟩
end Gv
namespace Gv
open Go
theorem GPure.weakArgs {P : Program} {f : FuncId} {args args' : List GVal} {r : GVal} (h : GPure P f args' r) (hw : GLes args args') : GPure P f args r := by
  refine ⟨?_, fun E w vs hs ha => h.2 E w vs hs ⟨by rw [ha.1, hw.len], fun i g hg => ?_⟩⟩
  · have := h.1
    exact this
  · obtain ⟨x, hx, hl⟩ := hw.at_ i g hg
    exact hl _ _ (ha.2 i x hx)
end Gv
/- Contract: the document's table of segments. -/
set_option linter.unusedVariables false
set_option linter.unusedSimpArgs false
set_option maxRecDepth 20000
set_option maxHeartbeats 8000000
namespace Gv.Try
open Go Gv Go.Proofs

def rstep (t : Tab) (s : Seg) : Option Tab :=
  if s.lo ≤ s.hi ∧ s.hi - s.lo < roomT t then
    (if s.lo = (t.1.length : Int) ∧ t.2 = [] then some (t.1 ++ rowsS s, t.2)
    else if s.lo = 1099511627776 + (t.2.length : Int) then some (t.1, t.2 ++ rowsS s) else none)
  else none
def rfold : Tab → List Seg → Option Tab
  | t, [] => some t
  | t, s :: r => match rstep t s with
    | none => none
    | some t' => rfold t' r
theorem rfold_drop (t : Tab) (l : List Seg) (k : Nat) (hk : k < l.length) : rfold t (l.drop k) = match rstep t (l.getD k default) with | none => none | some t' => rfold t' (l.drop (k + 1)) := by
  rw [List.drop_eq_getElem_cons hk, rfold]; simp [List.getD, hk]
def rbackI (l : List Seg) : Option Tab := match rfold ([], []) l with
  | none => none
  | some t => if rightI t.1 t.2 = true ∧ buildI t.1 t.2 = l then some t else none
theorem rstep_b {t t' : Tab} {s : Seg} (ht : t.1.length ≤ 1000) (h : rstep t s = some t') : bstep t s = some t' := by
  unfold rstep at h
  unfold bstep
  split at h
  · rename_i h1
    split at h
    · rename_i h2
      rw [if_pos (by omega), if_pos (show putOK s _ _ = true from decide_eq_true ⟨h2.1, h1⟩)]; exact h
    · split at h
      · rename_i h3
        rw [if_neg (by omega), if_pos (show putOK s _ _ = true from decide_eq_true ⟨h3, h1⟩)]; exact h
      · cases h
  · cases h
/-- the rows of a segment's first IDs -/
def rowsT (s : Seg) (d : Nat) : List (List Int) := if d = 0 then [] else s.par :: ones (ups s.lo (d - 1))
theorem rowsT_len (s : Seg) (d : Nat) : (rowsT s d).length = d := by
  unfold rowsT
  split
  · simp; omega
  · simp [ones, ups]; omega
theorem rowsT_end (s : Seg) (h : s.lo ≤ s.hi) : rowsT s ((s.hi - s.lo).toNat + 1) = rowsS s := by simp [rowsT, rowsS]
theorem rowsT_one (s : Seg) : rowsT s 1 = [s.par] := by simp [rowsT, ones, ups]
theorem rowsT_succ (s : Seg) (d : Nat) (h : d ≠ 0) : rowsT s (d + 1) = rowsT s d ++ [[s.lo + d - 1]] := by
  obtain ⟨e, rfl⟩ : ∃ e, d = e + 1 := ⟨d - 1, by omega⟩
  simp only [rowsT, if_neg (Nat.succ_ne_zero _), Nat.add_sub_cancel]
  rw [ups_succ, ones_append]
  simp [ones]
  omega
theorem rowsT_step (s : Seg) (d : Nat) : rowsT s (d + 1) = rowsT s d ++ [if d = 0 then s.par else [s.lo + d - 1]] := by
  by_cases h : d = 0
  · subst h; rw [rowsT_one]; rfl
  · rw [rowsT_succ s d h, if_neg h]

theorem tab_snocLe (A : List (List Int)) (p : List Int) (t : Tag) : GLess (tabG A ++ [[.slice (ints p) t]]) (tabG (A ++ [p])) := by
  rw [tabG_append]; exact .app (.refl _) ⟨⟨.none, trivial⟩, trivial⟩
theorem spec28 (l : List Seg) (t : Tag) (hl : l.length ≤ 17592186044416) (hp : ∀ i, (l.getD i default).par.length ≤ 17592186044416) (hh : ∀ i, (l.getD i default).hi ≤ 9223372036854775807) :
    GPure Try.prog 28 [.slice (segsG l) t] (pairTG (rbackI l)) := by
  refine h28.pureF mixS (by simp) ?_
  simp only [gstart, s28, List.cons_append, List.nil_append, List.length_cons, List.length_nil, Nat.reduceAdd, Nat.reduceSub, List.replicate_succ, List.replicate_zero]
  simp +contextual -implicitDefEqProofs (maxSteps := 2000000) (disch := omega) only [↓lenV, binV, ↓unV, ↓loadV, ↓storeV, ↓fieldAddrV, ↓indexAddrV, ↓allocV, ↓buildV, ↓buildSliceV, ↓appendV, ↓srcV, fillG, fillE, place, GVal.cells, grp, GVal.ofConst, ↓resV, resG, List.map, List.headD, List.take, List.drop, ↓reduceIte, Nat.reduceEqDiff, Nat.reduceAdd, Nat.reduceSub, Nat.reduceLeDiff, reduceCtorEq, implies_true, ne_eq, ↓asrcV, aggV, Tag.cap, List.replicate, allSolid, GVal.solid, Nat.reduceBEq, Nat.reduceMul, Nat.reduceLT, List.length_map, List.length_range, splice, vcA, ↓vcB, vcC, fbA, fbE, fbG, e28, segsG_length]
  intro st0 st1
  refine vcSLoop_by (ι := { p : Nat × Tab × Nat × Nat // p.1 ≤ l.length ∧ rfold ([], []) l = rfold p.2.1 (l.drop p.1) ∧ okT p.2.1 }) (fun p => ⟨[.slice (segsG l) t, .any, .ptr 0 st0 0 0, .any, .ptr 1 st1 0 0, .int .i64 (roomT p.1.2.1), .int .i64 (p.1.1 : Nat)] ++ List.replicate 104 .any, [.row st0 2 [[.slice [] .nil, .slice [] .nil]], .row st1 2 [[.slice (tabG p.1.2.1.1) (.tok 2 p.1.2.2.1), .slice (tabG p.1.2.1.2) (.tok 3 p.1.2.2.2)]], .tok p.1.2.2.1 1, .tok p.1.2.2.2 1]⟩) (fun p => l.length - p.1.1) ?_ ?_
  · refine Into.cellTok 1 0 1 [] rfl rfl rfl rfl ?_
    simp +contextual -implicitDefEqProofs (maxSteps := 2000000) (disch := omega) only [↓lenV, binV, ↓unV, ↓loadV, ↓storeV, ↓fieldAddrV, ↓indexAddrV, ↓allocV, ↓buildV, ↓buildSliceV, ↓appendV, ↓srcV, fillG, fillE, place, GVal.cells, grp, GVal.ofConst, ↓resV, resG, List.map, List.headD, List.take, List.drop, ↓reduceIte, Nat.reduceEqDiff, Nat.reduceAdd, Nat.reduceSub, Nat.reduceLeDiff, reduceCtorEq, implies_true, ne_eq, ↓asrcV, aggV, Tag.cap, List.replicate, allSolid, GVal.solid, Nat.reduceBEq, Nat.reduceMul, Nat.reduceLT, List.length_map, List.length_range, splice, vcA, ↓vcB, vcC, fbA, fbE, fbG, e28]
    intro v
    refine Into.cellTok 1 1 1 [] rfl rfl rfl rfl ?_
    simp +contextual -implicitDefEqProofs (maxSteps := 2000000) (disch := omega) only [↓lenV, binV, ↓unV, ↓loadV, ↓storeV, ↓fieldAddrV, ↓indexAddrV, ↓allocV, ↓buildV, ↓buildSliceV, ↓appendV, ↓srcV, fillG, fillE, place, GVal.cells, grp, GVal.ofConst, ↓resV, resG, List.map, List.headD, List.take, List.drop, ↓reduceIte, Nat.reduceEqDiff, Nat.reduceAdd, Nat.reduceSub, Nat.reduceLeDiff, reduceCtorEq, implies_true, ne_eq, ↓asrcV, aggV, Tag.cap, List.replicate, allSolid, GVal.solid, Nat.reduceBEq, Nat.reduceMul, Nat.reduceLT, List.length_map, List.length_range, splice, vcA, ↓vcB, vcC, fbA, fbE, fbG, e28]
    intro w
    exact Into.first ⟨(0, ([], []), v, w), by omega, by simp, by simp [okT]⟩ ⟨[], by simp [tabG_nil]⟩ (by simp [WL, leG_self, leG_any, roomT])
  · rintro ⟨⟨k, ⟨M, O⟩, v, w⟩, hk, hx, hok⟩
    change rfold ([], []) l = rfold (M, O) (l.drop k) at hx
    change okT (M, O) at hok
    have hlen : M.length + O.length ≤ 1000 := hok.1
    have hrt : roomT (M, O) = 1000 - (M.length : Int) - (O.length : Int) := rfl
    by_cases h : k < l.length
    · rw [rfold_drop _ _ _ h] at hx
      have hpk := hp k
      have hhk := hh k
      have eS : (segsG l).getD k [] = segG (l.getD k default) := segsG_at l k h
      have d0 : decide ((k : Int) < (l.length : Int)) = true := decide_eq_true (by omega)
      generalize l.getD k default = s at *
      generalize hR : roomT (M, O) = R at *
      simp +contextual -implicitDefEqProofs (maxSteps := 2000000) (disch := omega) only [↓lenV, binV, ↓unV, ↓loadV, ↓storeV, ↓fieldAddrV, ↓indexAddrV, ↓allocV, ↓buildV, ↓buildSliceV, ↓appendV, ↓srcV, fillG, fillE, place, GVal.cells, grp, GVal.ofConst, ↓resV, resG, List.map, List.headD, List.take, List.drop, ↓reduceIte, Nat.reduceEqDiff, Nat.reduceAdd, Nat.reduceSub, Nat.reduceLeDiff, reduceCtorEq, implies_true, ne_eq, ↓asrcV, aggV, Tag.cap, List.replicate, allSolid, GVal.solid, Nat.reduceBEq, Nat.reduceMul, Nat.reduceLT, List.length_map, List.length_range, splice, vcA, ↓vcB, vcC, fbA, fbE, fbG, e28, segsG_length, eS, segG, d0, setO_3, setO_4]
      repeat (refine ⟨by omega, ?_⟩)
      intro st2
      have back0 : rstep (M, O) s = none → rbackI l = none := fun e => by rw [rbackI, hx, e]
      have bad : rstep (M, O) s = none → frzTo (pairTG (rbackI l)) (.tuple [.agg [.slice [] .nil, .slice [] .nil], .bool false]) = frzTo (pairTG none) (.tuple [.agg [.slice [] .nil, .slice [] .nil], .bool false]) := fun e => by rw [back0 e]
      have badF : ∀ Y, rstep (M, O) s = none → frzTo (pairTG (rbackI l)) (.tuple [.agg [.slice [] .nil, .slice [] .nil], .bool false]) Y := fun Y e => by rw [bad e]; exact frz_pair _ [] [] .nil .nil false
      have no : ¬ (s.lo ≤ s.hi ∧ s.hi - s.lo < R) → rstep (M, O) s = none := fun e => by rw [rstep, if_neg (by rw [hR]; exact e)]
      refine ⟨fun e1 => badF _ ?_, fun e1 => ⟨fun e2 => badF _ (no (by omega)), fun e2 => ⟨fun e3 => badF _ (no (by omega)), fun e3 => ?_⟩⟩⟩
      · unfold rstep
        split
        · rw [if_neg (by rintro ⟨q, _⟩; simp only at q; omega), if_neg (by simp only; omega)]
        · rfl
      have yes : ∀ {α : Type} (x y : α), (if s.lo ≤ s.hi ∧ s.hi - s.lo < R then x else y) = x := fun x y => if_pos ⟨e2, e3⟩
      have ers : rstep (M, O) s = if s.lo = (M.length : Int) ∧ O = [] then some (M ++ rowsS s, O) else if s.lo = 1099511627776 + (O.length : Int) then some (M, O ++ rowsS s) else none := by
        rw [rstep, hR, yes]
      by_cases hA : s.lo = (M.length : Int) ∧ O = []
      · obtain ⟨hA1, rfl⟩ := hA
        rw [if_pos ⟨hA1, rfl⟩] at ers
        rw [ers] at hx
        have hfin := bstep_ok hok hpk (rstep_b (by simp only; omega) ers)
        clear yes no bad badF back0 hok
        obtain ⟨lo, hi, par, root, head⟩ := s
        simp only at hA1 e1 e2 e3 hpk hhk
        subst hA1
        have hse := rowsT_end ⟨(M.length : Int), hi, par, root, head⟩ e2
        have es : segG ⟨(M.length : Int), hi, par, root, head⟩ = [.int .i64 (M.length : Int), .int .i64 hi, .slice (ints par) .none, .bool root, .bool head] := rfl
        have hstep := rowsT_step ⟨(M.length : Int), hi, par, root, head⟩
        simp only at hse hstep
        generalize hs : (⟨(M.length : Int), hi, par, root, head⟩ : Seg) = s at *
        have es1 : s.par = par := by subst hs; rfl
        have es2 : s.lo = (M.length : Int) := by subst hs; rfl
        have es3 : s.hi = hi := by subst hs; rfl
        have es4 : s.root = root := by subst hs; rfl
        have es5 : s.head = head := by subst hs; rfl
        clear hs
        refine vcSLoop_by (ι := { p : Nat × Nat // (M.length : Int) + (p.1 : Int) ≤ hi + 1 }) (fun p => ⟨[.slice (segsG l) t, .any, .ptr 0 st0 0 0, .any, .ptr 1 st1 0 0, .int .i64 (R - (hi - (M.length : Int)) - 1), .int .i64 (k : Nat), .ptr 4 st2 0 0, .int .i64 ((M.length : Int) + (p.1.1 : Nat))] ++ List.replicate 102 .any, [.row st0 2 [[.slice [] .nil, .slice [] .nil]], .row st1 2 [[.slice (tabG (M ++ rowsT s p.1.1)) (.tok 2 p.1.2), .slice (tabG []) (.tok 3 w)]], .tok p.1.2 1, .tok w 1, .row st2 5 [segG s]]⟩) (fun p => (hi + 1 - (M.length : Int)).toNat - p.1.1) ?_ ?_
        · exact Into.first ⟨(0, v), by simp only; omega⟩ ⟨[], by simp [rowsT, es, es1, es2, es3, es4, es5]⟩ (by simp [WL, leG_self, leG_any, es3, es2])
        · rintro ⟨⟨d, u⟩, hd⟩
          change (M.length : Int) + (d : Int) ≤ hi + 1 at hd
          have eL : (M ++ rowsT s d).length = M.length + d := by rw [List.length_append, rowsT_len]
          by_cases hd1 : (M.length : Int) + (d : Int) ≤ hi
          · have hstep := hstep d
            have eA : ∀ t' p, p = (if d = 0 then par else [(M.length : Int) + d - 1]) → GLess (tabG (M ++ rowsT s d) ++ [[.slice (ints p) t']]) (tabG (M ++ rowsT s (d + 1))) := fun t' p e => by
              rw [hstep, ← e, ← List.append_assoc]; exact tab_snocLe _ _ _
            have d1 : decide ((M.length : Int) + (d : Int) ≤ hi) = true := decide_eq_true hd1
            simp +contextual -implicitDefEqProofs (maxSteps := 2000000) (disch := omega) only [↓lenV, binV, ↓unV, ↓loadV, ↓storeV, ↓fieldAddrV, ↓indexAddrV, ↓allocV, ↓buildV, ↓buildSliceV, ↓appendV, ↓srcV, fillG, fillE, place, GVal.cells, grp, GVal.ofConst, ↓resV, resG, List.map, List.headD, List.take, List.drop, ↓reduceIte, Nat.reduceEqDiff, Nat.reduceAdd, Nat.reduceSub, Nat.reduceLeDiff, reduceCtorEq, implies_true, ne_eq, ↓asrcV, aggV, Tag.cap, List.replicate, allSolid, GVal.solid, Nat.reduceBEq, Nat.reduceMul, Nat.reduceLT, List.length_map, List.length_range, splice, vcA, ↓vcB, vcC, fbA, fbE, fbG, e28, d1, es, setO_3, setO_4, eL]
            refine ⟨fun a1 => ⟨by omega, by omega, fun st3 => ⟨by omega, by omega, fun st4 => ?_⟩⟩, fun a1 => ⟨by omega, by omega, fun st4 => ?_⟩⟩
            · refine Into.rowLe 1 _ [[.slice (tabG (M ++ rowsT s (d + 1))) (.tok 2 st4), .slice (tabG []) (.tok 3 w)]] rfl ⟨⟨.slice (eA _ par (by rw [if_pos (by omega)])), .refl _, trivial⟩, trivial⟩ ?_
              exact Into.at ⟨(d + 1, st4), by show (M.length : Int) + ((d + 1 : Nat) : Int) ≤ _; omega⟩ (by show _ < _; simp; omega) ⟨[.tok st3 1], rfl⟩ (by simp [WL, leG_self, leG_any, leG_int]; omega)
            · refine Into.rowLe 1 _ [[.slice (tabG (M ++ rowsT s (d + 1))) (.tok 2 st4), .slice (tabG []) (.tok 3 w)]] rfl ⟨⟨.slice (eA .full [(M.length : Int) + d - 1] (by rw [if_neg (by omega)])), .refl _, trivial⟩, trivial⟩ ?_
              exact Into.at ⟨(d + 1, st4), by show (M.length : Int) + ((d + 1 : Nat) : Int) ≤ _; omega⟩ (by show _ < _; simp; omega) ⟨[], rfl⟩ (by simp [WL, leG_self, leG_any, leG_int]; omega)
          · have d1 : decide ((M.length : Int) + (d : Int) ≤ hi) = false := decide_eq_false hd1
            have ed : d = (hi - (M.length : Int)).toNat + 1 := by omega
            rw [← ed] at hse
            simp +contextual -implicitDefEqProofs (maxSteps := 2000000) (disch := omega) only [↓lenV, binV, ↓unV, ↓loadV, ↓storeV, ↓fieldAddrV, ↓indexAddrV, ↓allocV, ↓buildV, ↓buildSliceV, ↓appendV, ↓srcV, fillG, fillE, place, GVal.cells, grp, GVal.ofConst, ↓resV, resG, List.map, List.headD, List.take, List.drop, ↓reduceIte, Nat.reduceEqDiff, Nat.reduceAdd, Nat.reduceSub, Nat.reduceLeDiff, reduceCtorEq, implies_true, ne_eq, ↓asrcV, aggV, Tag.cap, List.replicate, allSolid, GVal.solid, Nat.reduceBEq, Nat.reduceMul, Nat.reduceLT, List.length_map, List.length_range, splice, vcA, ↓vcB, vcC, fbA, fbE, fbG, e28, d1, es, setO_3, setO_4, eL]
            refine Into.at ⟨(k + 1, (M ++ rowsS s, []), u, w), by show k + 1 ≤ _; omega, hx, hfin⟩ (by show _ < _; simp; omega) ⟨[.row st2 5 [segG s]], by simp [hse, es, es1, es2, es3, es4, es5]⟩ ?_
            have er : R - (hi - (M.length : Int)) - 1 = roomT (M ++ rowsS s, []) := by
              have := rowsS_len s
              rw [es2, es3] at this
              simp only [roomT, List.length_append, this, List.length_nil]
              simp only [List.length_nil] at hrt
              omega
            simp [WL, leG_self, leG_any, leG_int, er]
      · rw [if_neg hA] at ers
        by_cases hA1 : s.lo = 1099511627776 + (O.length : Int)
        rotate_left
        · rw [if_neg hA1] at ers
          have hb := fun Y => badF Y ers
          obtain ⟨lo, hi, par, root, head⟩ := s
          simp only at hA hA1 e1 e2 e3 hpk hhk
          clear yes no bad badF back0 hx ers
          refine vcSLoop_by (ι := Unit) (fun _ => ⟨[.slice (segsG l) t, .any, .ptr 0 st0 0 0, .any, .ptr 1 st1 0 0, .int .i64 (R - (hi - lo) - 1), .int .i64 (k : Nat), .ptr 4 st2 0 0, .int .i64 lo] ++ List.replicate 102 .any, [.row st0 2 [[.slice [] .nil, .slice [] .nil]], .row st1 2 [[.slice (tabG M) (.tok 2 v), .slice (tabG O) (.tok 3 w)]], .tok v 1, .tok w 1, .row st2 5 [[.int .i64 lo, .int .i64 hi, .slice (ints par) .none, .bool root, .bool head]]]⟩) (fun p => 0) ?_ ?_
          · exact Into.first () ⟨[], by simp⟩ (by simp [WL, leG_self, leG_any])
          · rintro ⟨⟩
            have d1 : decide (lo ≤ hi) = true := decide_eq_true e2
            have qO : (lo = 1099511627776 + (O.length : Int)) = False := eq_false hA1
            by_cases hM : lo = (M.length : Int)
            · have qM : (lo = (M.length : Int)) = True := eq_true hM
              have hO : O ≠ [] := fun e => hA ⟨hM, e⟩
              have hO2 := List.length_pos_iff.2 hO
              have qN : ((O.length : Int) = 0) = False := eq_false (by omega)
              simp +contextual -implicitDefEqProofs (maxSteps := 2000000) (disch := omega) only [↓lenV, binV, ↓unV, ↓loadV, ↓storeV, ↓fieldAddrV, ↓indexAddrV, ↓allocV, ↓buildV, ↓buildSliceV, ↓appendV, ↓srcV, fillG, fillE, place, GVal.cells, grp, GVal.ofConst, ↓resV, resG, List.map, List.headD, List.take, List.drop, ↓reduceIte, Nat.reduceEqDiff, Nat.reduceAdd, Nat.reduceSub, Nat.reduceLeDiff, reduceCtorEq, implies_true, ne_eq, ↓asrcV, aggV, Tag.cap, List.replicate, allSolid, GVal.solid, Nat.reduceBEq, Nat.reduceMul, Nat.reduceLT, List.length_map, List.length_range, splice, vcA, ↓vcB, vcC, fbA, fbE, fbG, e28, d1, setO_3, setO_4, qM, qO, qN, not_true_eq_false]
              exact ⟨by omega, by omega, fun _ => hb _⟩
            · have qM : (lo = (M.length : Int)) = False := eq_false hM
              simp +contextual -implicitDefEqProofs (maxSteps := 2000000) (disch := omega) only [↓lenV, binV, ↓unV, ↓loadV, ↓storeV, ↓fieldAddrV, ↓indexAddrV, ↓allocV, ↓buildV, ↓buildSliceV, ↓appendV, ↓srcV, fillG, fillE, place, GVal.cells, grp, GVal.ofConst, ↓resV, resG, List.map, List.headD, List.take, List.drop, ↓reduceIte, Nat.reduceEqDiff, Nat.reduceAdd, Nat.reduceSub, Nat.reduceLeDiff, reduceCtorEq, implies_true, ne_eq, ↓asrcV, aggV, Tag.cap, List.replicate, allSolid, GVal.solid, Nat.reduceBEq, Nat.reduceMul, Nat.reduceLT, List.length_map, List.length_range, splice, vcA, ↓vcB, vcC, fbA, fbE, fbG, e28, d1, setO_3, setO_4, qM, qO, not_true_eq_false]
              exact ⟨by omega, by omega, fun _ => hb _⟩
        rw [if_pos hA1] at ers
        rw [ers] at hx
        have hfin := bstep_ok hok hpk (rstep_b (by simp only; omega) ers)
        clear yes no bad badF back0 hok hA
        obtain ⟨lo, hi, par, root, head⟩ := s
        simp only at hA1 e1 e2 e3 hpk hhk
        subst hA1
        have hse := rowsT_end ⟨(1099511627776 + (O.length : Int)), hi, par, root, head⟩ e2
        have es : segG ⟨(1099511627776 + (O.length : Int)), hi, par, root, head⟩ = [.int .i64 (1099511627776 + (O.length : Int)), .int .i64 hi, .slice (ints par) .none, .bool root, .bool head] := rfl
        have hstep := rowsT_step ⟨(1099511627776 + (O.length : Int)), hi, par, root, head⟩
        simp only at hse hstep
        generalize hs : (⟨(1099511627776 + (O.length : Int)), hi, par, root, head⟩ : Seg) = s at *
        have es1 : s.par = par := by subst hs; rfl
        have es2 : s.lo = (1099511627776 + (O.length : Int)) := by subst hs; rfl
        have es3 : s.hi = hi := by subst hs; rfl
        have es4 : s.root = root := by subst hs; rfl
        have es5 : s.head = head := by subst hs; rfl
        clear hs
        refine vcSLoop_by (ι := { p : Nat × Nat // (1099511627776 + (O.length : Int)) + (p.1 : Int) ≤ hi + 1 }) (fun p => ⟨[.slice (segsG l) t, .any, .ptr 0 st0 0 0, .any, .ptr 1 st1 0 0, .int .i64 (R - (hi - (1099511627776 + (O.length : Int))) - 1), .int .i64 (k : Nat), .ptr 4 st2 0 0, .int .i64 ((1099511627776 + (O.length : Int)) + (p.1.1 : Nat))] ++ List.replicate 102 .any, [.row st0 2 [[.slice [] .nil, .slice [] .nil]], .row st1 2 [[.slice (tabG M) (.tok 2 v), .slice (tabG (O ++ rowsT s p.1.1)) (.tok 3 p.1.2)]], .tok v 1, .tok p.1.2 1, .row st2 5 [segG s]]⟩) (fun p => (hi + 1 - (1099511627776 + (O.length : Int))).toNat - p.1.1) ?_ ?_
        · exact Into.first ⟨(0, w), by simp only; omega⟩ ⟨[], by simp [rowsT, es, es1, es2, es3, es4, es5]⟩ (by simp [WL, leG_self, leG_any, es3, es2])
        · rintro ⟨⟨d, u⟩, hd⟩
          change (1099511627776 + (O.length : Int)) + (d : Int) ≤ hi + 1 at hd
          have eL : (O ++ rowsT s d).length = O.length + d := by rw [List.length_append, rowsT_len]
          by_cases hd1 : (1099511627776 + (O.length : Int)) + (d : Int) ≤ hi
          · have hstep := hstep d
            have eA : ∀ t' p, p = (if d = 0 then par else [(1099511627776 + (O.length : Int)) + d - 1]) → GLess (tabG (O ++ rowsT s d) ++ [[.slice (ints p) t']]) (tabG (O ++ rowsT s (d + 1))) := fun t' p e => by
              rw [hstep, ← e, ← List.append_assoc]; exact tab_snocLe _ _ _
            have d1 : decide ((1099511627776 + (O.length : Int)) + (d : Int) ≤ hi) = true := decide_eq_true hd1
            have qM : (1099511627776 + (O.length : Int) + (d : Int) = (M.length : Int)) = False := eq_false (by omega)
            have qO : (1099511627776 + (O.length : Int) + (d : Int) = 1099511627776 + ((O.length : Int) + (d : Int))) = True := eq_true (by omega)
            by_cases hd0 : d = 0
            · have q1 : (1099511627776 + (O.length : Int) + (d : Int) = 1099511627776 + (O.length : Int)) = True := eq_true (by omega)
              simp +contextual -implicitDefEqProofs (maxSteps := 2000000) (disch := omega) only [↓lenV, binV, ↓unV, ↓loadV, ↓storeV, ↓fieldAddrV, ↓indexAddrV, ↓allocV, ↓buildV, ↓buildSliceV, ↓appendV, ↓srcV, fillG, fillE, place, GVal.cells, grp, GVal.ofConst, ↓resV, resG, List.map, List.headD, List.take, List.drop, ↓reduceIte, Nat.reduceEqDiff, Nat.reduceAdd, Nat.reduceSub, Nat.reduceLeDiff, reduceCtorEq, implies_true, ne_eq, ↓asrcV, aggV, Tag.cap, List.replicate, allSolid, GVal.solid, Nat.reduceBEq, Nat.reduceMul, Nat.reduceLT, List.length_map, List.length_range, splice, vcA, ↓vcB, vcC, fbA, fbE, fbG, e28, d1, es, setO_3, setO_4, eL, q1, qM, qO, not_true_eq_false]
              refine ⟨by omega, by omega, fun st3 => ⟨by omega, by omega, fun st4 => ?_⟩⟩
              refine Into.rowLe 1 _ [[.slice (tabG M) (.tok 2 v), .slice (tabG (O ++ rowsT s (d + 1))) (.tok 3 st4)]] rfl ⟨⟨.refl _, .slice (eA _ par (by rw [if_pos (by omega)])), trivial⟩, trivial⟩ ?_
              exact Into.at ⟨(d + 1, st4), by show (1099511627776 + (O.length : Int)) + ((d + 1 : Nat) : Int) ≤ _; omega⟩ (by show _ < _; simp; omega) ⟨[.tok st3 1], rfl⟩ (by simp [WL, leG_self, leG_any, leG_int]; omega)
            · have q1 : (1099511627776 + (O.length : Int) + (d : Int) = 1099511627776 + (O.length : Int)) = False := eq_false (by omega)
              simp +contextual -implicitDefEqProofs (maxSteps := 2000000) (disch := omega) only [↓lenV, binV, ↓unV, ↓loadV, ↓storeV, ↓fieldAddrV, ↓indexAddrV, ↓allocV, ↓buildV, ↓buildSliceV, ↓appendV, ↓srcV, fillG, fillE, place, GVal.cells, grp, GVal.ofConst, ↓resV, resG, List.map, List.headD, List.take, List.drop, ↓reduceIte, Nat.reduceEqDiff, Nat.reduceAdd, Nat.reduceSub, Nat.reduceLeDiff, reduceCtorEq, implies_true, ne_eq, ↓asrcV, aggV, Tag.cap, List.replicate, allSolid, GVal.solid, Nat.reduceBEq, Nat.reduceMul, Nat.reduceLT, List.length_map, List.length_range, splice, vcA, ↓vcB, vcC, fbA, fbE, fbG, e28, d1, es, setO_3, setO_4, eL, q1, qM, qO, not_true_eq_false]
              refine ⟨by omega, by omega, fun st4 => ?_⟩
              refine Into.rowLe 1 _ [[.slice (tabG M) (.tok 2 v), .slice (tabG (O ++ rowsT s (d + 1))) (.tok 3 st4)]] rfl ⟨⟨.refl _, .slice (eA .full [1099511627776 + (O.length : Int) + d - 1] (by rw [if_neg (by omega)])), trivial⟩, trivial⟩ ?_
              exact Into.at ⟨(d + 1, st4), by show (1099511627776 + (O.length : Int)) + ((d + 1 : Nat) : Int) ≤ _; omega⟩ (by show _ < _; simp; omega) ⟨[], rfl⟩ (by simp [WL, leG_self, leG_any, leG_int]; omega)
          · have d1 : decide ((1099511627776 + (O.length : Int)) + (d : Int) ≤ hi) = false := decide_eq_false hd1
            have ed : d = (hi - (1099511627776 + (O.length : Int))).toNat + 1 := by omega
            rw [← ed] at hse
            simp +contextual -implicitDefEqProofs (maxSteps := 2000000) (disch := omega) only [↓lenV, binV, ↓unV, ↓loadV, ↓storeV, ↓fieldAddrV, ↓indexAddrV, ↓allocV, ↓buildV, ↓buildSliceV, ↓appendV, ↓srcV, fillG, fillE, place, GVal.cells, grp, GVal.ofConst, ↓resV, resG, List.map, List.headD, List.take, List.drop, ↓reduceIte, Nat.reduceEqDiff, Nat.reduceAdd, Nat.reduceSub, Nat.reduceLeDiff, reduceCtorEq, implies_true, ne_eq, ↓asrcV, aggV, Tag.cap, List.replicate, allSolid, GVal.solid, Nat.reduceBEq, Nat.reduceMul, Nat.reduceLT, List.length_map, List.length_range, splice, vcA, ↓vcB, vcC, fbA, fbE, fbG, e28, d1, es, setO_3, setO_4, eL]
            refine Into.at ⟨(k + 1, (M, O ++ rowsS s), v, u), by show k + 1 ≤ _; omega, hx, hfin⟩ (by show _ < _; simp; omega) ⟨[.row st2 5 [segG s]], by simp [hse, es, es1, es2, es3, es4, es5]⟩ ?_
            have er : R - (hi - (1099511627776 + (O.length : Int))) - 1 = roomT (M, O ++ rowsS s) := by
              have := rowsS_len s
              rw [es2, es3] at this
              simp only [roomT, List.length_append, this]
              omega
            simp [WL, leG_self, leG_any, leG_int, er]
    · have hk2 : k = l.length := by change k ≤ l.length at hk; omega
      have d0 : decide ((k : Int) < (l.length : Int)) = false := decide_eq_false (by omega)
      rw [List.drop_eq_nil_of_le (by omega)] at hx
      have hbi : rbackI l = if rightI M O = true ∧ buildI M O = l then some (M, O) else none := by rw [rbackI, hx]; rfl
      simp +contextual -implicitDefEqProofs (maxSteps := 2000000) (disch := omega) only [↓lenV, binV, ↓unV, ↓loadV, ↓storeV, ↓fieldAddrV, ↓indexAddrV, ↓allocV, ↓buildV, ↓buildSliceV, ↓appendV, ↓srcV, fillG, fillE, place, GVal.cells, grp, GVal.ofConst, ↓resV, resG, List.map, List.headD, List.take, List.drop, ↓reduceIte, Nat.reduceEqDiff, Nat.reduceAdd, Nat.reduceSub, Nat.reduceLeDiff, reduceCtorEq, implies_true, ne_eq, ↓asrcV, aggV, Tag.cap, List.replicate, allSolid, GVal.solid, Nat.reduceBEq, Nat.reduceMul, Nat.reduceLT, List.length_map, List.length_range, splice, vcA, ↓vcB, vcC, fbA, fbE, fbG, e28, segsG_length, d0]
      refine (spec37 M O (.tok 2 v) (.tok 3 w) (by omega) (by omega)).then ?_
      cases hr : rightI M O
      · rw [hbi, hr, if_neg (by simp)]
        simp +contextual -implicitDefEqProofs (maxSteps := 2000000) (disch := omega) only [↓lenV, binV, ↓unV, ↓loadV, ↓storeV, ↓fieldAddrV, ↓indexAddrV, ↓allocV, ↓buildV, ↓buildSliceV, ↓appendV, ↓srcV, fillG, fillE, place, GVal.cells, grp, GVal.ofConst, ↓resV, resG, List.map, List.headD, List.take, List.drop, ↓reduceIte, Nat.reduceEqDiff, Nat.reduceAdd, Nat.reduceSub, Nat.reduceLeDiff, reduceCtorEq, implies_true, ne_eq, ↓asrcV, aggV, Tag.cap, List.replicate, allSolid, GVal.solid, Nat.reduceBEq, Nat.reduceMul, Nat.reduceLT, List.length_map, List.length_range, splice, vcA, ↓vcB, vcC, fbA, fbE, fbG, e28]
        exact frz_pair _ [] [] .nil .nil false
      · have bs := build_segs M O (by omega) (by omega) hr
        have bl := build_len M O
        have c24 := (spec24 M O hlen hr (okRow_len hr) (fun s hs => by
          obtain ⟨i, hi, rfl⟩ := List.getElem_of_mem hs
          have := bs i
          rw [List.getD_eq_getElem?_getD, List.getElem?_eq_getElem hi] at this
          exact ⟨this.1, this.2.1, this.2.2.1⟩)).weakArgs (args := [.agg [.slice (tabG M) (.tok 2 v), .slice (tabG O) (.tok 3 w)]]) ⟨.agg ⟨.none, .none, trivial⟩, trivial⟩
        simp +contextual -implicitDefEqProofs (maxSteps := 2000000) (disch := omega) only [↓lenV, binV, ↓unV, ↓loadV, ↓storeV, ↓fieldAddrV, ↓indexAddrV, ↓allocV, ↓buildV, ↓buildSliceV, ↓appendV, ↓srcV, fillG, fillE, place, GVal.cells, grp, GVal.ofConst, ↓resV, resG, List.map, List.headD, List.take, List.drop, ↓reduceIte, Nat.reduceEqDiff, Nat.reduceAdd, Nat.reduceSub, Nat.reduceLeDiff, reduceCtorEq, implies_true, ne_eq, ↓asrcV, aggV, Tag.cap, List.replicate, allSolid, GVal.solid, Nat.reduceBEq, Nat.reduceMul, Nat.reduceLT, List.length_map, List.length_range, splice, vcA, ↓vcB, vcC, fbA, fbE, fbG, e28]
        refine c24.then ?_
        simp +contextual -implicitDefEqProofs (maxSteps := 2000000) (disch := omega) only [↓lenV, binV, ↓unV, ↓loadV, ↓storeV, ↓fieldAddrV, ↓indexAddrV, ↓allocV, ↓buildV, ↓buildSliceV, ↓appendV, ↓srcV, fillG, fillE, place, GVal.cells, grp, GVal.ofConst, ↓resV, resG, List.map, List.headD, List.take, List.drop, ↓reduceIte, Nat.reduceEqDiff, Nat.reduceAdd, Nat.reduceSub, Nat.reduceLeDiff, reduceCtorEq, implies_true, ne_eq, ↓asrcV, aggV, Tag.cap, List.replicate, allSolid, GVal.solid, Nat.reduceBEq, Nat.reduceMul, Nat.reduceLT, List.length_map, List.length_range, splice, vcA, ↓vcB, vcC, fbA, fbE, fbG, e28]
        refine (spec39 (buildI M O) l .none t (by omega) (fun i => by have := (bs i).2.2.2; omega)).then ?_
        by_cases he : buildI M O = l
        · rw [hbi, hr, if_pos ⟨rfl, he⟩, decide_eq_true he]
          simp +contextual -implicitDefEqProofs (maxSteps := 2000000) (disch := omega) only [↓lenV, binV, ↓unV, ↓loadV, ↓storeV, ↓fieldAddrV, ↓indexAddrV, ↓allocV, ↓buildV, ↓buildSliceV, ↓appendV, ↓srcV, fillG, fillE, place, GVal.cells, grp, GVal.ofConst, ↓resV, resG, List.map, List.headD, List.take, List.drop, ↓reduceIte, Nat.reduceEqDiff, Nat.reduceAdd, Nat.reduceSub, Nat.reduceLeDiff, reduceCtorEq, implies_true, ne_eq, ↓asrcV, aggV, Tag.cap, List.replicate, allSolid, GVal.solid, Nat.reduceBEq, Nat.reduceMul, Nat.reduceLT, List.length_map, List.length_range, splice, vcA, ↓vcB, vcC, fbA, fbE, fbG, e28]
          exact frz_pair _ M O _ _ true
        · rw [hbi, hr, if_neg (by simp [he]), decide_eq_false he]
          simp +contextual -implicitDefEqProofs (maxSteps := 2000000) (disch := omega) only [↓lenV, binV, ↓unV, ↓loadV, ↓storeV, ↓fieldAddrV, ↓indexAddrV, ↓allocV, ↓buildV, ↓buildSliceV, ↓appendV, ↓srcV, fillG, fillE, place, GVal.cells, grp, GVal.ofConst, ↓resV, resG, List.map, List.headD, List.take, List.drop, ↓reduceIte, Nat.reduceEqDiff, Nat.reduceAdd, Nat.reduceSub, Nat.reduceLeDiff, reduceCtorEq, implies_true, ne_eq, ↓asrcV, aggV, Tag.cap, List.replicate, allSolid, GVal.solid, Nat.reduceBEq, Nat.reduceMul, Nat.reduceLT, List.length_map, List.length_range, splice, vcA, ↓vcB, vcC, fbA, fbE, fbG, e28]
          exact frz_pair _ [] [] .nil .nil false
end Gv.Try
/- Contract: segments with something turned. -/
set_option linter.unusedVariables false
set_option linter.unusedSimpArgs false
set_option maxRecDepth 20000
set_option maxHeartbeats 8000000
namespace Gv.Try
open Go Gv Go.Proofs

def chgS (s : Seg) (h by_ : Int) : Seg :=
  if h = 0 then { s with lo := s.lo + 1 } else if h = 1 then { s with hi := s.hi + 1 } else if h = 2 then { s with root := !s.root } else
  if h = 3 then { s with head := !s.head } else if h = 4 then { s with par := s.par ++ [by_] } else if h = 5 then { s with par := [] } else
  if h = 6 then s else if h = 7 then { s with hi := norm .i64 (s.lo + by_) } else s
def turnK (l : List Seg) (at_ : Int) : Nat := (at_ % (l.length : Int)).toNat
def turnO (l : List Seg) (how at_ by_ : Int) : List Seg := (if how % 12 = 6 then l ++ [l.getD (turnK l at_) default] else l).set (turnK l at_) (chgS (l.getD (turnK l at_) default) (how % 12) by_)
def turnI (l : List Seg) (how at_ by_ : Int) : List Seg :=
  if l.length = 0 then l else
  if how.tmod 12 = 8 then (turnO l how at_ by_).take (turnK l at_) ++ (turnO l how at_ by_).drop (turnK l at_ + 1) else turnO l how at_ by_

theorem frz_turn (O : List GObj) (st : Nat) (l : List Seg) (k : Nat) (lo hi : Int) (p : List Int) (r h : Bool) (t : Tag) (n : Nat) (hn : n = l.length) (hO : O[0]? = some (.row st 5 ((segsG l).set k [.int .i64 lo, .int .i64 hi, .slice (ints p) t, .bool r, .bool h]))) :
    frzS (.slice (segsG (l.set k ⟨lo, hi, p, r, h⟩)) .none) (.own 0 st 0 n) O := by
  have h1 : frzLL (Gv.frz O 3) ((segsG l).set k [.int .i64 lo, .int .i64 hi, .slice (ints p) t, .bool r, .bool h]) = some ((segsG l).set k [.int .i64 lo, .int .i64 hi, .slice (ints p) t.frz, .bool r, .bool h]) := by
    clear hO hn
    unfold segsG
    induction l generalizing k with
    | nil => rfl
    | cons q m ih =>
      have hm := frz_segs O 1 m
      unfold segsG at hm
      cases k with
      | zero =>
        simp only [List.map_cons, List.set_cons_zero, frzLL, frzL, frz_intsS, hm]
        simp only [Gv.frz]
      | succ k =>
        have hq := frz_segs O 1 [q]
        simp only [segsG, List.map_cons, List.map_nil, frzLL] at hq
        simp only [List.map_cons, List.set_cons_succ, frzLL, ih k]
        revert hq
        cases frzL (Gv.frz O 3) (segG q) with
        | none => intro hq; cases hq
        | some y => intro hq; simp at hq; subst hq; rfl
  have h2 : Gv.frz O 4 (.own 0 st 0 n) = some (.slice ((segsG l).set k [.int .i64 lo, .int .i64 hi, .slice (ints p) t.frz, .bool r, .bool h]) .none) := by
    rw [Gv.frz, hO]
    simp only [true_and, Nat.zero_add, List.length_set, segsG_length, hn, Nat.le_refl, if_true, List.drop_zero]
    rw [List.take_of_length_le (by simp [segsG_length]), h1]
  refine ⟨4, _, h2, ?_⟩
  have e : segsG (l.set k ⟨lo, hi, p, r, h⟩) = (segsG l).set k [.int .i64 lo, .int .i64 hi, .slice (ints p) .none, .bool r, .bool h] := by simp [segsG, List.map_set, segG]
  rw [e]
  exact .slice (.set _ _ ⟨.refl _, .refl _, .none, .refl _, .refl _, trivial⟩)

theorem all_segsG' (l : List Seg) : ∀ y ∈ segsG l, y.length = 5 := by
  intro y hy
  obtain ⟨q, _, rfl⟩ := List.mem_map.1 hy
  rfl
theorem spec26 (l : List Seg) (how at_ by_ : Int) (hl : l.length ≤ 1000) (hb : ∀ i, 0 ≤ (l.getD i default).lo ∧ (l.getD i default).lo ≤ 2000000000000 ∧ 0 ≤ (l.getD i default).hi ∧ (l.getD i default).hi ≤ 2000000000000 ∧ (l.getD i default).par.length ≤ 4) :
    GPure Try.prog 26 [.slice (segsG l) .none, .int .i64 how, .int .i64 at_, .int .i64 by_] (.slice (segsG (turnI l how at_ by_)) .none) := by
  refine h26.pureS mixS (by simp) ?_
  simp only [gstart, s26, List.cons_append, List.nil_append, List.length_cons, List.length_nil, Nat.reduceAdd, Nat.reduceSub, List.replicate_succ, List.replicate_zero]
  by_cases h0 : l.length = 0
  · have d0 : ((l.length : Int) == 0) = true := by rw [beq_iff_eq]; omega
    rw [turnI, if_pos h0]
    simp +contextual -implicitDefEqProofs (maxSteps := 2000000) (disch := omega) only [drawC, ↓lenV, binV, ↓unV, optV, ↓loadV, ↓storeV, ↓fieldAddrV, ↓indexAddrV, ↓allocV, ↓buildSliceV, ↓sliceV, ↓appendV, ↓srcV, bound, cutTag, hiTag, fillE, GVal.cells, grp, GVal.ofConst, ↓resV, resG, List.map, List.headD, List.take, List.drop, ↓reduceIte, Nat.reduceEqDiff, Nat.reduceAdd, Nat.reduceSub, Nat.reduceLeDiff, reduceCtorEq, implies_true, ne_eq, ↓asrcV, aggV, Tag.cap, List.replicate, allSolid, GVal.solid, Nat.reduceBEq, Nat.reduceMul, Nat.reduceLT, List.length_map, List.length_range, splice, vcA, ↓vcB, vcC, fbA, fbE, fbG, e26, d0, segsG_length]
    exact ⟨3, _, frz_segsS _ 0 l .none, .refl _⟩
  · have d0 : ((l.length : Int) == 0) = false := by rw [beq_eq_false_iff_ne]; omega
    have c1 := spec25 at_ l.length (by omega) (by omega)
    have c2 := spec25 how 12 (by omega) (by omega)
    have hk0 : 0 ≤ at_ % (l.length : Int) := Int.emod_nonneg _ (by omega)
    have hk1 : at_ % (l.length : Int) < l.length := Int.emod_lt_of_pos _ (by omega)
    rw [turnI, if_neg h0, turnO]
    unfold turnK
    have h8 : how.tmod 12 = 8 → how % 12 = 8 := fun e => by
      rcases Int.le_total 0 how with q | q
      · rwa [Int.tmod_eq_emod_of_nonneg q] at e
      · have : how.tmod 12 ≤ 0 := by
          have := Int.neg_tmod (-how) 12
          rw [Int.neg_neg] at this
          have h3 := Int.tmod_nonneg (12 : Int) (a := -how) (by omega)
          omega
        omega
    generalize at_ % (l.length : Int) = k at *
    generalize how % 12 = h at *
    simp +contextual -implicitDefEqProofs (maxSteps := 2000000) (disch := omega) only [drawC, ↓lenV, binV, ↓unV, optV, ↓loadV, ↓storeV, ↓fieldAddrV, ↓indexAddrV, ↓allocV, ↓buildSliceV, ↓sliceV, ↓appendV, ↓srcV, bound, cutTag, hiTag, fillE, GVal.cells, grp, GVal.ofConst, ↓resV, resG, List.map, List.headD, List.take, List.drop, ↓reduceIte, Nat.reduceEqDiff, Nat.reduceAdd, Nat.reduceSub, Nat.reduceLeDiff, reduceCtorEq, implies_true, ne_eq, ↓asrcV, aggV, Tag.cap, List.replicate, allSolid, GVal.solid, Nat.reduceBEq, Nat.reduceMul, Nat.reduceLT, List.length_map, List.length_range, splice, vcA, ↓vcB, vcC, fbA, fbE, fbG, e26, d0, segsG_length]
    refine ⟨all_segsG' l, by omega, by omega, .inr trivial, fun st => c1.then ?_⟩
    have hkl : k.toNat < l.length := by omega
    have eM : (segsG l).getD k.toNat [] = segG (l.getD k.toNat default) := segsG_at _ _ hkl
    obtain ⟨b1, b2, b3, b4, b5⟩ := hb k.toNat
    have fin := fun O lo hi p r h t hO => frz_turn O st l k.toNat lo hi p r h t l.length rfl hO
    have hset : l.set k.toNat (l.getD k.toNat default) = l := by
      rw [List.getD_eq_getElem?_getD, List.getElem?_eq_getElem hkl]; exact List.set_getElem_self hkl
    have hsetG : (segsG l).set k.toNat (segG (l.getD k.toNat default)) = segsG l := by
      conv => rhs; rw [← hset]
      simp [segsG, List.map_set]
    generalize l.getD k.toNat default = q at *
    obtain ⟨lo, hi, par, root, head⟩ := q
    simp only at b1 b2 b3 b4 b5
    simp only [segG] at eM hsetG
    simp +contextual -implicitDefEqProofs (maxSteps := 2000000) (disch := omega) only [drawC, ↓lenV, binV, ↓unV, optV, ↓loadV, ↓storeV, ↓fieldAddrV, ↓indexAddrV, ↓allocV, ↓buildSliceV, ↓sliceV, ↓appendV, ↓srcV, bound, cutTag, hiTag, fillE, GVal.cells, grp, GVal.ofConst, ↓resV, resG, List.map, List.headD, List.take, List.drop, ↓reduceIte, Nat.reduceEqDiff, Nat.reduceAdd, Nat.reduceSub, Nat.reduceLeDiff, reduceCtorEq, implies_true, ne_eq, ↓asrcV, aggV, Tag.cap, List.replicate, allSolid, GVal.solid, Nat.reduceBEq, Nat.reduceMul, Nat.reduceLT, List.length_map, List.length_range, splice, vcA, ↓vcB, vcC, fbA, fbE, fbG, e26, eM, segsG_length, setL_3, setL_4]
    repeat (refine And.intro (by omega) ?_)
    intro st2
    refine c2.then ?_
    by_cases e8 : how.tmod 12 = 8
    · have h8 := h8 e8
      subst h8
      rw [if_pos e8]
      have eL : (if (8 : Int) = 6 then l ++ [⟨lo, hi, par, root, head⟩] else l).set k.toNat (chgS ⟨lo, hi, par, root, head⟩ 8 by_) = l := by
        rw [if_neg (by omega)]; exact hset
      rw [eL]
      have e1 : segsG (l.take k.toNat ++ l.drop (k.toNat + 1)) = (segsG l).take k.toNat ++ (segsG l).drop (k.toNat + 1) := by simp [segsG]
      have e2 : (k + 1).toNat = k.toNat + 1 := by omega
      have e3 : ((segsG l).drop (k.toNat + 1)).take (l.length - (k.toNat + 1)) = (segsG l).drop (k.toNat + 1) := List.take_of_length_le (by simp [segsG_length])
      have e4 : ((segsG l).take k.toNat).length = k.toNat := by rw [List.length_take, segsG_length]; omega
      have e5 : ((segsG l).drop (k.toNat + 1)).length = l.length - (k.toNat + 1) := by rw [List.length_drop, segsG_length]
      simp +contextual -implicitDefEqProofs (maxSteps := 2000000) (disch := omega) only [drawC, ↓lenV, binV, ↓unV, optV, ↓loadV, ↓storeV, ↓fieldAddrV, ↓indexAddrV, ↓allocV, ↓buildSliceV, ↓sliceV, ↓appendV, ↓srcV, bound, cutTag, hiTag, fillE, GVal.cells, grp, GVal.ofConst, ↓resV, resG, List.map, List.headD, List.take, List.drop, ↓reduceIte, Nat.reduceEqDiff, Nat.reduceAdd, Nat.reduceSub, Nat.reduceLeDiff, reduceCtorEq, implies_true, ne_eq, ↓asrcV, aggV, Tag.cap, List.replicate, allSolid, GVal.solid, Nat.reduceBEq, Nat.reduceMul, Nat.reduceLT, List.length_map, List.length_range, splice, vcA, ↓vcB, vcC, fbA, fbE, fbG, e26, eM, segsG_length, setL_3, setL_4, e8, Int.reduceEq, not_false_eq_true, Int.toNat_zero, Nat.sub_zero, Nat.zero_add, List.drop_zero, List.length_set, hsetG, e2, e3, e4, e5]
      have a1 : ∀ y ∈ (segsG l).take k.toNat, y.length = 5 := fun y hy => all_segsG' l y (List.mem_of_mem_take hy)
      have a2 : ∀ y ∈ (segsG l).drop (k.toNat + 1), y.length = 5 := fun y hy => all_segsG' l y (List.mem_of_mem_drop hy)
      repeat (refine And.intro (by first | omega | exact a1 | exact a2) ?_)
      intro s3
      refine ⟨⟨_, rfl⟩, ?_⟩
      repeat (refine And.intro (by first | omega | exact a1 | exact a2) ?_)
      intro s4
      rw [← e1]
      exact ⟨3, _, frz_segsS _ 0 _ _, .none⟩
    · rw [if_neg e8]
      have q8 : (how.tmod 12 = 8) = False := eq_false e8
      have two : ∀ s' : Seg, segsG ((l ++ [s']).set k.toNat s') = (segsG l ++ [segG s']).set k.toNat (segG s') := fun s' => by simp [segsG, List.map_set]
      have fin' := fun O lo' hi' p r h t l' n hn hO => frz_turn O st2 l' k.toNat lo' hi' p r h t n hn hO
      simp +contextual -implicitDefEqProofs (maxSteps := 2000000) (disch := omega) only [drawC, ↓lenV, binV, ↓unV, optV, ↓loadV, ↓storeV, ↓fieldAddrV, ↓indexAddrV, ↓allocV, ↓buildSliceV, ↓sliceV, ↓appendV, ↓srcV, bound, cutTag, hiTag, fillE, GVal.cells, grp, GVal.ofConst, ↓resV, resG, List.map, List.headD, List.take, List.drop, ↓reduceIte, Nat.reduceEqDiff, Nat.reduceAdd, Nat.reduceSub, Nat.reduceLeDiff, reduceCtorEq, implies_true, ne_eq, ↓asrcV, aggV, Tag.cap, List.replicate, allSolid, GVal.solid, Nat.reduceBEq, Nat.reduceMul, Nat.reduceLT, List.length_map, List.length_range, splice, vcA, ↓vcB, vcC, fbA, fbE, fbG, e26, eM, segsG_length, setL_3, setL_4, q8, not_false_eq_true, not_true_eq_false, Int.toNat_zero, Nat.sub_zero, Nat.zero_add, List.drop_zero, List.length_set]
      refine ⟨fun e => ?_, fun n0 => ⟨fun e => ?_, fun n1 => ⟨fun e => ?_, fun n2 => ⟨fun e => ?_, fun n3 => ⟨fun e => ?_, fun n4 => ⟨fun e => ?_, fun n5 => ⟨fun e => ?_, fun n6 => ⟨fun e => ?_, fun n7 => ?_⟩⟩⟩⟩⟩⟩⟩⟩
      all_goals try subst e
      · repeat (refine And.intro (by omega) ?_)
        exact fin _ (lo + 1) hi par root head .none rfl
      · repeat (refine And.intro (by omega) ?_)
        exact fin _ lo (hi + 1) par root head .none rfl
      · repeat (refine And.intro (by omega) ?_)
        exact fin _ lo hi par (!root) head .none rfl
      · repeat (refine And.intro (by omega) ?_)
        exact fin _ lo hi par root (!head) .none rfl
      · repeat (refine And.intro (by omega) ?_)
        intro s3
        repeat (refine And.intro (by omega) ?_)
        intro s4
        repeat (refine And.intro (by omega) ?_)
        have eI : ints par ++ [[.int .i64 by_]] = ints (par ++ [by_]) := (ints_append par [by_]).symm
        rw [eI]
        exact fin _ lo hi (par ++ [by_]) root head (.tok 2 s4) rfl
      · repeat (refine And.intro (by omega) ?_)
        exact fin _ lo hi [] root head .nil rfl
      · have eT : (segsG l).take l.length = segsG l := List.take_of_length_le (by simp [segsG_length])
        have eS : segsG l ++ [[.int .i64 lo, .int .i64 hi, .slice (ints par) .none, .bool root, .bool head]] = segsG (l ++ [⟨lo, hi, par, root, head⟩]) := by simp [segsG, segG]
        simp only [eT, eS, segsG_length, List.length_append, List.length_cons, List.length_nil]
        repeat (refine And.intro (by omega) ?_)
        intro s3
        repeat (refine And.intro (by omega) ?_)
        have e7 : ((segsG (l ++ [⟨lo, hi, par, root, head⟩])).getD k.toNat []).length = 5 := by
          rw [segsG_at _ _ (by simp; omega)]; rfl
        repeat (refine And.intro (by omega) ?_)
        rw [List.drop_eq_nil_of_le (Nat.le_of_eq e7)]
        refine frz_turn _ s3 (l ++ [⟨lo, hi, par, root, head⟩]) k.toNat lo hi par root head .none (l.length + 1) (by simp) ?_
        rfl
      · repeat (refine And.intro (by omega) ?_)
        exact fin _ lo (norm .i64 (lo + by_)) par root head .none rfl
      · have ec : l.set k.toNat (chgS ⟨lo, hi, par, root, head⟩ h by_) = l.set k.toNat ⟨lo, hi, par, root, head⟩ := by
          rw [chgS, if_neg n0, if_neg n1, if_neg n2, if_neg n3, if_neg n4, if_neg n5, if_neg n6, if_neg n7]
        rw [ec]
        repeat (refine And.intro (by omega) ?_)
        exact fin _ lo hi par root head .none rfl
end Gv.Try
