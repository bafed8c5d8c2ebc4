/- The plain law of growing. -/
import Derived.Test.YtcjiabpfahmjnaaSB1
set_option linter.unusedVariables false
set_option linter.unusedSimpArgs false
namespace Gv.Try
open Go Gv Go.Proofs

theorem getD_append_left' {α : Type} (l r : List α) (i : Nat) (d : α) (h : i < l.length) : (l ++ r).getD i d = l.getD i d := by
  rw [List.getD_eq_getElem?_getD, List.getD_eq_getElem?_getD, List.getElem?_append_left h]
theorem getD_append_last {α : Type} (l : List α) (x d : α) : (l ++ [x]).getD l.length d = x := by simp [List.getD]
theorem rowsM_pre (x : List Int) (n : Int) : ∀ k, k ≤ x.length → rowsM (x ++ [n]) k = rowsM x k
  | 0, _ => rfl
  | k + 1, h => by rw [rowsM, rowsM, rowsM_pre x n k (by omega), getD_append_left' _ _ _ _ (by omega)]
theorem rowsO_pre (mm : Nat) (x : List Int) (n : Int) : ∀ k, k ≤ x.length → rowsO mm (x ++ [n]) k = rowsO mm x k
  | 0, _ => rfl
  | k + 1, h => by rw [rowsO, rowsO, rowsO_pre mm x n k (by omega), getD_append_left' _ _ _ _ (by omega)]
theorem tabM_more (x : List Int) (n : Int) (h : x.length ≤ 24) : ∃ q, tabM (x ++ [n]) = tabM x ++ [q] := by
  refine ⟨par ((x ++ [n]).getD x.length 0) (allI (rowsM x x.length).length 0), ?_⟩
  rw [tabM, tabM, show min (x ++ [n]).length 25 = x.length + 1 by simp; omega, show min x.length 25 = x.length by omega, rowsM, rowsM_pre x n _ (Nat.le_refl _)]
theorem tabO_more (m x : List Int) (n : Int) (h : x.length ≤ 24) : ∃ q, tabO m (x ++ [n]) = tabO m x ++ [q] := by
  refine ⟨par ((x ++ [n]).getD x.length 0) (allI (tabM m).length (rowsO (tabM m).length x x.length).length), ?_⟩
  rw [tabO, tabO, show min (x ++ [n]).length 25 = x.length + 1 by simp; omega, show min x.length 25 = x.length by omega, rowsO, rowsO_pre _ x n _ (Nat.le_refl _)]
theorem lrun_pre (frm : Int) (l : List (List Int)) (q : List Int) : ∀ k, k ≤ l.length → lrun frm (l ++ [q]) k = lrun frm l k
  | 0, _ => rfl
  | k + 1, h => by rw [lrun, lrun, lrun_pre frm l q k (by omega), getD_append_left' _ _ _ _ (by omega)]
theorem linesI_more (frm : Int) (l : List (List Int)) (q : List Int) : linesI frm (l ++ [q]) = (lstep frm (lrun frm l l.length) l.length q).out := by
  rw [linesI, List.length_append, List.length_singleton, lrun, lrun_pre _ _ _ _ (Nat.le_refl _), getD_append_last]

theorem hdel_mem (q : List Int) : ∀ (l : List Int) (x : Int), x ∈ hdel l q → x ∈ l := by
  induction q with
  | nil => intro l x h; exact h
  | cons p r ih => intro l x h; exact List.mem_of_mem_erase (ih _ _ h)
/-- the heads that are kept -/
theorem lrun_heads (frm : Int) (l : List (List Int)) : ∀ k, (∀ x ∈ (lrun frm l k).hs, x < frm + k) ∧ (k ≠ 0 → frm + k - 1 ∈ (lrun frm l k).hs) ∧
    (k ≠ 0 → ((lrun frm l k).out.getD ((lrun frm l k).out.length - 1) default).head = decide ((lrun frm l k).hs.length = 1))
  | 0 => by simp [lrun]
  | k + 1 => by
    obtain ⟨i1, i2, i3⟩ := lrun_heads frm l k
    have hne := (lrun_len frm l k).2
    rw [lrun]
    generalize lrun frm l k = s at *
    generalize l.getD k [] = q
    have hh : (lstep frm s k q).hs = hins (hdel s.hs q) (frm + k) := by unfold lstep; simp only; split <;> rfl
    have hm : frm + (k : Int) ∈ hins (hdel s.hs q) (frm + k) := by unfold hins; split <;> simp_all
    refine ⟨fun x hx => ?_, fun _ => ?_, fun _ => ?_⟩
    · rw [hh] at hx
      unfold hins at hx
      split at hx
      · have := i1 x (hdel_mem _ _ _ hx); omega
      · rcases List.mem_append.1 hx with hx | hx
        · have := i1 x (hdel_mem _ _ _ hx); omega
        · simp at hx; omega
    · rw [hh]; have e : frm + ((k + 1 : Nat) : Int) - 1 = frm + k := by omega
      rw [e]; exact hm
    · rw [hh]
      unfold lstep
      simp only
      split
      · rename_i h
        have h1 : 0 < s.out.length := List.length_pos_iff.2 (hne (by omega))
        rw [List.length_set, getD_set_same _ _ _ _ (by omega)]
      · simp [List.getD]

theorem hins_len {l : List Int} {p n : Int} (hp : p ∈ l) (hn : n ∉ l) : (hins (hdel l [p]) n).length = l.length := by
  have h1 : n ∉ l.erase p := fun h => hn (List.mem_of_mem_erase h)
  show (hins (l.erase p) n).length = _
  rw [hins, if_neg h1, List.length_append, List.length_erase_of_mem hp]
  have : 0 < l.length := List.length_pos_of_mem hp
  simp; omega

/-- how a table's segments grow -/
def gOK (a b : List Seg) (other : Bool) : Prop :=
  (∃ A s, a = A ++ [s] ∧ b = A ++ [{ s with hi := s.hi + 1 }]) ∨ (∃ s, b = a ++ [s] ∧ s.lo = s.hi ∧ (s.lo < split ∨ other = true))
theorem lstep_grows (frm : Int) (l : List (List Int)) (q : List Int) (other : Bool) (ho : frm + l.length < split ∨ other = true) : gOK (linesI frm l) (linesI frm (l ++ [q])) other := by
  rw [linesI_more, linesI]
  have hc := lrun_chain frm l l.length
  have hh := lrun_heads frm l l.length
  have hne := (lrun_len frm l l.length).2
  generalize lrun frm l l.length = s at *
  generalize l.length = k at *
  obtain ⟨h1, h2, h3⟩ := hh
  unfold lstep
  simp only
  split
  · rename_i h
    obtain ⟨h0, h4⟩ := h
    rw [one_eq] at h4
    left
    have hk : k ≠ 0 := by omega
    obtain ⟨e1, e2⟩ := set_last s.out (hne hk) default { s.out.getD (s.out.length - 1) default with hi := frm + k, head := decide ((hins (hdel s.hs q) (frm + k)).length = 1) }
    refine ⟨s.out.dropLast, s.out.getD (s.out.length - 1) default, e1, ?_⟩
    rw [e2]
    rw [e1, chain_append] at hc
    obtain ⟨c, _, hc⟩ := hc
    simp only [chain] at hc
    have e3 := h3 hk
    subst h4
    rw [hins_len (h2 hk) (fun hx => by have := h1 _ hx; omega), ← e3]
    have e4 : (s.out.getD (s.out.length - 1) default).hi + 1 = frm + k := hc.2.2.2.2.2.2
    rw [e4]
  · right
    exact ⟨_, rfl, rfl, ho⟩
theorem gOK_app (P : List Seg) {a b : List Seg} {other : Bool} (h : gOK a b other) : gOK (P ++ a) (P ++ b) other := by
  rcases h with ⟨A, s, rfl, rfl⟩ | ⟨s, rfl, h⟩
  · exact .inl ⟨P ++ A, s, by simp, by simp⟩
  · exact .inr ⟨s, by simp, h⟩
theorem grows_m (x : List Int) (n : Int) (h : x.length ≤ 24) : gOK (buildI (tabM x) (tabO x [])) (buildI (tabM (x ++ [n])) (tabO (x ++ [n]) [])) false := by
  have e1 := raw_right x []
  have e2 := raw_right (x ++ [n]) []
  rw [buildI, buildI, if_pos e1, if_pos e2]
  obtain ⟨q, hq⟩ := tabM_more x n h
  have e3 : ∀ m, tabO m [] = [] := fun m => rfl
  rw [e3, e3, hq, show linesI split [] = [] from rfl, List.append_nil, List.append_nil]
  refine lstep_grows 0 (tabM x) q false (.inl ?_)
  have := tabM_len x
  have hs : split = 1099511627776 := rfl
  omega
theorem grows_o (m x : List Int) (n : Int) (h : x.length ≤ 24) : gOK (buildI (tabM m) (tabO m x)) (buildI (tabM m) (tabO m (x ++ [n]))) true := by
  have e1 := raw_right m x
  have e2 := raw_right m (x ++ [n])
  rw [buildI, buildI, if_pos e1, if_pos e2]
  obtain ⟨q, hq⟩ := tabO_more m x n h
  rw [hq]
  exact gOK_app _ (lstep_grows split (tabO m x) q true (.inr rfl))

end Gv.Try
