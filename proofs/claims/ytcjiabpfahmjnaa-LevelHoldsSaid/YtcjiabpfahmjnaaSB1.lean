/- The plain law of lines: right tables; what their segments are. -/
import Derived.Test.YtcjiabpfahmjnaaSA5
set_option linter.unusedVariables false
set_option linter.unusedSimpArgs false
namespace Gv.Try
open Go Gv Go.Proofs

theorem ups_mem (a : Int) (k : Nat) (x : Int) : x ∈ ups a k ↔ a ≤ x ∧ x < a + k := by
  simp only [ups, List.mem_map, List.mem_range]
  constructor
  · rintro ⟨i, h, rfl⟩; omega
  · rintro ⟨h1, h2⟩; exact ⟨(x - a).toNat, by omega, by omega⟩
theorem allI_mem (m o : Nat) (x : Int) : x ∈ allI m o ↔ (0 ≤ x ∧ x < m) ∨ (split ≤ x ∧ x < split + o) := by
  simp only [allI, List.mem_append, ups_mem]; simp
theorem allI_hasI (m o : Nat) (x : Int) : x ∈ allI m o ↔ hasI m o x = true := by rw [allI_mem, hasI, decide_eq_true_iff]

theorem getD_mem {l : List Int} {i : Nat} (h : i < l.length) : l.getD i 0 ∈ l := by simp [List.getD, h]
theorem atI_mem (n k : Int) {ids : List Int} (h : ids.length ≠ 0) : atI n k ids ∈ ids := by
  have h1 := Int.emod_nonneg (norm .i64 (n.tdiv k)) (b := (ids.length : Int)) (by omega)
  have h2 := Int.emod_lt_of_pos (norm .i64 (n.tdiv k)) (b := (ids.length : Int)) (by omega)
  exact getD_mem (by omega)
theorem lastI_mem {ids : List Int} (h : ids.length ≠ 0) : lastI ids ∈ ids := getD_mem (by omega)
theorem par_spec (n : Int) (ids : List Int) : (∀ p ∈ par n ids, p ∈ ids) ∧ (par n ids).Nodup ∧ (par n ids).length ≤ 2 := by
  unfold par
  by_cases h0 : ids.length = 0
  · simp [h0]
  have a12 := atI_mem n 12 h0
  have a144 := atI_mem n 144 h0
  have la := lastI_mem h0
  rw [if_neg h0]
  split
  · simp
  split
  · simp [a12]
  split
  · simp [a12]
  split
  · split <;> simp_all
  split
  · split <;> simp_all
  · simp [la]

theorem okRow_of {m o : Nat} {lim most : Int} : ∀ (q seen : List Int), (∀ p ∈ q, p < lim ∧ p ≤ most ∧ hasI m o p = true) → (seen ++ q).Nodup → okRow m o lim most seen q = true
  | [], _, _, _ => rfl
  | p :: r, seen, h, hn => by
    obtain ⟨h1, h2, h3⟩ := h p (by simp)
    have hs : p ∉ seen := by
      intro hp
      rw [List.nodup_append] at hn
      exact hn.2.2 p hp p (by simp) rfl
    rw [okRow, decide_eq_false (by omega), decide_eq_false (by omega), h3, decide_eq_false hs, okRow_of r (seen ++ [p]) (fun x hx => h x (by simp [hx])) (by simpa using hn)]
    rfl
theorem okG_of {m o : Nat} {most : Int} : ∀ (l : List (List Int)) (frm : Int), (∀ (k : Nat), k < l.length → (∀ p ∈ l.getD k [], p < frm + k ∧ p ≤ most ∧ hasI m o p = true) ∧ (l.getD k []).Nodup ∧ (l.getD k []).length ≤ 4) → okG m o most frm l = true
  | [], _, _ => rfl
  | q :: r, frm, h => by
    obtain ⟨h1, h2, h3⟩ := h 0 (by simp)
    simp only [List.getD_cons_zero, Int.natCast_zero, Int.add_zero] at h1 h2 h3
    rw [okG, okRow_of q [] h1 (by simpa using h2), decide_eq_true h3, okG_of r (frm + 1) fun k hk => ?_]
    · rfl
    · have := h (k + 1) (by simpa using hk)
      simp only [List.getD_cons_succ] at this
      refine ⟨fun p hp => ?_, this.2⟩
      have h4 := this.1 p hp
      exact ⟨by omega, h4.2⟩

theorem rowsM_at (x : List Int) : ∀ (n k : Nat), k < n → (rowsM x n).getD k [] = par (x.getD k 0) (allI k 0)
  | n + 1, k, h => by
    rw [rowsM]
    by_cases e : k < n
    · rw [← rowsM_at x n k e]
      simp only [List.getD_eq_getElem?_getD]
      rw [List.getElem?_append_left (by rw [rowsM_len]; exact e)]
    · have : k = n := by omega
      subst this
      simp [List.getD, List.getElem?_append_right, rowsM_len]
theorem rowsO_at (mm : Nat) (x : List Int) : ∀ (n k : Nat), k < n → (rowsO mm x n).getD k [] = par (x.getD k 0) (allI mm k)
  | n + 1, k, h => by
    rw [rowsO]
    by_cases e : k < n
    · rw [← rowsO_at mm x n k e]
      simp only [List.getD_eq_getElem?_getD]
      rw [List.getElem?_append_left (by rw [rowsO_len]; exact e)]
    · have : k = n := by omega
      subst this
      simp [List.getD, List.getElem?_append_right, rowsO_len]
theorem tabM_len (x : List Int) : (tabM x).length ≤ 25 := by rw [tabM, rowsM_len]; omega
theorem tabO_len (x y : List Int) : (tabO x y).length ≤ 25 := by rw [tabO, rowsO_len]; omega

/-- the raw tables may be -/
theorem raw_right (x y : List Int) : rightI (tabM x) (tabO x y) = true := by
  have hm := tabM_len x
  have ho := tabO_len x y
  rw [rightI, Bool.and_eq_true]
  constructor
  · refine okG_of _ _ fun k hk => ?_
    have hk' : k < min x.length 25 := by rwa [tabM, rowsM_len] at hk
    have e : (tabM x).getD k [] = _ := rowsM_at x _ k hk'
    rw [e]
    obtain ⟨h1, h2, h3⟩ := par_spec (x.getD k 0) (allI k 0)
    refine ⟨fun p hp => ?_, h2, by omega⟩
    have := (allI_mem k 0 p).1 (h1 p hp)
    have hp2 : 0 ≤ p ∧ p < k := by omega
    refine ⟨by omega, by omega, ?_⟩
    rw [hasI, decide_eq_true_iff]
    exact .inl ⟨hp2.1, by omega⟩
  · refine okG_of _ _ fun k hk => ?_
    have hk' : k < min y.length 25 := by rwa [tabO, rowsO_len] at hk
    have e : (tabO x y).getD k [] = _ := rowsO_at _ y _ k hk'
    rw [e]
    obtain ⟨h1, h2, h3⟩ := par_spec (y.getD k 0) (allI (tabM x).length k)
    refine ⟨fun p hp => ?_, h2, by omega⟩
    have := (allI_mem _ k p).1 (h1 p hp)
    have hs : split = 1099511627776 := rfl
    refine ⟨by omega, by omega, ?_⟩
    rw [hasI, decide_eq_true_iff]
    omega

/-- segments one behind the other, of a group's rows -/
def chain (frm : Int) (l : List (List Int)) : Int → List Seg → Int → Prop
  | a, [], b => a = b
  | a, s :: r, b => s.lo = a ∧ s.lo ≤ s.hi ∧ (∀ d : Int, s.lo < d → d ≤ s.hi → l.getD (d - frm).toNat [] = [d - 1]) ∧ l.getD (s.lo - frm).toNat [] = s.par ∧ s.root = decide (s.par.length = 0) ∧
      (frm < s.lo → s.par ≠ [s.lo - 1]) ∧ chain frm l (s.hi + 1) r b
theorem chain_append (frm : Int) (l : List (List Int)) : ∀ (x y : List Seg) (a b : Int), chain frm l a (x ++ y) b ↔ ∃ c, chain frm l a x c ∧ chain frm l c y b
  | [], y, a, b => by simp [chain]
  | s :: x, y, a, b => by
    simp only [List.cons_append, chain, chain_append frm l x y]
    constructor
    · rintro ⟨h1, h2, h3, h4, h5, h6, c, h7, h8⟩; exact ⟨c, ⟨h1, h2, h3, h4, h5, h6, h7⟩, h8⟩
    · rintro ⟨c, ⟨h1, h2, h3, h4, h5, h6, h7⟩, h8⟩; exact ⟨h1, h2, h3, h4, h5, h6, c, h7, h8⟩
theorem set_last {α : Type} (l : List α) (h : l ≠ []) (d x : α) : l = l.dropLast ++ [l.getD (l.length - 1) d] ∧ l.set (l.length - 1) x = l.dropLast ++ [x] := by
  have h1 := List.dropLast_concat_getLast h
  have h2 : 0 < l.length := List.length_pos_iff.2 h
  have e : l.getD (l.length - 1) d = l.getLast h := by
    rw [List.getLast_eq_getElem]; simp [List.getD, List.getElem?_eq_getElem (by omega : l.length - 1 < l.length)]
  refine ⟨by rw [e, h1], ?_⟩
  conv => lhs; rw [← h1]
  rw [List.set_append_right _ _ (by simp)]
  simp
theorem one_eq {q : List Int} {n : Int} : q.length = 1 ∧ q.getD 0 0 = n ↔ q = [n] := by
  constructor
  · rintro ⟨h1, h2⟩
    match q, h1 with
    | [a], _ => simp at h2; rw [h2]
  · rintro rfl; simp
theorem lrun_chain (frm : Int) (l : List (List Int)) : ∀ k, chain frm l frm (lrun frm l k).out (frm + k)
  | 0 => by simp [lrun, chain]
  | k + 1 => by
    have ih := lrun_chain frm l k
    have hne := (lrun_len frm l k).2
    rw [lrun, lstep]
    simp only
    generalize (lrun frm l k).out = out at *
    generalize (lrun frm l k).hs = hs at *
    have ek : (frm + (k : Int) - frm).toNat = k := by omega
    split
    · rename_i h
      obtain ⟨h0, h1⟩ := h
      rw [one_eq] at h1
      obtain ⟨e1, e2⟩ := set_last out (hne (by omega)) default { out.getD (out.length - 1) default with hi := frm + k, head := decide ((hins (hdel hs (l.getD k [])) (frm + k)).length = 1) }
      rw [e2, chain_append]
      rw [e1, chain_append] at ih
      obtain ⟨c, q1, q2⟩ := ih
      refine ⟨c, q1, ?_⟩
      generalize out.getD (out.length - 1) default = s at *
      simp only [chain] at q2 ⊢
      obtain ⟨p1, p2, p3, p4, p5, p6, p7⟩ := q2
      refine ⟨p1, by omega, fun d d1 d2 => ?_, p4, p5, p6, by omega⟩
      by_cases e : d = frm + k
      · rw [e, ek, h1]
      · exact p3 d d1 (by omega)
    · rename_i h
      rw [chain_append]
      refine ⟨_, ih, ?_⟩
      simp only [chain]
      refine ⟨trivial, by omega, fun d d1 d2 => by omega, by rw [ek], trivial, fun hlt he => h ⟨by omega, one_eq.2 he⟩, by omega⟩

theorem ups_getD (a : Int) (k i : Nat) (h : i < k) : (ups a k).getD i 0 = a + i := by simp [ups, List.getD, h]
theorem allI_getD1 (m o i : Nat) (h : i < m) : (allI m o).getD i 0 = i := by
  rw [List.getD_eq_getElem?_getD, allI, List.getElem?_append_left (by rw [ups_length]; exact h), ← List.getD_eq_getElem?_getD, ups_getD _ _ _ h]; omega
theorem allI_getD2 (m o i : Nat) (h : m ≤ i) (h2 : i < m + o) : (allI m o).getD i 0 = split + ((i - m : Nat) : Int) := by
  rw [List.getD_eq_getElem?_getD, allI, List.getElem?_append_right (by rw [ups_length]; exact h), ups_length, ← List.getD_eq_getElem?_getD, ups_getD _ _ _ (by omega)]

/-- what is asked of a table's segments, from a number of IDs on -/
def okS (m o : List (List Int)) : Nat → List Seg → Prop
  | n, [] => n = m.length + o.length
  | n, s :: r => (0 ≤ s.lo ∧ s.lo ≤ s.hi ∧ s.hi ≤ split + 1000) ∧
      (∀ d : Nat, s.lo + d ≤ s.hi → n + d < m.length + o.length ∧ (allI m.length o.length).getD (n + d) 0 = s.lo + d ∧ (d ≠ 0 → parI m o (s.lo + d) = [s.lo + d - 1])) ∧
      parI m o s.lo = s.par ∧ s.root = decide (s.par.length = 0) ∧ (s.par = [s.lo - 1] → s.lo = split) ∧ okS m o (n + (s.hi - s.lo + 1).toNat) r
theorem parI_m (m o : List (List Int)) (id : Int) (h : 0 ≤ id) (h2 : id < m.length) : parI m o id = m.getD (id - 0).toNat [] := by
  rw [parI, if_pos ⟨h, h2⟩, Int.sub_zero]
theorem parI_o (m o : List (List Int)) (id : Int) (hm : m.length ≤ 1000) (h : split ≤ id) (h2 : id < split + o.length) : parI m o id = o.getD (id - split).toNat [] := by
  rw [parI, if_neg, if_pos ⟨h, h2⟩]
  have : split = 1099511627776 := rfl
  omega
theorem chain_le (frm : Int) (l : List (List Int)) : ∀ (x : List Seg) (a b : Int), chain frm l a x b → a ≤ b
  | [], a, b, h => by simp [chain] at h; omega
  | s :: r, a, b, h => by
    simp only [chain] at h
    obtain ⟨h1, h2, _, _, _, _, h7⟩ := h
    have := chain_le frm l r _ _ h7
    omega
theorem okS_m (m o : List (List Int)) (hm : m.length ≤ 1000) (h0 : m.getD 0 [] ≠ [-1]) : ∀ (x y : List Seg) (a b : Int), 0 ≤ a → b ≤ m.length → chain 0 m a x b → okS m o b.toNat y → okS m o a.toNat (x ++ y)
  | [], y, a, b, ha, hb, hc, hy => by
    simp only [chain] at hc; subst hc; exact hy
  | s :: r, y, a, b, ha, hb, hc, hy => by
    simp only [chain] at hc
    obtain ⟨h1, h2, h3, h4, h5, h6, h7⟩ := hc
    have hle := chain_le _ _ _ _ _ h7
    have hs : split = 1099511627776 := rfl
    refine ⟨⟨by omega, h2, by omega⟩, fun d hd => ⟨by omega, ?_, fun hd0 => ?_⟩, ?_, h5, fun he => ?_, ?_⟩
    · rw [allI_getD1 _ _ _ (by omega)]; omega
    · rw [parI_m _ _ _ (by omega) (by omega)]; exact h3 _ (by omega) hd
    · rw [parI_m _ _ _ (by omega) (by omega)]; exact h4
    · by_cases e : 0 < s.lo
      · exact absurd he (h6 e)
      · have : s.lo = 0 := by omega
        rw [← h4, this] at he
        exact absurd he h0
    · have := okS_m m o hm h0 r y (s.hi + 1) b (by omega) hb h7 hy
      have e : a.toNat + (s.hi - s.lo + 1).toNat = (s.hi + 1).toNat := by omega
      rw [e]; exact this
theorem okS_o (m o : List (List Int)) (hm : m.length ≤ 1000) (ho : o.length ≤ 1000) : ∀ (x : List Seg) (a : Int), split ≤ a → chain split o a x (split + o.length) → okS m o (m.length + (a - split).toNat) x
  | [], a, ha, hc => by
    simp only [chain] at hc; subst hc; simp only [okS]; omega
  | s :: r, a, ha, hc => by
    simp only [chain] at hc
    obtain ⟨h1, h2, h3, h4, h5, h6, h7⟩ := hc
    have hle := chain_le _ _ _ _ _ h7
    have hs : split = 1099511627776 := rfl
    refine ⟨⟨by omega, h2, by omega⟩, fun d hd => ⟨by omega, ?_, fun hd0 => ?_⟩, ?_, h5, fun he => ?_, ?_⟩
    · rw [allI_getD2 _ _ _ (by omega) (by omega)]; omega
    · rw [parI_o _ _ _ hm (by omega) (by omega)]; exact h3 _ (by omega) hd
    · rw [parI_o _ _ _ hm (by omega) (by omega)]; exact h4
    · by_cases e : split < s.lo
      · exact absurd he (h6 e)
      · omega
    · have := okS_o m o hm ho r (s.hi + 1) (by omega) h7
      have e : m.length + (a - split).toNat + (s.hi - s.lo + 1).toNat = m.length + (s.hi + 1 - split).toNat := by omega
      rw [e]; exact this

theorem okRow_at {m o : Nat} {lim most : Int} : ∀ {q seen : List Int}, okRow m o lim most seen q = true → ∀ p ∈ q, p < lim ∧ p ≤ most ∧ hasI m o p = true
  | [], _, _, p, hp => by simp at hp
  | a :: r, seen, h, p, hp => by
    simp only [okRow, Bool.and_eq_true, Bool.not_eq_true', Bool.or_eq_false_iff, decide_eq_false_iff_not, Bool.not_eq_false'] at h
    rcases List.mem_cons.1 hp with rfl | hp
    · exact ⟨by omega, by omega, h.1.1.2⟩
    · exact okRow_at h.2 p hp
theorem build_okS (m o : List (List Int)) (hm : m.length ≤ 1000) (ho : o.length ≤ 1000) (hr : rightI m o = true) : okS m o 0 (buildI m o) := by
  have hr' := hr
  rw [rightI, Bool.and_eq_true] at hr'
  rw [buildI, if_pos hr]
  have c1 := lrun_chain 0 m m.length
  have c2 := lrun_chain split o o.length
  have h0 : m.getD 0 [] ≠ [-1] := by
    cases m with
    | nil => simp
    | cons q r =>
      intro e
      simp at e
      have := hr'.1
      simp only [okG, Bool.and_eq_true] at this
      have := okRow_at this.1.1 (-1) (by rw [e]; simp)
      rw [hasI, decide_eq_true_iff] at this
      have hs : split = 1099511627776 := rfl
      omega
  have k2 := okS_o m o hm ho _ split (Int.le_refl _) c2
  rw [Int.zero_add] at c1
  have e : m.length + (split - split).toNat = ((m.length : Int)).toNat := by omega
  rw [e] at k2
  exact okS_m m o hm h0 _ _ 0 m.length (by omega) (by omega) c1 k2

end Gv.Try
