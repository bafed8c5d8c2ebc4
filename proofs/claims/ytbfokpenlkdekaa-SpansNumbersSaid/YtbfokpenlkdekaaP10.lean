/- Sets of numbers: the greatest, the least, one by one. -/
import Derived.Test.YtbfokpenlkdekaaP9
set_option linter.unusedVariables false
namespace Gv.Sp
open Gv
abbrev sz (s : S) : Int := s.2 - s.1 + 1
/-- of a list of spans, the greatest first: the first n numbers; the rest -/
def topF : List S → Int → List S
  | [], _ => []
  | s :: r, n => if n ≤ 0 then [] else (s.2 - (min n (sz s) - 1), s.2) :: topF r (n - min n (sz s))
def topO : List S → Int → List S
  | [], _ => []
  | s :: r, n => if n ≤ 0 then s :: r else if sz s ≤ n then topO r (n - sz s) else (s.1, s.2 - n) :: r
theorem topF_cons (s : S) (r : List S) (n : Int) : topF (s :: r) n = if n ≤ 0 then [] else (s.2 - (min n (sz s) - 1), s.2) :: topF r (n - min n (sz s)) := rfl
theorem topO_cons (s : S) (r : List S) (n : Int) : topO (s :: r) n = if n ≤ 0 then s :: r else if sz s ≤ n then topO r (n - sz s) else (s.1, s.2 - n) :: r := rfl
theorem topF_zero (r : List S) (n : Int) (h : n ≤ 0) : topF r n = [] := by cases r <;> simp [topF, h]
theorem topO_zero (r : List S) (n : Int) (h : n ≤ 0) : topO r n = r := by cases r <;> simp [topO, h]
theorem topF_len : ∀ (r : List S) (n : Int), (topF r n).length ≤ r.length
  | [], n => by simp [topF]
  | s :: r, n => by
    rw [topF_cons]; split
    · simp
    · have := topF_len r (n - min n (sz s)); simp; omega
def lowF : List S → Int → List S
  | [], _ => []
  | s :: r, n => if n ≤ 0 then [] else (s.1, s.1 + (min n (sz s) - 1)) :: lowF r (n - min n (sz s))
theorem lowF_cons (s : S) (r : List S) (n : Int) : lowF (s :: r) n = if n ≤ 0 then [] else (s.1, s.1 + (min n (sz s) - 1)) :: lowF r (n - min n (sz s)) := rfl
theorem lowF_zero (r : List S) (n : Int) (h : n ≤ 0) : lowF r n = [] := by cases r <;> simp [lowF, h]
theorem lowF_len : ∀ (r : List S) (n : Int), (lowF r n).length ≤ r.length
  | [], n => by simp [lowF]
  | s :: r, n => by
    rw [lowF_cons]; split
    · simp
    · have := lowF_len r (n - min n (sz s)); simp; omega
def firstS (N : List S) (n : Int) : List S := (topF N.reverse n).reverse
def skipS (N : List S) (n : Int) : List S := (topO N.reverse n).reverse
/-- falling numbers from one on -/
def down (h : Int) (k : Nat) : List Int := (List.range k).map fun (i : Nat) => h - i
theorem down_len (h : Int) (k : Nat) : (down h k).length = k := by simp [down]
theorem down_zero (h : Int) : down h 0 = [] := rfl
theorem down_succ (h : Int) (k : Nat) : down h (k + 1) = h :: down (h - 1) k := by
  simp only [down, List.range_succ_eq_map, List.map_cons, List.map_map]
  congr 1
  · simp
  · apply List.map_congr_left; intro i _; simp; omega
theorem down_snoc (h : Int) (k : Nat) : down h (k + 1) = down h k ++ [h - k] := by simp [down, List.range_succ]
theorem down_add (h : Int) (j : Nat) : ∀ k, down h (j + k) = down h j ++ down (h - j) k
  | 0 => by simp [down_zero]
  | k + 1 => by rw [← Nat.add_assoc, down_snoc, down_add h j k, down_snoc, List.append_assoc]; congr 3; simp; omega
theorem down_mem (n h : Int) (k : Nat) : n ∈ down h k ↔ h - k < n ∧ n ≤ h := by
  simp only [down, List.mem_map, List.mem_range]
  constructor
  · rintro ⟨i, hi, rfl⟩; omega
  · rintro ⟨h1, h2⟩; exact ⟨(h - n).toNat, by omega, by omega⟩
theorem down_pw (h : Int) (k : Nat) : (down h k).Pairwise (fun a b => b < a) := by
  simp only [down, List.pairwise_map]
  exact List.pairwise_lt_range.imp fun {a b} hab => by omega
/-- all numbers, of spans the greatest first -/
def elsR (r : List S) : List Int := r.flatMap fun s => down s.2 (sz s).toNat
def els (N : List S) : List Int := elsR N.reverse
theorem elsR_cons (s : S) (r : List S) : elsR (s :: r) = down s.2 (sz s).toNat ++ elsR r := rfl
theorem elsR_app (a b : List S) : elsR (a ++ b) = elsR a ++ elsR b := by simp [elsR]
theorem els_cons (s : S) (r : List S) : els (s :: r) = els r ++ down s.2 (sz s).toNat := by simp [els, elsR]
theorem els_nil : els [] = [] := rfl
theorem els_snoc (A : List S) (s : S) : els (A ++ [s]) = down s.2 (sz s).toNat ++ els A := by simp [els, elsR_cons]
theorem elsR_top : ∀ (r : List S) (n : Int), (∀ s ∈ r, s.1 ≤ s.2) → elsR (topF r n) = (elsR r).take n.toNat
  | [], n, _ => by simp [topF, elsR]
  | s :: r, n, h => by
    have hs := h s (by simp)
    rw [topF_cons]
    split
    · have : n.toNat = 0 := by omega
      rw [this]; rfl
    · rw [elsR_cons, elsR_cons, elsR_top r _ (fun x hx => h x (by simp [hx])), List.take_append, down_len]
      have hz : sz s = s.2 - s.1 + 1 := rfl
      have hz' : sz (s.2 - (min n (sz s) - 1), s.2) = s.2 - (s.2 - (min n (sz s) - 1)) + 1 := rfl
      have e1 : (sz (s.2 - (min n (sz s) - 1), s.2)).toNat = min n.toNat (sz s).toNat := by omega
      rw [e1]
      have e2 : (n - min n (sz s)).toNat = n.toNat - (sz s).toNat := by omega
      rw [e2]
      congr 1
      show down s.2 _ = _
      by_cases c : n.toNat ≤ (sz s).toNat
      · obtain ⟨j, hj⟩ := Nat.exists_eq_add_of_le c
        rw [hj, Nat.min_eq_left (by omega), down_add, List.take_append_of_le_length (by rw [down_len]; omega), List.take_of_length_le (by rw [down_len]; omega)]
      · rw [Nat.min_eq_right (by omega), List.take_of_length_le (by rw [down_len]; omega)]
theorem elsR_rest : ∀ (r : List S) (n : Int), (∀ s ∈ r, s.1 ≤ s.2) → elsR (topO r n) = (elsR r).drop n.toNat
  | [], n, _ => by simp [topO, elsR]
  | s :: r, n, h => by
    have hs := h s (by simp)
    rw [topO_cons]
    split
    · have : n.toNat = 0 := by omega
      rw [this]; rfl
    · split
      · rw [elsR_rest r _ (fun x hx => h x (by simp [hx])), elsR_cons, List.drop_append, down_len, List.drop_of_length_le (l := down s.2 (sz s).toNat) (by rw [down_len]; omega), List.nil_append]
        have hz : sz s = s.2 - s.1 + 1 := rfl
        congr 1; omega
      · rw [elsR_cons, elsR_cons, List.drop_append_of_le_length (by rw [down_len]; omega)]
        congr 1
        have hz : sz s = s.2 - s.1 + 1 := rfl
        have hz' : sz (s.1, s.2 - n) = s.2 - n - s.1 + 1 := rfl
        have e : (sz s).toNat = n.toNat + (sz (s.1, s.2 - n)).toNat := by omega
        rw [e, down_add, List.drop_append_of_le_length (by rw [down_len]; exact Nat.le_refl _), List.drop_of_length_le (by rw [down_len]; exact Nat.le_refl _), List.nil_append]
        congr 1; show s.2 - n = _; omega
theorem Rt.all_le {N : List S} {b : Int} (h : Rt b N) : ∀ s ∈ N, s.1 ≤ s.2 := fun s hs => (h.mem hs).2
theorem els_first {N : List S} (h : Rt 0 N) (n : Int) : els (firstS N n) = (els N).take n.toNat := by
  rw [els, firstS, List.reverse_reverse, elsR_top _ _ (fun s hs => h.all_le s (by simpa using hs))]; rfl
theorem els_skip {N : List S} (h : Rt 0 N) (n : Int) : els (skipS N n) = (els N).drop n.toNat := by
  rw [els, skipS, List.reverse_reverse, elsR_rest _ _ (fun s hs => h.all_le s (by simpa using hs))]; rfl
theorem els_low : ∀ (N : List S) (n : Int), (∀ s ∈ N, s.1 ≤ s.2) → els (lowF N n) = (els N).drop ((els N).length - n.toNat)
  | [], n, _ => by simp [lowF, els, elsR]
  | s :: r, n, h => by
    have hs := h s (by simp)
    rw [lowF_cons]
    split
    · have : n.toNat = 0 := by omega
      rw [this, Nat.sub_zero, List.drop_length]; rfl
    · rw [els_cons, els_cons, els_low r _ (fun x hx => h x (by simp [hx])), List.length_append, down_len]
      have hz : sz s = s.2 - s.1 + 1 := rfl
      have e2 : (n - min n (sz s)).toNat = n.toNat - (sz s).toNat := by omega
      have hz' : sz (s.1, s.1 + (min n (sz s) - 1)) = s.1 + (min n (sz s) - 1) - s.1 + 1 := rfl
      have e1 : (sz (s.1, s.1 + (min n (sz s) - 1))).toNat = min n.toNat (sz s).toNat := by omega
      rw [e1, e2]
      show _ ++ down (s.1 + (min n (sz s) - 1)) _ = _
      by_cases c : n.toNat ≤ (sz s).toNat
      · obtain ⟨j, hj⟩ := Nat.exists_eq_add_of_le' c
        have e3 : n.toNat - (sz s).toNat = 0 := by omega
        rw [e3, Nat.sub_zero, List.drop_length, List.nil_append, Nat.min_eq_left c, List.drop_append]
        have e4 : (els r).length + (sz s).toNat - n.toNat = (els r).length + j := by omega
        rw [e4, List.drop_of_length_le (by omega), List.nil_append]
        have e5 : (els r).length + j - (els r).length = j := by omega
        rw [e5, hj, down_add, List.drop_append_of_le_length (by rw [down_len]; exact Nat.le_refl _), List.drop_of_length_le (by rw [down_len]; exact Nat.le_refl _), List.nil_append]
        congr 1
        have e6 : min n (sz s) = n := by omega
        rw [e6]
        have : sz s = j + n := by omega
        simp only [sz] at this
        omega
      · have e4 : (els r).length + (sz s).toNat - n.toNat = (els r).length - (n.toNat - (sz s).toNat) := by omega
        rw [e4, List.drop_append_of_le_length (by omega), Nat.min_eq_right (by omega)]
        congr 2
        have e6 : min n (sz s) = sz s := by omega
        rw [e6]; simp only [sz]; omega
theorem els_mem : ∀ {N : List S} {b : Int}, Rt b N → 0 ≤ b → ∀ n, n ∈ els N ↔ has N n
  | [], b, _, _, n => by simp [els, elsR, has_nil]
  | s :: r, b, ⟨h1, h2, h3⟩, hb, n => by
    rw [els_cons, List.mem_append, els_mem h3 (by omega), has_cons, down_mem, or_comm]
    refine or_congr ?_ Iff.rfl
    simp only [sz]; omega
theorem els_len : ∀ {N : List S} {b : Int}, Rt b N → ((els N).length : Int) = tot N
  | [], b, _ => rfl
  | s :: r, b, ⟨h1, h2, h3⟩ => by
    have := els_len h3
    rw [els_cons, List.length_append, down_len, tot]
    simp only [sz]; omega
theorem els_pw : ∀ {N : List S} {b : Int}, Rt b N → 0 ≤ b → (els N).Pairwise (fun a b => b < a)
  | [], b, _, _ => by simp [els, elsR]
  | s :: r, b, ⟨h1, h2, h3⟩, hb => by
    rw [els_cons, List.pairwise_append]
    refine ⟨els_pw h3 (by omega), down_pw _ _, fun x hx y hy => ?_⟩
    have := h3.ge ((els_mem h3 (by omega) x).1 hx)
    have := (down_mem _ _ _).1 hy
    omega
theorem els_inj {a b : List S} (ha : Rt 0 a) (hb : Rt 0 b) (h : els a = els b) : a = b := eqv ha hb fun n => by rw [← els_mem ha (by omega), ← els_mem hb (by omega), h]
theorem topF_rt : ∀ (r : List S) (n : Int), Rt 0 r.reverse → Rt 0 (topF r n).reverse ∧ ∀ s ∈ topF r n, ∀ b, (∀ x ∈ r, x.2 < b) → s.2 < b
  | [], n, _ => by simp [topF, Rt]
  | s :: r, n, h => by
    rw [List.reverse_cons] at h
    obtain ⟨h1, h2, h3, h4⟩ := (Rt_snoc s _ 0).1 h
    rw [topF_cons]
    split
    · exact ⟨trivial, by simp⟩
    · obtain ⟨i1, i2⟩ := topF_rt r (n - min n (sz s)) h1
      have hk : 1 ≤ min n (sz s) ∧ min n (sz s) ≤ sz s := by simp only [sz]; omega
      simp only [sz] at hk
      constructor
      · rw [List.reverse_cons]
        refine (Rt_snoc _ _ 0).2 ⟨i1, by show 0 ≤ s.2 - (min n (s.2 - s.1 + 1) - 1); omega, by show s.2 - (min n (s.2 - s.1 + 1) - 1) ≤ s.2; omega, fun y hy => ?_⟩
        have := i2 y (by simpa using hy) (s.1 - 1) (fun x hx => by have := h4 x (by simpa using hx); omega)
        show y.2 + 2 ≤ s.2 - (min n (s.2 - s.1 + 1) - 1)
        omega
      · intro x hx b hb
        rcases List.mem_cons.1 hx with rfl | hx
        · exact hb s (by simp)
        · exact i2 x hx b fun z hz => hb z (by simp [hz])
theorem topO_rt : ∀ (r : List S) (n : Int), Rt 0 r.reverse → Rt 0 (topO r n).reverse
  | [], n, _ => trivial
  | s :: r, n, h => by
    have h' := h
    rw [List.reverse_cons] at h
    obtain ⟨h1, h2, h3, h4⟩ := (Rt_snoc s _ 0).1 h
    rw [topO_cons]
    split
    · exact h'
    · split
      · exact topO_rt r _ h1
      · rename_i c
        simp only [sz] at c
        rw [List.reverse_cons]
        exact (Rt_snoc _ _ 0).2 ⟨h1, h2, by show s.1 ≤ s.2 - n; omega, h4⟩
theorem first_rt {N : List S} (h : Rt 0 N) (n : Int) : Rt 0 (firstS N n) := (topF_rt N.reverse n (by simpa using h)).1
theorem skip_rt {N : List S} (h : Rt 0 N) (n : Int) : Rt 0 (skipS N n) := topO_rt N.reverse n (by simpa using h)
theorem low_rt : ∀ (N : List S) (n b : Int), Rt b N → Rt b (lowF N n)
  | [], n, b, _ => trivial
  | s :: r, n, b, ⟨h1, h2, h3⟩ => by
    rw [lowF_cons]
    split
    · trivial
    · have hk : 1 ≤ min n (sz s) ∧ min n (sz s) ≤ sz s := by simp only [sz]; omega
      simp only [sz] at hk
      exact ⟨h1, by show s.1 ≤ s.1 + (min n (s.2 - s.1 + 1) - 1); omega, (low_rt r _ _ h3).weak (by show s.1 + (min n (s.2 - s.1 + 1) - 1) + 2 ≤ _; omega)⟩
theorem nf_rev {N : List S} (h : Rt 0 N) : nf N.reverse = N := nf_eq h fun n => has_perm (List.reverse_perm N).symm n
theorem first_nf {N : List S} (h : Rt 0 N) (n : Int) : nf (topF N.reverse n) = firstS N n := by
  have := nf_rev (first_rt h n)
  rwa [firstS, List.reverse_reverse] at this
theorem first_len (N : List S) (n : Int) : (firstS N n).length ≤ N.length := by have := topF_len N.reverse n; simpa [firstS] using this
theorem topO_len : ∀ (r : List S) (n : Int), (topO r n).length ≤ r.length
  | [], n => by simp [topO]
  | s :: r, n => by
    rw [topO_cons]; split
    · exact Nat.le_refl _
    · split
      · have := topO_len r (n - sz s); simp; omega
      · simp
theorem skip_len (N : List S) (n : Int) : (skipS N n).length ≤ N.length := by have := topO_len N.reverse n; simpa [skipS] using this
/-- all three are parts of the set -/
theorem first_has {N : List S} (h : Rt 0 N) (n m : Int) (hm : has (firstS N n) m) : has N m := by
  rw [← els_mem (first_rt h n) (by omega), els_first h] at hm
  exact (els_mem h (by omega) m).1 (List.mem_of_mem_take hm)
theorem skip_has {N : List S} (h : Rt 0 N) (n m : Int) (hm : has (skipS N n) m) : has N m := by
  rw [← els_mem (skip_rt h n) (by omega), els_skip h] at hm
  exact (els_mem h (by omega) m).1 (List.mem_of_mem_drop hm)
theorem low_has {N : List S} (h : Rt 0 N) (n m : Int) (hm : has (lowF N n) m) : has N m := by
  rw [← els_mem (low_rt N n 0 h) (by omega), els_low N n h.all_le] at hm
  exact (els_mem h (by omega) m).1 (List.mem_of_mem_drop hm)
theorem first_ok {N : List S} (h : Rt 0 N) (ho : Ok N) (n : Int) : Ok (firstS N n) := ok_of (first_rt h n) (by omega) fun m hm => ho.has (first_has h n m hm)
theorem skip_ok {N : List S} (h : Rt 0 N) (ho : Ok N) (n : Int) : Ok (skipS N n) := ok_of (skip_rt h n) (by omega) fun m hm => ho.has (skip_has h n m hm)
theorem low_ok {N : List S} (h : Rt 0 N) (ho : Ok N) (n : Int) : Ok (lowF N n) := ok_of (low_rt N n 0 h) (by omega) fun m hm => ho.has (low_has h n m hm)
/-- a falling list, parted -/
theorem pw_part {l : List Int} (h : l.Pairwise (fun a b => b < a)) (k : Nat) (m : Int) : m ∈ l.drop k ↔ m ∈ l ∧ ¬ m ∈ l.take k := by
  have e := List.take_append_drop k l
  rw [← e, List.pairwise_append] at h
  obtain ⟨_, _, h3⟩ := h
  constructor
  · refine fun hm => ⟨List.mem_of_mem_drop hm, fun ht => ?_⟩
    have := h3 m ht m hm; omega
  · rintro ⟨hm, ht⟩
    rw [← e, List.mem_append] at hm
    exact hm.resolve_left ht
theorem skip_eq {N : List S} (h : Rt 0 N) (ho : Ok N) (n : Int) : skipS N n = minus N (firstS N n) := eqv (skip_rt h n) (minus_rt _ _) fun m => by
  rw [minus_has ho (first_ok h ho n), ← els_mem (skip_rt h n) (by omega), ← els_mem (first_rt h n) (by omega), ← els_mem h (by omega), els_skip h, els_first h]
  exact pw_part (els_pw h (by omega)) _ _
/-- the set of falling numbers -/
theorem of_els {N : List S} (h : Rt 0 N) : nf ((els N).map fun i => (i, i)) = N := nf_eq h fun n => by
  rw [← els_mem h (by omega)]
  simp only [has, List.mem_map]
  constructor
  · exact fun hn => ⟨(n, n), ⟨n, hn, rfl⟩, by have := h.ge ((els_mem h (by omega) n).1 hn); omega, Int.le_refl _, Int.le_refl _⟩
  · rintro ⟨s, ⟨i, hi, rfl⟩, h0, h1, h2⟩
    have : i = n := by simp only at h1 h2; omega
    exact this ▸ hi
theorem tot_small : ∀ {N : List S} {b : Int} (t : Int), Rt b N → (∀ s ∈ N, s.2 ≤ t) → tot N ≤ max 0 (t + 1 - b)
  | [], b, t, _, _ => by simp [tot]; omega
  | s :: r, b, t, ⟨h1, h2, h3⟩, h => by
    have := tot_small t h3 fun x hx => h x (by simp [hx])
    have := h s (by simp)
    unfold tot; omega
end Gv.Sp
/- Contracts: Low, High, Of, Last, First, Skip, IDs. -/
set_option linter.unusedVariables false
set_option linter.unusedSimpArgs false
set_option maxRecDepth 20000
set_option maxHeartbeats 4000000
namespace Gv.Try
open Go Gv Go.Proofs
open Gv.Sp (Lim)

theorem WL_self : ∀ l : List GVal, WL l l
  | [] => trivial
  | x :: r => ⟨by rw [leG_self]; trivial, WL_self r⟩
def lowV (N : List Sp.S) : GVal := .tuple [.int .i64 (N.getD 0 (0, 0)).1, .bool (decide (0 < N.length))]
def highV (N : List Sp.S) : GVal := .tuple [.int .i64 (N.getD (N.length - 1) (0, 0)).2, .bool (decide (0 < N.length))]
theorem sLow (l : List Sp.S) (t : Tag) (hl : l.length ≤ 4398046511104) (ho : Sp.Ok l) : GPure Try.prog 32 [.slice (spl l) t] (lowV (Sp.nf l)) := by
  refine h32.pure mixS (by simp) ?_
  simp only [gstart, s32, List.cons_append, List.nil_append, List.length_cons, List.length_nil, Nat.reduceAdd, Nat.reduceSub, List.replicate_succ, List.replicate_zero]
  simp +contextual -implicitDefEqProofs (maxSteps := 2000000) (disch := omega) only [↓lenV, binV, ↓loadV, ↓fieldAddrV, ↓indexAddrV, GVal.cells, grp, GVal.ofConst, ↓resV, resG, List.map, List.headD, List.take, List.drop, ↓reduceIte, Nat.reduceEqDiff, Nat.reduceAdd, Nat.reduceSub, Nat.reduceLeDiff, reduceCtorEq, implies_true, ne_eq, aggV, Tag.cap, List.replicate, allSolid, GVal.solid, Nat.reduceBEq, Nat.reduceMul, Nat.reduceLT, List.length_map, List.length_range, splice, vcA, ↓vcB, vcC, fbSpc, e32]
  refine (sMake l t hl ho).then ?_ (by rfl)
  have hN := Sp.nf_len l
  generalize Sp.nf l = N at *
  cases N with
  | nil =>
    simp +contextual -implicitDefEqProofs (maxSteps := 2000000) (disch := omega) only [↓lenV, binV, ↓loadV, ↓fieldAddrV, ↓indexAddrV, GVal.cells, grp, GVal.ofConst, ↓resV, resG, List.map, List.headD, List.take, List.drop, ↓reduceIte, Nat.reduceEqDiff, Nat.reduceAdd, Nat.reduceSub, Nat.reduceLeDiff, reduceCtorEq, implies_true, ne_eq, aggV, Tag.cap, List.replicate, allSolid, GVal.solid, Nat.reduceBEq, Nat.reduceMul, Nat.reduceLT, List.length_map, List.length_range, splice, vcA, ↓vcB, vcC, fbSpc, e32, spl_nil, spl_length]
    exact WL_self _
  | cons s r =>
    have d0 : ((r.length : Int) + 1 = 0) = False := eq_false (by omega)
    simp +contextual -implicitDefEqProofs (maxSteps := 2000000) (disch := omega) only [↓lenV, binV, ↓loadV, ↓fieldAddrV, ↓indexAddrV, GVal.cells, grp, GVal.ofConst, ↓resV, resG, List.map, List.headD, List.take, List.drop, ↓reduceIte, Nat.reduceEqDiff, Nat.reduceAdd, Nat.reduceSub, Nat.reduceLeDiff, reduceCtorEq, implies_true, ne_eq, aggV, Tag.cap, List.replicate, allSolid, GVal.solid, Nat.reduceBEq, Nat.reduceMul, Nat.reduceLT, List.length_map, List.length_range, splice, vcA, ↓vcB, vcC, fbSpc, e32, spl_cons, spl_length, spG, d0, Int.reduceToNat]
    exact ⟨by omega, by omega, WL_self _⟩
theorem sHigh (l : List Sp.S) (t : Tag) (hl : l.length ≤ 4398046511104) (ho : Sp.Ok l) : GPure Try.prog 33 [.slice (spl l) t] (highV (Sp.nf l)) := by
  refine h33.pure mixS (by simp) ?_
  simp only [gstart, s33, List.cons_append, List.nil_append, List.length_cons, List.length_nil, Nat.reduceAdd, Nat.reduceSub, List.replicate_succ, List.replicate_zero]
  simp +contextual -implicitDefEqProofs (maxSteps := 2000000) (disch := omega) only [↓lenV, binV, ↓loadV, ↓fieldAddrV, ↓indexAddrV, GVal.cells, grp, GVal.ofConst, ↓resV, resG, List.map, List.headD, List.take, List.drop, ↓reduceIte, Nat.reduceEqDiff, Nat.reduceAdd, Nat.reduceSub, Nat.reduceLeDiff, reduceCtorEq, implies_true, ne_eq, aggV, Tag.cap, List.replicate, allSolid, GVal.solid, Nat.reduceBEq, Nat.reduceMul, Nat.reduceLT, List.length_map, List.length_range, splice, vcA, ↓vcB, vcC, fbSpc, e33]
  refine (sMake l t hl ho).then ?_ (by rfl)
  have hN := Sp.nf_len l
  generalize Sp.nf l = N at *
  by_cases h : N.length = 0
  · have e : N = [] := List.length_eq_zero_iff.1 h
    subst e
    simp +contextual -implicitDefEqProofs (maxSteps := 2000000) (disch := omega) only [↓lenV, binV, ↓loadV, ↓fieldAddrV, ↓indexAddrV, GVal.cells, grp, GVal.ofConst, ↓resV, resG, List.map, List.headD, List.take, List.drop, ↓reduceIte, Nat.reduceEqDiff, Nat.reduceAdd, Nat.reduceSub, Nat.reduceLeDiff, reduceCtorEq, implies_true, ne_eq, aggV, Tag.cap, List.replicate, allSolid, GVal.solid, Nat.reduceBEq, Nat.reduceMul, Nat.reduceLT, List.length_map, List.length_range, splice, vcA, ↓vcB, vcC, fbSpc, e33, spl_nil, spl_length]
    exact WL_self _
  · have d0 : ((N.length : Int) = 0) = False := eq_false (by omega)
    have d1 : ((N.length : Int) - 1).toNat = N.length - 1 := by omega
    have eS := spl_at N (N.length - 1) (by omega)
    simp +contextual -implicitDefEqProofs (maxSteps := 2000000) (disch := omega) only [↓lenV, binV, ↓loadV, ↓fieldAddrV, ↓indexAddrV, GVal.cells, grp, GVal.ofConst, ↓resV, resG, List.map, List.headD, List.take, List.drop, ↓reduceIte, Nat.reduceEqDiff, Nat.reduceAdd, Nat.reduceSub, Nat.reduceLeDiff, reduceCtorEq, implies_true, ne_eq, aggV, Tag.cap, List.replicate, allSolid, GVal.solid, Nat.reduceBEq, Nat.reduceMul, Nat.reduceLT, List.length_map, List.length_range, splice, vcA, ↓vcB, vcC, fbSpc, e33, spl_length, spG, d0, d1, eS]
    have e : decide (0 < N.length) = true := decide_eq_true (by omega)
    exact ⟨by omega, by omega, by rw [highV, e]; exact WL_self _⟩

theorem sOf (l : List Int) (t : Tag) (hl : l.length ≤ 1000) (hi : ∀ i, -9223372036854775808 ≤ l.getD i 0 ∧ l.getD i 0 ≤ 9223372036854775807) : GPure Try.prog 25 [.slice (ints l) t] (.slice (spl (Sp.nf (l.map fun i => (i, i)))) .none) := by
  have ho : Sp.Ok (l.map fun i => ((i, i) : Sp.S)) := fun s hs => by
    obtain ⟨i, h, rfl⟩ := List.mem_map.1 hs
    obtain ⟨j, hj, rfl⟩ := List.getElem_of_mem h
    have := hi j
    rw [List.getD_eq_getElem?_getD, List.getElem?_eq_getElem hj] at this
    exact ⟨this, this⟩
  refine h25.pure mixS (by simp) ?_
  simp only [gstart, s25, List.cons_append, List.nil_append, List.length_cons, List.length_nil, Nat.reduceAdd, Nat.reduceSub, List.replicate_succ, List.replicate_zero]
  simp +contextual -implicitDefEqProofs (maxSteps := 2000000) (disch := omega) only [↓lenV, binV, optV, ↓loadV, ↓indexAddrV, ↓buildV, ↓buildSliceV, ↓sliceV, ↓appendV, ↓srcV, bound, cutTag, hiTag, fillG, fillE, place, GVal.cells, grp, GVal.ofConst, ↓resV, resG, List.map, List.headD, List.take, List.drop, ↓reduceIte, Nat.reduceEqDiff, Nat.reduceAdd, Nat.reduceSub, Nat.reduceLeDiff, reduceCtorEq, implies_true, ne_eq, ↓asrcV, Tag.cap, List.replicate, allSolid, GVal.solid, Nat.reduceBEq, Nat.reduceMul, Nat.reduceLT, List.length_map, List.length_range, splice, vcA, ↓vcB, vcC, fbSpc, e25]
  refine vcSLoop_by (ι := { p : Nat × Nat // p.1 ≤ l.length }) (fun p => ⟨[.any, .any, .any, .slice (spl ((l.take p.1.1).map fun i => (i, i))) (.tok 0 p.1.2), .any, .any, .slice (ints l) t, .int .i64 l.length, .int .i64 (p.1.1 : Nat)] ++ List.replicate 12 .any, [.tok p.1.2 2]⟩) (fun p => l.length - p.1.1) ?_ ?_
  · refine Into.tok 3 2 [] rfl rfl ?_
    simp +contextual -implicitDefEqProofs (maxSteps := 2000000) (disch := omega) only [↓lenV, binV, optV, ↓loadV, ↓indexAddrV, ↓buildV, ↓buildSliceV, ↓sliceV, ↓appendV, ↓srcV, bound, cutTag, hiTag, fillG, fillE, place, GVal.cells, grp, GVal.ofConst, ↓resV, resG, List.map, List.headD, List.take, List.drop, ↓reduceIte, Nat.reduceEqDiff, Nat.reduceAdd, Nat.reduceSub, Nat.reduceLeDiff, reduceCtorEq, implies_true, ne_eq, ↓asrcV, Tag.cap, List.replicate, allSolid, GVal.solid, Nat.reduceBEq, Nat.reduceMul, Nat.reduceLT, List.length_map, List.length_range, splice, vcA, ↓vcB, vcC, fbSpc, e25]
    intro t0
    exact Into.first ⟨(0, t0), by omega⟩ ⟨[], by simp⟩ (by simp [WL, leG_self, leG_any, spl_nil])
  · rintro ⟨⟨k, v⟩, hk⟩
    simp only [] at hk
    by_cases h : k < l.length
    · have d0 : ((k : Int) < (l.length : Int)) = True := eq_true (by omega)
      have eN : (l.take (k + 1)).map (fun i => ((i, i) : Sp.S)) = (l.take k).map (fun i => (i, i)) ++ [(l.getD k 0, l.getD k 0)] := by rw [List.take_add_one, List.map_append]; simp [List.getD, h]
      have hz : ((l.take k).map (fun i => ((i, i) : Sp.S))).length ≤ 1000 := by simp; omega
      generalize (l.take k).map (fun i => ((i, i) : Sp.S)) = Z at *
      simp +contextual -implicitDefEqProofs (maxSteps := 2000000) (disch := omega) only [↓lenV, binV, optV, ↓loadV, ↓indexAddrV, ↓buildV, ↓buildSliceV, ↓sliceV, ↓appendV, ↓srcV, bound, cutTag, hiTag, fillG, fillE, place, GVal.cells, grp, GVal.ofConst, ↓resV, resG, List.map, List.headD, List.take, List.drop, ↓reduceIte, Nat.reduceEqDiff, Nat.reduceAdd, Nat.reduceSub, Nat.reduceLeDiff, reduceCtorEq, implies_true, ne_eq, ↓asrcV, Tag.cap, List.replicate, allSolid, GVal.solid, Nat.reduceBEq, Nat.reduceMul, Nat.reduceLT, List.length_map, List.length_range, splice, vcA, ↓vcB, vcC, fbSpc, e25, d0, spl_length, all_spl]
      refine ⟨by omega, by omega, by omega, fun st => ?_⟩
      refine Into.at ⟨(k + 1, st), by show k + 1 ≤ _; omega⟩ (by show _ < _; simp; omega) ⟨[], by simp⟩ ?_
      simp [WL, leG_self, leG_any, leG_int, leG_tok, eN, spl_append, spl_cons, spl_nil, spG]
    · have d0 : ((k : Int) < (l.length : Int)) = False := eq_false (by omega)
      rw [List.take_of_length_le (l := l) (i := k) (by omega)]
      simp +contextual -implicitDefEqProofs (maxSteps := 2000000) (disch := omega) only [↓lenV, binV, optV, ↓loadV, ↓indexAddrV, ↓buildV, ↓buildSliceV, ↓sliceV, ↓appendV, ↓srcV, bound, cutTag, hiTag, fillG, fillE, place, GVal.cells, grp, GVal.ofConst, ↓resV, resG, List.map, List.headD, List.take, List.drop, ↓reduceIte, Nat.reduceEqDiff, Nat.reduceAdd, Nat.reduceSub, Nat.reduceLeDiff, reduceCtorEq, implies_true, ne_eq, ↓asrcV, Tag.cap, List.replicate, allSolid, GVal.solid, Nat.reduceBEq, Nat.reduceMul, Nat.reduceLT, List.length_map, List.length_range, splice, vcA, ↓vcB, vcC, fbSpc, e25, d0, false_imp_iff, true_and]
      refine (sMake _ _ (by simp; omega) ho).then ?_ (by rfl)
      simp +contextual -implicitDefEqProofs (maxSteps := 2000000) (disch := omega) only [↓lenV, binV, optV, ↓loadV, ↓indexAddrV, ↓buildV, ↓buildSliceV, ↓sliceV, ↓appendV, ↓srcV, bound, cutTag, hiTag, fillG, fillE, place, GVal.cells, grp, GVal.ofConst, ↓resV, resG, List.map, List.headD, List.take, List.drop, ↓reduceIte, Nat.reduceEqDiff, Nat.reduceAdd, Nat.reduceSub, Nat.reduceLeDiff, reduceCtorEq, implies_true, ne_eq, ↓asrcV, Tag.cap, List.replicate, allSolid, GVal.solid, Nat.reduceBEq, Nat.reduceMul, Nat.reduceLT, List.length_map, List.length_range, splice, vcA, ↓vcB, vcC, fbSpc, e25]

theorem sLast (l : List Sp.S) (t : Tag) (n : Int) (hl : l.length ≤ 4398046511104) (ho : Sp.Ok l) (hn : -9223372036854775808 ≤ n ∧ n ≤ 9223372036854775807) : GPure Try.prog 29 [.slice (spl l) t, .int .i64 n] (.slice (spl (Sp.lowF (Sp.nf l) n)) .none) := by
  refine h29.pure mixS (by simp) ?_
  simp only [gstart, s29, List.cons_append, List.nil_append, List.length_cons, List.length_nil, Nat.reduceAdd, Nat.reduceSub, List.replicate_succ, List.replicate_zero]
  simp +contextual -implicitDefEqProofs (maxSteps := 2000000) (disch := omega) only [↓lenV, binV, optV, ↓loadV, ↓storeV, ↓fieldAddrV, ↓indexAddrV, ↓allocV, ↓buildV, ↓buildSliceV, ↓sliceV, ↓appendV, ↓srcV, ↓minV, bound, cutTag, hiTag, fillG, fillE, place, GVal.cells, grp, GVal.ofConst, ↓resV, resG, List.map, List.headD, List.take, List.drop, ↓reduceIte, Nat.reduceEqDiff, Nat.reduceAdd, Nat.reduceSub, Nat.reduceLeDiff, reduceCtorEq, implies_true, ne_eq, ↓asrcV, Tag.cap, List.replicate, allSolid, GVal.solid, Nat.reduceBEq, Nat.reduceMul, Nat.reduceLT, List.length_map, List.length_range, splice, vcA, ↓vcB, vcC, fbSpc, e29]
  refine (sMake l t hl ho).then ?_ (by rfl)
  have hN := Sp.nf_len l
  have hoN := Sp.nf_ok ho
  have hrt := Sp.nf_rt l
  generalize Sp.nf l = N at *
  simp +contextual -implicitDefEqProofs (maxSteps := 2000000) (disch := omega) only [↓lenV, binV, optV, ↓loadV, ↓storeV, ↓fieldAddrV, ↓indexAddrV, ↓allocV, ↓buildV, ↓buildSliceV, ↓sliceV, ↓appendV, ↓srcV, ↓minV, bound, cutTag, hiTag, fillG, fillE, place, GVal.cells, grp, GVal.ofConst, ↓resV, resG, List.map, List.headD, List.take, List.drop, ↓reduceIte, Nat.reduceEqDiff, Nat.reduceAdd, Nat.reduceSub, Nat.reduceLeDiff, reduceCtorEq, implies_true, ne_eq, ↓asrcV, Tag.cap, List.replicate, allSolid, GVal.solid, Nat.reduceBEq, Nat.reduceMul, Nat.reduceLT, List.length_map, List.length_range, splice, vcA, ↓vcB, vcC, fbSpc, e29, spl_length]
  refine vcSLoop_by (ι := { p : Nat × Nat × List Sp.S × Int // p.1 ≤ N.length ∧ p.2.2.1 ++ Sp.lowF (N.drop p.1) p.2.2.2 = Sp.lowF N n ∧ p.2.2.1.length ≤ p.1 ∧ -9223372036854775808 ≤ p.2.2.2 ∧ p.2.2.2 ≤ 9223372036854775807 }) (fun p => ⟨[.any, .int .i64 p.1.2.2.2, .any, .any, .any, .slice (spl p.1.2.2.1) (.tok 0 p.1.2.1), .any, .any, .any, .any, .slice (spl N) .none, .int .i64 N.length, .int .i64 (p.1.1 : Nat)] ++ List.replicate 25 .any, [.tok p.1.2.1 2]⟩) (fun p => N.length - p.1.1) ?_ ?_
  · refine Into.tok 5 2 [] rfl rfl ?_
    simp +contextual -implicitDefEqProofs (maxSteps := 2000000) (disch := omega) only [↓lenV, binV, optV, ↓loadV, ↓storeV, ↓fieldAddrV, ↓indexAddrV, ↓allocV, ↓buildV, ↓buildSliceV, ↓sliceV, ↓appendV, ↓srcV, ↓minV, bound, cutTag, hiTag, fillG, fillE, place, GVal.cells, grp, GVal.ofConst, ↓resV, resG, List.map, List.headD, List.take, List.drop, ↓reduceIte, Nat.reduceEqDiff, Nat.reduceAdd, Nat.reduceSub, Nat.reduceLeDiff, reduceCtorEq, implies_true, ne_eq, ↓asrcV, Tag.cap, List.replicate, allSolid, GVal.solid, Nat.reduceBEq, Nat.reduceMul, Nat.reduceLT, List.length_map, List.length_range, splice, vcA, ↓vcB, vcC, fbSpc, e29]
    intro t0
    exact Into.first ⟨(0, t0, [], n), by omega, by simp, by simp, hn.1, hn.2⟩ ⟨[], by simp⟩ (by simp [WL, leG_self, leG_any, leG_int, spl_nil])
  · rintro ⟨⟨k, v, out, m⟩, hk, he, hol, hm1, hm2⟩
    simp only [] at hk he hol hm1 hm2
    by_cases h : k < N.length
    · have d0 : ((k : Int) < (N.length : Int)) = True := eq_true (by omega)
      have eS := spl_at N k h
      have hx := hoN.at k
      have hx2 := hrt.at k h
      rw [drop_getD h, Sp.lowF_cons] at he
      generalize N.getD k (0, 0) = x at *
      by_cases c : m ≤ 0
      · have d1 : (m ≤ 0) = True := eq_true c
        rw [if_pos c, List.append_nil] at he
        simp +contextual -implicitDefEqProofs (maxSteps := 2000000) (disch := omega) only [↓lenV, binV, optV, ↓loadV, ↓storeV, ↓fieldAddrV, ↓indexAddrV, ↓allocV, ↓buildV, ↓buildSliceV, ↓sliceV, ↓appendV, ↓srcV, ↓minV, bound, cutTag, hiTag, fillG, fillE, place, GVal.cells, grp, GVal.ofConst, ↓resV, resG, List.map, List.headD, List.take, List.drop, ↓reduceIte, Nat.reduceEqDiff, Nat.reduceAdd, Nat.reduceSub, Nat.reduceLeDiff, reduceCtorEq, implies_true, ne_eq, ↓asrcV, Tag.cap, List.replicate, allSolid, GVal.solid, Nat.reduceBEq, Nat.reduceMul, Nat.reduceLT, List.length_map, List.length_range, splice, vcA, ↓vcB, vcC, fbSpc, e29, spl_length, d0, d1, eS, spG, all_spl, false_imp_iff, true_imp_iff, true_and]
        exact ⟨by omega, fun _ => by rw [he]⟩
      · have d1 : (m ≤ 0) = False := eq_false c
        rw [if_neg c] at he
        simp +contextual -implicitDefEqProofs (maxSteps := 2000000) (disch := omega) only [↓lenV, binV, optV, ↓loadV, ↓storeV, ↓fieldAddrV, ↓indexAddrV, ↓allocV, ↓buildV, ↓buildSliceV, ↓sliceV, ↓appendV, ↓srcV, ↓minV, bound, cutTag, hiTag, fillG, fillE, place, GVal.cells, grp, GVal.ofConst, ↓resV, resG, List.map, List.headD, List.take, List.drop, ↓reduceIte, Nat.reduceEqDiff, Nat.reduceAdd, Nat.reduceSub, Nat.reduceLeDiff, reduceCtorEq, implies_true, ne_eq, ↓asrcV, Tag.cap, List.replicate, allSolid, GVal.solid, Nat.reduceBEq, Nat.reduceMul, Nat.reduceLT, List.length_map, List.length_range, splice, vcA, ↓vcB, vcC, fbSpc, e29, spl_length, d0, d1, eS, spG, all_spl, false_imp_iff, true_imp_iff, true_and]
        refine ⟨by omega, fun st => ?_⟩
        refine (sSize x ⟨hx2.1, hx2.2, hx.2.2⟩).then ?_ (by rfl)
        have hz : Sp.sz x = x.2 - x.1 + 1 := rfl
        have e1 : min m (min 9223372036854775807 (x.2 - x.1 + 1)) = min m (Sp.sz x) := by omega
        have e2 : 1 ≤ min m (Sp.sz x) ∧ min m (Sp.sz x) ≤ Sp.sz x ∧ min m (Sp.sz x) ≤ m := by omega
        generalize min m (Sp.sz x) = q at *
        simp +contextual -implicitDefEqProofs (maxSteps := 2000000) (disch := omega) only [↓lenV, binV, optV, ↓loadV, ↓storeV, ↓fieldAddrV, ↓indexAddrV, ↓allocV, ↓buildV, ↓buildSliceV, ↓sliceV, ↓appendV, ↓srcV, ↓minV, bound, cutTag, hiTag, fillG, fillE, place, GVal.cells, grp, GVal.ofConst, ↓resV, resG, List.map, List.headD, List.take, List.drop, ↓reduceIte, Nat.reduceEqDiff, Nat.reduceAdd, Nat.reduceSub, Nat.reduceLeDiff, reduceCtorEq, implies_true, ne_eq, ↓asrcV, Tag.cap, List.replicate, allSolid, GVal.solid, Nat.reduceBEq, Nat.reduceMul, Nat.reduceLT, List.length_map, List.length_range, splice, vcA, ↓vcB, vcC, fbSpc, e29, spl_length, d0, eS, spG, all_spl, e1]
        refine ⟨by omega, by omega, fun st_1 => ?_⟩
        refine Into.at ⟨(k + 1, st_1, out ++ [(x.1, x.1 + (q - 1))], m - q), by show k + 1 ≤ _; omega, by rw [← he]; simp, by simp; omega, by show _ ≤ m - q; omega, by show m - q ≤ _; omega⟩ (by show _ < _; simp; omega) ⟨[.row st 2 [[.int .i64 x.1, .int .i64 x.2]]], by simp⟩ ?_
        simp [WL, leG_self, leG_any, leG_int, leG_tok, spl_append, spl_cons, spl_nil, spG]
    · have d0 : ((k : Int) < (N.length : Int)) = False := eq_false (by omega)
      rw [List.drop_of_length_le (by omega)] at he
      simp +contextual -implicitDefEqProofs (maxSteps := 2000000) (disch := omega) only [↓lenV, binV, optV, ↓loadV, ↓storeV, ↓fieldAddrV, ↓indexAddrV, ↓allocV, ↓buildV, ↓buildSliceV, ↓sliceV, ↓appendV, ↓srcV, ↓minV, bound, cutTag, hiTag, fillG, fillE, place, GVal.cells, grp, GVal.ofConst, ↓resV, resG, List.map, List.headD, List.take, List.drop, ↓reduceIte, Nat.reduceEqDiff, Nat.reduceAdd, Nat.reduceSub, Nat.reduceLeDiff, reduceCtorEq, implies_true, ne_eq, ↓asrcV, Tag.cap, List.replicate, allSolid, GVal.solid, Nat.reduceBEq, Nat.reduceMul, Nat.reduceLT, List.length_map, List.length_range, splice, vcA, ↓vcB, vcC, fbSpc, e29, d0, spl_length, false_imp_iff, true_and]
      rw [← he]; simp [Sp.lowF]

theorem sSplit (l : List Sp.S) (t : Tag) (n : Int) (hl : l.length ≤ 1398046511104) (ho : Sp.Ok l) (hn : -9223372036854775808 ≤ n ∧ n ≤ 9223372036854775807) : GPure Try.prog 50 [.slice (spl l) t, .int .i64 n] (.tuple [.slice (spl (Sp.firstS (Sp.nf l) n)) .none, .slice (spl (Sp.skipS (Sp.nf l) n)) .none]) := by
  refine h50.pureF mixS (by simp) ?_
  simp only [gstart, s50, List.cons_append, List.nil_append, List.length_cons, List.length_nil, Nat.reduceAdd, Nat.reduceSub, List.replicate_succ, List.replicate_zero]
  simp +contextual -implicitDefEqProofs (maxSteps := 2000000) (disch := omega) only [↓lenV, binV, optV, ↓loadV, ↓storeV, ↓fieldAddrV, ↓indexAddrV, ↓allocV, ↓buildV, ↓buildSliceV, ↓sliceV, ↓appendV, ↓srcV, ↓minV, bound, cutTag, hiTag, fillG, fillE, place, GVal.cells, grp, GVal.ofConst, ↓resV, resG, List.map, List.headD, List.take, List.drop, ↓reduceIte, Nat.reduceEqDiff, Nat.reduceAdd, Nat.reduceSub, Nat.reduceLeDiff, reduceCtorEq, implies_true, ne_eq, ↓asrcV, Tag.cap, List.replicate, allSolid, GVal.solid, Nat.reduceBEq, Nat.reduceMul, Nat.reduceLT, List.length_map, List.length_range, splice, vcA, ↓vcB, vcC, fbSpc, e50]
  refine (cMake l t (by omega) ho).mono ?_
  rintro _ _ ⟨st0, st1, ys, rfl, rfl⟩
  have hN := Sp.nf_len l
  have hoN := Sp.nf_ok ho
  have hrt := Sp.nf_rt l
  generalize Sp.nf l = N at *
  simp +contextual -implicitDefEqProofs (maxSteps := 2000000) (disch := omega) only [↓lenV, binV, optV, ↓loadV, ↓storeV, ↓fieldAddrV, ↓indexAddrV, ↓allocV, ↓buildV, ↓buildSliceV, ↓sliceV, ↓appendV, ↓srcV, ↓minV, bound, cutTag, hiTag, fillG, fillE, place, GVal.cells, grp, GVal.ofConst, ↓resV, resG, List.map, List.headD, List.take, List.drop, ↓reduceIte, Nat.reduceEqDiff, Nat.reduceAdd, Nat.reduceSub, Nat.reduceLeDiff, reduceCtorEq, implies_true, ne_eq, ↓asrcV, Tag.cap, List.replicate, allSolid, GVal.solid, Nat.reduceBEq, Nat.reduceMul, Nat.reduceLT, List.length_map, List.length_range, splice, vcA, ↓vcB, vcC, fbSpc, e50, spl_length]
  refine vcSLoop_by (ι := { p : List Sp.S × List (List GVal) × List Sp.S × Int × Nat × Nat // p.2.2.1 ++ Sp.topF p.1.reverse p.2.2.2.1 = Sp.topF N.reverse n ∧ Sp.topO p.1.reverse p.2.2.2.1 = Sp.topO N.reverse n ∧ Sp.Rt 0 p.1 ∧ Sp.Ok p.1 ∧ p.2.1.take p.1.length = spl p.1 ∧ (p.2.2.1.length + p.1.length ≤ N.length + 1 ∧ (0 < p.2.2.2.1 → p.2.2.1.length + p.1.length ≤ N.length)) ∧ -9223372036854775808 ≤ p.2.2.2.1 ∧ p.2.2.2.1 ≤ 9223372036854775807 }) (fun p => ⟨[.any, .int .i64 p.1.2.2.2.1, .any, .any, .slice (spl p.1.2.2.1) (.tok 2 p.1.2.2.2.2.2), .own 1 p.1.2.2.2.2.1 0 p.1.1.length] ++ List.replicate 57 .any, [.row st0 2 (spl ys), .row p.1.2.2.2.2.1 2 p.1.2.1, .tok p.1.2.2.2.2.2 2]⟩) (fun p => p.1.2.2.2.1.toNat) ?_ ?_
  · refine Into.tok 4 2 [] rfl rfl ?_
    simp +contextual -implicitDefEqProofs (maxSteps := 2000000) (disch := omega) only [↓lenV, binV, optV, ↓loadV, ↓storeV, ↓fieldAddrV, ↓indexAddrV, ↓allocV, ↓buildV, ↓buildSliceV, ↓sliceV, ↓appendV, ↓srcV, ↓minV, bound, cutTag, hiTag, fillG, fillE, place, GVal.cells, grp, GVal.ofConst, ↓resV, resG, List.map, List.headD, List.take, List.drop, ↓reduceIte, Nat.reduceEqDiff, Nat.reduceAdd, Nat.reduceSub, Nat.reduceLeDiff, reduceCtorEq, implies_true, ne_eq, ↓asrcV, Tag.cap, List.replicate, allSolid, GVal.solid, Nat.reduceBEq, Nat.reduceMul, Nat.reduceLT, List.length_map, List.length_range, splice, vcA, ↓vcB, vcC, fbSpc, e50]
    intro t0
    exact Into.first ⟨(N, spl N, [], n, st1, t0), by simp, by simp, hrt, hoN, List.take_of_length_le (by rw [spl_length]; exact Nat.le_refl _), by simp, hn.1, hn.2⟩ ⟨[], by simp⟩ (by simp [WL, leG_self, leG_any, leG_int, spl_nil])
  · rintro ⟨⟨L, X, F, m, w, v⟩, h1, h2, hr, hok, hX, ⟨hl1, hl2⟩, hm1, hm2⟩
    simp only [] at h1 h2 hr hok hX hl1 hl2 hm1 hm2
    have hXl : L.length ≤ X.length := by have := congrArg List.length hX; rw [List.length_take, spl_length] at this; omega
    have done : (m ≤ 0 ∨ L = []) → F = Sp.topF N.reverse n ∧ L = Sp.skipS N n := by
      rintro (c | rfl)
      · rw [Sp.topF_zero _ _ c, List.append_nil] at h1
        rw [Sp.topO_zero _ _ c] at h2
        exact ⟨h1, by rw [Sp.skipS, ← h2, List.reverse_reverse]⟩
      · simp [Sp.topF, Sp.topO] at h1 h2
        exact ⟨h1, by rw [Sp.skipS, h2]; rfl⟩
    by_cases c : m ≤ 0
    · obtain ⟨e1, e2⟩ := done (.inl c)
      have d1 : (0 < m) = False := eq_false (by omega)
      have hF := Sp.topF_len N.reverse n
      rw [← e1] at hF
      simp at hF
      simp +contextual -implicitDefEqProofs (maxSteps := 2000000) (disch := omega) only [↓lenV, binV, optV, ↓loadV, ↓storeV, ↓fieldAddrV, ↓indexAddrV, ↓allocV, ↓buildV, ↓buildSliceV, ↓sliceV, ↓appendV, ↓srcV, ↓minV, bound, cutTag, hiTag, fillG, fillE, place, GVal.cells, grp, GVal.ofConst, ↓resV, resG, List.map, List.headD, List.take, List.drop, ↓reduceIte, Nat.reduceEqDiff, Nat.reduceAdd, Nat.reduceSub, Nat.reduceLeDiff, reduceCtorEq, implies_true, ne_eq, ↓asrcV, Tag.cap, List.replicate, allSolid, GVal.solid, Nat.reduceBEq, Nat.reduceMul, Nat.reduceLT, List.length_map, List.length_range, splice, vcA, ↓vcB, vcC, fbSpc, e50, spl_length, d1, false_imp_iff, true_and]
      have hok' : Sp.Ok F := by
        rw [e1]
        have := Sp.first_ok hrt hoN n
        rw [Sp.firstS] at this
        exact fun s hs => this s (by simpa using hs)
      refine (sMake F _ (by omega) hok').then ?_ (by rfl)
      rw [e1, Sp.first_nf hrt]
      simp +contextual -implicitDefEqProofs (maxSteps := 2000000) (disch := omega) only [↓lenV, binV, optV, ↓loadV, ↓storeV, ↓fieldAddrV, ↓indexAddrV, ↓allocV, ↓buildV, ↓buildSliceV, ↓sliceV, ↓appendV, ↓srcV, ↓minV, bound, cutTag, hiTag, fillG, fillE, place, GVal.cells, grp, GVal.ofConst, ↓resV, resG, List.map, List.headD, List.take, List.drop, ↓reduceIte, Nat.reduceEqDiff, Nat.reduceAdd, Nat.reduceSub, Nat.reduceLeDiff, reduceCtorEq, implies_true, ne_eq, ↓asrcV, Tag.cap, List.replicate, allSolid, GVal.solid, Nat.reduceBEq, Nat.reduceMul, Nat.reduceLT, List.length_map, List.length_range, splice, vcA, ↓vcB, vcC, fbSpc, e50, spl_length]
      refine ⟨4, .tuple [.slice (spl (Sp.firstS N n)) .none, .slice (spl L) .none], ?_, by rw [e2]; exact WL_self _⟩
      have q1 := frz_splS [.row st0 2 (spl ys), .row w 2 X, .tok v 2] 1 (Sp.firstS N n) .none
      have q2 : Gv.frz [.row st0 2 (spl ys), .row w 2 X, .tok v 2] 3 (.own 1 w 0 L.length) = some (.slice (spl L) .none) := by
        rw [Gv.frz]
        simp only [List.getElem?_cons_succ, List.getElem?_cons_zero, true_and, Nat.zero_add, List.drop_zero, if_pos hXl, hX]
        rw [frz_spl]
      rw [Gv.frz, frzL, q1, frzL, q2]; rfl
    · rcases List.eq_nil_or_concat L with e | ⟨A, x, e⟩
      · subst e
        obtain ⟨e1, e2⟩ := done (.inr rfl)
        have d1 : (0 < m) = True := eq_true (by omega)
        have hF := Sp.topF_len N.reverse n
        rw [← e1] at hF
        simp at hF
        generalize eL : ([] : List Sp.S) = L at *
        have d2 : ((L.length : Nat) : Int) = 0 := by rw [← eL]; rfl
        simp +contextual -implicitDefEqProofs (maxSteps := 2000000) (disch := omega) only [↓lenV, binV, optV, ↓loadV, ↓storeV, ↓fieldAddrV, ↓indexAddrV, ↓allocV, ↓buildV, ↓buildSliceV, ↓sliceV, ↓appendV, ↓srcV, ↓minV, bound, cutTag, hiTag, fillG, fillE, place, GVal.cells, grp, GVal.ofConst, ↓resV, resG, List.map, List.headD, List.take, List.drop, ↓reduceIte, Nat.reduceEqDiff, Nat.reduceAdd, Nat.reduceSub, Nat.reduceLeDiff, reduceCtorEq, implies_true, ne_eq, ↓asrcV, Tag.cap, List.replicate, allSolid, GVal.solid, Nat.reduceBEq, Nat.reduceMul, Nat.reduceLT, List.length_map, List.length_range, splice, vcA, ↓vcB, vcC, fbSpc, e50, spl_length, d1, d2, false_imp_iff, true_and, Int.reduceLT]
        have hok' : Sp.Ok F := by
          rw [e1]
          have := Sp.first_ok hrt hoN n
          rw [Sp.firstS] at this
          exact fun s hs => this s (by simpa using hs)
        refine (sMake F _ (by omega) hok').then ?_ (by rfl)
        rw [e1, Sp.first_nf hrt]
        simp +contextual -implicitDefEqProofs (maxSteps := 2000000) (disch := omega) only [↓lenV, binV, optV, ↓loadV, ↓storeV, ↓fieldAddrV, ↓indexAddrV, ↓allocV, ↓buildV, ↓buildSliceV, ↓sliceV, ↓appendV, ↓srcV, ↓minV, bound, cutTag, hiTag, fillG, fillE, place, GVal.cells, grp, GVal.ofConst, ↓resV, resG, List.map, List.headD, List.take, List.drop, ↓reduceIte, Nat.reduceEqDiff, Nat.reduceAdd, Nat.reduceSub, Nat.reduceLeDiff, reduceCtorEq, implies_true, ne_eq, ↓asrcV, Tag.cap, List.replicate, allSolid, GVal.solid, Nat.reduceBEq, Nat.reduceMul, Nat.reduceLT, List.length_map, List.length_range, splice, vcA, ↓vcB, vcC, fbSpc, e50, spl_length]
        refine ⟨4, .tuple [.slice (spl (Sp.firstS N n)) .none, .slice (spl L) .none], ?_, by rw [e2]; exact WL_self _⟩
        have q1 := frz_splS [.row st0 2 (spl ys), .row w 2 X, .tok v 2] 1 (Sp.firstS N n) .none
        have q2 : Gv.frz [.row st0 2 (spl ys), .row w 2 X, .tok v 2] 3 (.own 1 w 0 L.length) = some (.slice (spl L) .none) := by
          rw [Gv.frz]
          simp only [List.getElem?_cons_succ, List.getElem?_cons_zero, true_and, Nat.zero_add, List.drop_zero, if_pos hXl, hX]
          rw [frz_spl]
        rw [Gv.frz, frzL, q1, frzL, q2]; rfl
      · rw [List.concat_eq_append] at e; subst e
        have d1 : (0 < m) = True := eq_true (by omega)
        have eL : (A ++ [x]).length = A.length + 1 := by simp
        have d2 : ((0 : Int) < (A.length : Int) + 1) = True := eq_true (by omega)
        have d3 : ((A.length : Int) + 1 - 1).toNat = A.length := by omega
        have hx := hok x (by simp)
        have hx2 := hr.mem (s := x) (by simp)
        have eX : X.getD A.length [] = spG x := by
          have := congrArg (fun q => List.getD q A.length []) hX
          rw [spl_append, spl_one, ← spl_length A] at this
          simp only [getD_last] at this
          rw [← this, spl_length]
          simp [List.getD, List.getElem?_take]
        rw [eL] at hXl hX hl1 hl2
        have hXA : X.take A.length = spl A := by
          have := congrArg (List.take A.length) hX
          rw [List.take_take, Nat.min_eq_left (by omega), spl_append] at this
          rw [this, List.take_append_of_le_length (by rw [spl_length]; exact Nat.le_refl _), List.take_of_length_le (by rw [spl_length]; exact Nat.le_refl _)]
        simp +contextual -implicitDefEqProofs (maxSteps := 2000000) (disch := omega) only [↓lenV, binV, optV, ↓loadV, ↓storeV, ↓fieldAddrV, ↓indexAddrV, ↓allocV, ↓buildV, ↓buildSliceV, ↓sliceV, ↓appendV, ↓srcV, ↓minV, bound, cutTag, hiTag, fillG, fillE, place, GVal.cells, grp, GVal.ofConst, ↓resV, resG, List.map, List.headD, List.take, List.drop, ↓reduceIte, Nat.reduceEqDiff, Nat.reduceAdd, Nat.reduceSub, Nat.reduceLeDiff, reduceCtorEq, implies_true, ne_eq, ↓asrcV, Tag.cap, List.replicate, allSolid, GVal.solid, Nat.reduceBEq, Nat.reduceMul, Nat.reduceLT, List.length_map, List.length_range, splice, vcA, ↓vcB, vcC, fbSpc, e50, spl_length, d1, d2, d3, eL, eX, spG, all_spl, true_imp_iff, false_imp_iff, true_and]
        refine ⟨by omega, by omega, by omega, by omega, fun st => ⟨by omega, by omega, by omega, ?_⟩⟩
        refine (sSize x ⟨hx2.1, hx2.2, hx.2.2⟩).then ?_ (by rfl)
        have hz : Sp.sz x = x.2 - x.1 + 1 := rfl
        have e1 : min m (min 9223372036854775807 (x.2 - x.1 + 1)) = min m (Sp.sz x) := by omega
        have e2 : 1 ≤ min m (Sp.sz x) ∧ min m (Sp.sz x) ≤ Sp.sz x ∧ min m (Sp.sz x) ≤ m := by omega
        rw [List.reverse_append, List.reverse_singleton, List.singleton_append, Sp.topF_cons, if_neg c] at h1
        rw [List.reverse_append, List.reverse_singleton, List.singleton_append, Sp.topO_cons, if_neg c] at h2
        obtain ⟨r1, r2, r3, r4⟩ := (Sp.Rt_snoc x A 0).1 hr
        have oA : Sp.Ok A := fun s hs => hok s (by simp [hs])
        have hl3 := hl2 (by omega)
        by_cases c2 : Sp.sz x ≤ m
        · have eq : min m (Sp.sz x) = Sp.sz x := by omega
          rw [if_pos c2] at h2
          rw [eq] at h1 e1 e2
          have d4 : (x.1 < x.2 - (Sp.sz x - 1)) = False := eq_false (by omega)
          generalize Sp.sz x = q at *
          simp +contextual -implicitDefEqProofs (maxSteps := 2000000) (disch := omega) only [↓lenV, binV, optV, ↓loadV, ↓storeV, ↓fieldAddrV, ↓indexAddrV, ↓allocV, ↓buildV, ↓buildSliceV, ↓sliceV, ↓appendV, ↓srcV, ↓minV, bound, cutTag, hiTag, fillG, fillE, place, GVal.cells, grp, GVal.ofConst, ↓resV, resG, List.map, List.headD, List.take, List.drop, ↓reduceIte, Nat.reduceEqDiff, Nat.reduceAdd, Nat.reduceSub, Nat.reduceLeDiff, reduceCtorEq, implies_true, ne_eq, ↓asrcV, Tag.cap, List.replicate, allSolid, GVal.solid, Nat.reduceBEq, Nat.reduceMul, Nat.reduceLT, List.length_map, List.length_range, splice, vcA, ↓vcB, vcC, fbSpc, e50, spl_length, d1, d2, d3, d4, eL, eX, spG, all_spl, e1, true_imp_iff, false_imp_iff, true_and]
          refine ⟨by omega, by omega, fun st_1 => ?_⟩
          refine Into.at ⟨(A, X, F ++ [(x.2 - (q - 1), x.2)], m - q, w, st_1), by rw [← h1]; simp, h2, r1, oA, hXA, by simp; omega, by show _ ≤ m - q; omega, by show m - q ≤ _; omega⟩ (by show (m - q).toNat < m.toNat; omega) ⟨[.row st 2 [[.int .i64 x.1, .int .i64 x.2]]], by simp⟩ ?_
          simp [WL, leG_self, leG_any, leG_int, leG_tok, spl_append, spl_cons, spl_nil, spG]
        · have eq : min m (Sp.sz x) = m := by omega
          rw [if_neg c2] at h2
          rw [eq] at h1 e1 e2
          have d4 : (x.1 < x.2 - (m - 1)) = True := eq_true (by omega)
          simp +contextual -implicitDefEqProofs (maxSteps := 2000000) (disch := omega) only [↓lenV, binV, optV, ↓loadV, ↓storeV, ↓fieldAddrV, ↓indexAddrV, ↓allocV, ↓buildV, ↓buildSliceV, ↓sliceV, ↓appendV, ↓srcV, ↓minV, bound, cutTag, hiTag, fillG, fillE, place, GVal.cells, grp, GVal.ofConst, ↓resV, resG, List.map, List.headD, List.take, List.drop, ↓reduceIte, Nat.reduceEqDiff, Nat.reduceAdd, Nat.reduceSub, Nat.reduceLeDiff, reduceCtorEq, implies_true, ne_eq, ↓asrcV, Tag.cap, List.replicate, allSolid, GVal.solid, Nat.reduceBEq, Nat.reduceMul, Nat.reduceLT, List.length_map, List.length_range, splice, vcA, ↓vcB, vcC, fbSpc, e50, spl_length, d1, d2, d3, d4, eL, eX, spG, all_spl, e1, true_imp_iff, false_imp_iff, true_and]
          refine ⟨by omega, by omega, fun st_1 => ⟨by simp; omega, by simp; omega, by simp; omega, fun st_2 => ?_⟩⟩
          have eA : List.take A.length (List.drop 0 X) = spl A := by rw [List.drop_zero, hXA]
          have hr' : Sp.Rt 0 (A ++ [(x.1, x.2 - (m - 1) - 1)]) := (Sp.Rt_snoc _ A 0).2 ⟨r1, r2, by show x.1 ≤ x.2 - (m - 1) - 1; omega, r4⟩
          have ho' : Sp.Ok (A ++ [(x.1, x.2 - (m - 1) - 1)]) := oA.app fun s hs => by simp at hs; subst hs; exact ⟨hx.1, by show _ ≤ x.2 - (m - 1) - 1; omega, by show x.2 - (m - 1) - 1 ≤ _; omega⟩
          have e3 : x.2 - m = x.2 - (m - 1) - 1 := by omega
          refine Into.at ⟨(A ++ [(x.1, x.2 - (m - 1) - 1)], spl (A ++ [(x.1, x.2 - (m - 1) - 1)]), F ++ [(x.2 - (m - 1), x.2)], 0, st_2, st_1), by rw [← h1, Int.sub_self]; simp [Sp.topF_zero], by rw [← h2, e3]; simp [Sp.topO_zero], hr', ho', List.take_of_length_le (by rw [spl_length]; exact Nat.le_refl _), by simp; omega, by show _ ≤ (0 : Int); omega, by show (0 : Int) ≤ _; omega⟩ (by show (0 : Int).toNat < m.toNat; omega) ⟨[.row st 2 [[.int .i64 x.1, .int .i64 x.2]]], by simp [eA, hXA, spl_append, spl_cons, spl_nil, spG]⟩ ?_
          simp [WL, leG_self, leG_any, leG_int, leG_tok, spl_append, spl_cons, spl_nil, spG]

theorem sFirst (l : List Sp.S) (t : Tag) (n : Int) (hl : l.length ≤ 1398046511104) (ho : Sp.Ok l) (hn : -9223372036854775808 ≤ n ∧ n ≤ 9223372036854775807) : GPure Try.prog 28 [.slice (spl l) t, .int .i64 n] (.slice (spl (Sp.firstS (Sp.nf l) n)) .none) := by
  refine h28.pure mixS (by simp) ?_
  simp only [gstart, s28, List.cons_append, List.nil_append, List.length_cons, List.length_nil, Nat.reduceAdd, Nat.reduceSub, List.replicate_succ, List.replicate_zero]
  simp +contextual -implicitDefEqProofs (maxSteps := 2000000) (disch := omega) only [optV, ↓sliceV, bound, cutTag, hiTag, GVal.cells, grp, GVal.ofConst, ↓resV, resG, List.map, List.headD, List.take, List.drop, ↓reduceIte, Nat.reduceEqDiff, Nat.reduceAdd, Nat.reduceSub, Nat.reduceLeDiff, reduceCtorEq, implies_true, ne_eq, Tag.cap, List.replicate, allSolid, GVal.solid, Nat.reduceBEq, Nat.reduceMul, Nat.reduceLT, List.length_map, List.length_range, splice, vcA, ↓vcB, vcC, fbSpc, e28]
  refine (sSplit l t n hl ho hn).then ?_ (by rfl)
  simp +contextual -implicitDefEqProofs (maxSteps := 2000000) (disch := omega) only [optV, ↓sliceV, bound, cutTag, hiTag, GVal.cells, grp, GVal.ofConst, ↓resV, resG, List.map, List.headD, List.take, List.drop, ↓reduceIte, Nat.reduceEqDiff, Nat.reduceAdd, Nat.reduceSub, Nat.reduceLeDiff, reduceCtorEq, implies_true, ne_eq, Tag.cap, List.replicate, allSolid, GVal.solid, Nat.reduceBEq, Nat.reduceMul, Nat.reduceLT, List.length_map, List.length_range, splice, vcA, ↓vcB, vcC, fbSpc, e28]
theorem sSkip (l : List Sp.S) (t : Tag) (n : Int) (hl : l.length ≤ 1398046511104) (ho : Sp.Ok l) (hn : -9223372036854775808 ≤ n ∧ n ≤ 9223372036854775807) : GPure Try.prog 31 [.slice (spl l) t, .int .i64 n] (.slice (spl (Sp.skipS (Sp.nf l) n)) .none) := by
  refine h31.pure mixS (by simp) ?_
  simp only [gstart, s31, List.cons_append, List.nil_append, List.length_cons, List.length_nil, Nat.reduceAdd, Nat.reduceSub, List.replicate_succ, List.replicate_zero]
  simp +contextual -implicitDefEqProofs (maxSteps := 2000000) (disch := omega) only [optV, ↓sliceV, bound, cutTag, hiTag, GVal.cells, grp, GVal.ofConst, ↓resV, resG, List.map, List.headD, List.take, List.drop, ↓reduceIte, Nat.reduceEqDiff, Nat.reduceAdd, Nat.reduceSub, Nat.reduceLeDiff, reduceCtorEq, implies_true, ne_eq, Tag.cap, List.replicate, allSolid, GVal.solid, Nat.reduceBEq, Nat.reduceMul, Nat.reduceLT, List.length_map, List.length_range, splice, vcA, ↓vcB, vcC, fbSpc, e31]
  refine (sSplit l t n hl ho hn).then ?_ (by rfl)
  simp +contextual -implicitDefEqProofs (maxSteps := 2000000) (disch := omega) only [optV, ↓sliceV, bound, cutTag, hiTag, GVal.cells, grp, GVal.ofConst, ↓resV, resG, List.map, List.headD, List.take, List.drop, ↓reduceIte, Nat.reduceEqDiff, Nat.reduceAdd, Nat.reduceSub, Nat.reduceLeDiff, reduceCtorEq, implies_true, ne_eq, Tag.cap, List.replicate, allSolid, GVal.solid, Nat.reduceBEq, Nat.reduceMul, Nat.reduceLT, List.length_map, List.length_range, splice, vcA, ↓vcB, vcC, fbSpc, e31]
end Gv.Try
/- Contracts: IDs; the document's First, Last, Skip, IDs, Of. -/
set_option linter.unusedVariables false
set_option linter.unusedSimpArgs false
set_option maxRecDepth 20000
set_option maxHeartbeats 4000000
namespace Gv.Try
open Go Gv Go.Proofs
open Gv.Sp (Lim)
theorem take_all {α : Type} (l : List α) : l.take l.length = l := List.take_of_length_le (Nat.le_refl _)

/-- the numbers from a span on, going down the list -/
theorem sIDs (l : List Sp.S) (t : Tag) (n : Int) (hl : l.length ≤ 1398046511104) (ho : Sp.Ok l) (hn : -9223372036854775808 ≤ n ∧ n ≤ 10000) : GPure Try.prog 24 [.slice (spl l) t, .int .i64 n] (.slice (ints (Sp.els (Sp.firstS (Sp.nf l) n))) .none) := by
  refine h24.pure mixS (by simp) ?_
  simp only [gstart, s24, List.cons_append, List.nil_append, List.length_cons, List.length_nil, Nat.reduceAdd, Nat.reduceSub, List.replicate_succ, List.replicate_zero]
  simp +contextual -implicitDefEqProofs (maxSteps := 2000000) (disch := omega) only [↓lenV, binV, optV, ↓loadV, ↓fieldAddrV, ↓indexAddrV, ↓buildSliceV, ↓sliceV, ↓appendV, ↓srcV, bound, cutTag, hiTag, fillE, GVal.cells, grp, GVal.ofConst, ↓resV, resG, List.map, List.headD, List.take, List.drop, ↓reduceIte, Nat.reduceEqDiff, Nat.reduceAdd, Nat.reduceSub, Nat.reduceLeDiff, reduceCtorEq, implies_true, ne_eq, ↓asrcV, Tag.cap, List.replicate, allSolid, GVal.solid, Nat.reduceBEq, Nat.reduceMul, Nat.reduceLT, List.length_map, List.length_range, splice, vcA, ↓vcB, vcC, fbSpc, e24]
  refine (sFirst l t n hl ho ⟨hn.1, by omega⟩).then ?_ (by rfl)
  have hN := Sp.nf_len l
  have hfl := Sp.first_len (Sp.nf l) n
  have hrt := Sp.first_rt (Sp.nf_rt l) n
  have hoN := Sp.first_ok (Sp.nf_rt l) (Sp.nf_ok ho) n
  have hel : (Sp.els (Sp.firstS (Sp.nf l) n)).length ≤ 10000 := by rw [Sp.els_first (Sp.nf_rt l)]; simp; omega
  generalize Sp.firstS (Sp.nf l) n = N at *
  simp +contextual -implicitDefEqProofs (maxSteps := 2000000) (disch := omega) only [↓lenV, binV, optV, ↓loadV, ↓fieldAddrV, ↓indexAddrV, ↓buildSliceV, ↓sliceV, ↓appendV, ↓srcV, bound, cutTag, hiTag, fillE, GVal.cells, grp, GVal.ofConst, ↓resV, resG, List.map, List.headD, List.take, List.drop, ↓reduceIte, Nat.reduceEqDiff, Nat.reduceAdd, Nat.reduceSub, Nat.reduceLeDiff, reduceCtorEq, implies_true, ne_eq, ↓asrcV, Tag.cap, List.replicate, allSolid, GVal.solid, Nat.reduceBEq, Nat.reduceMul, Nat.reduceLT, List.length_map, List.length_range, splice, vcA, ↓vcB, vcC, fbSpc, e24, spl_length]
  refine vcSLoop_by (ι := { p : Nat × Nat // p.1 ≤ N.length }) (fun p => ⟨[.any, .any, .any, .any, .any, .slice (ints (Sp.els (N.drop p.1.1))) (.tok 0 p.1.2), .slice (spl N) .none, .int .i64 ((p.1.1 : Nat) - 1)] ++ List.replicate 30 .any, [.tok p.1.2 1]⟩) (fun p => p.1.1) ?_ ?_
  · refine Into.tok 5 1 [] rfl rfl ?_
    simp +contextual -implicitDefEqProofs (maxSteps := 2000000) (disch := omega) only [↓lenV, binV, optV, ↓loadV, ↓fieldAddrV, ↓indexAddrV, ↓buildSliceV, ↓sliceV, ↓appendV, ↓srcV, bound, cutTag, hiTag, fillE, GVal.cells, grp, GVal.ofConst, ↓resV, resG, List.map, List.headD, List.take, List.drop, ↓reduceIte, Nat.reduceEqDiff, Nat.reduceAdd, Nat.reduceSub, Nat.reduceLeDiff, reduceCtorEq, implies_true, ne_eq, ↓asrcV, Tag.cap, List.replicate, allSolid, GVal.solid, Nat.reduceBEq, Nat.reduceMul, Nat.reduceLT, List.length_map, List.length_range, splice, vcA, ↓vcB, vcC, fbSpc, e24]
    intro t0
    exact Into.first ⟨(N.length, t0), by omega⟩ ⟨[], by simp⟩ (by simp [WL, leG_self, leG_any, leG_int, Sp.els_nil, ints_nil])
  · rintro ⟨⟨j, v⟩, hj⟩
    simp only [] at hj
    cases j with
    | zero =>
      have d0 : ((0 : Int) ≤ 0 - 1) = False := eq_false (by omega)
      simp +contextual -implicitDefEqProofs (maxSteps := 2000000) (disch := omega) only [↓lenV, binV, optV, ↓loadV, ↓fieldAddrV, ↓indexAddrV, ↓buildSliceV, ↓sliceV, ↓appendV, ↓srcV, bound, cutTag, hiTag, fillE, GVal.cells, grp, GVal.ofConst, ↓resV, resG, List.map, List.headD, List.take, List.drop, ↓reduceIte, Nat.reduceEqDiff, Nat.reduceAdd, Nat.reduceSub, Nat.reduceLeDiff, reduceCtorEq, implies_true, ne_eq, ↓asrcV, Tag.cap, List.replicate, allSolid, GVal.solid, Nat.reduceBEq, Nat.reduceMul, Nat.reduceLT, List.length_map, List.length_range, splice, vcA, ↓vcB, vcC, fbSpc, e24, spl_length, d0, false_imp_iff, true_and]
    | succ k =>
      have d0 : ((0 : Int) ≤ ((k + 1 : Nat) : Int) - 1) = True := eq_true (by omega)
      have d0' : ((0 : Int) ≤ (k : Int) + 1 - 1) = True := eq_true (by omega)
      have d1 : ((k : Int) + 1 - 1).toNat = k := by omega
      have eS := spl_at N k (by omega)
      have hx := hoN.at k
      have hx2 := hrt.at k (by omega)
      have eD : Sp.els (N.drop k) = Sp.els (N.drop (k + 1)) ++ Sp.down (N.getD k (0, 0)).2 (Sp.sz (N.getD k (0, 0))).toNat := by rw [drop_getD (by omega), Sp.els_cons]
      have hle : (Sp.els (N.drop k)).length ≤ 10000 := by
        have : ∀ (M : List Sp.S) (j : Nat), (Sp.els (M.drop j)).length ≤ (Sp.els M).length := by
          intro M
          induction M with
          | nil => simp
          | cons a r ih =>
            intro j
            cases j with
            | zero => simp
            | succ j => rw [List.drop_succ_cons, Sp.els_cons, List.length_append]; have := ih j; omega
        have := this N k; omega
      generalize N.getD k (0, 0) = x at *
      have hz : Sp.sz x = x.2 - x.1 + 1 := rfl
      generalize Sp.els (N.drop (k + 1)) = E at *
      rw [eD, List.length_append, Sp.down_len] at hle
      simp +contextual -implicitDefEqProofs (maxSteps := 2000000) (disch := omega) only [↓lenV, binV, optV, ↓loadV, ↓fieldAddrV, ↓indexAddrV, ↓buildSliceV, ↓sliceV, ↓appendV, ↓srcV, bound, cutTag, hiTag, fillE, GVal.cells, grp, GVal.ofConst, ↓resV, resG, List.map, List.headD, List.take, List.drop, ↓reduceIte, Nat.reduceEqDiff, Nat.reduceAdd, Nat.reduceSub, Nat.reduceLeDiff, reduceCtorEq, implies_true, ne_eq, ↓asrcV, Tag.cap, List.replicate, allSolid, GVal.solid, Nat.reduceBEq, Nat.reduceMul, Nat.reduceLT, List.length_map, List.length_range, splice, vcA, ↓vcB, vcC, fbSpc, e24, spl_length, d0, d0', d1, eS, spG, all_spl, true_imp_iff, false_imp_iff, true_and]
      refine ⟨by omega, ?_⟩
      refine vcSLoop_by (ι := { p : Nat × Nat // p.1 ≤ (Sp.sz x).toNat }) (fun p => ⟨[.any, .any, .any, .any, .any, .slice (ints (E ++ Sp.down x.2 p.1.1)) (.tok 0 p.1.2), .slice (spl N) .none, .int .i64 (k : Nat), .int .i64 (x.2 - (p.1.1 : Nat))] ++ List.replicate 29 .any, [.tok p.1.2 1]⟩) (fun p => (Sp.sz x).toNat - p.1.1) ?_ ?_
      · exact Into.first ⟨(0, v), by omega⟩ ⟨[], by simp⟩ (by simp [WL, leG_self, leG_any, leG_int, Sp.down_zero]; try omega)
      · rintro ⟨⟨i, u⟩, hi⟩
        simp only [] at hi
        by_cases h : i < (Sp.sz x).toNat
        · have d2 : (x.1 ≤ x.2 - (i : Int)) = True := eq_true (by omega)
          have d3 : ((k : Int)).toNat = k := by omega
          have eN := Sp.down_snoc x.2 i
          have hz2 := Sp.down_len x.2 i
          generalize Sp.down x.2 i = Z at *
          simp +contextual -implicitDefEqProofs (maxSteps := 2000000) (disch := omega) only [↓lenV, binV, optV, ↓loadV, ↓fieldAddrV, ↓indexAddrV, ↓buildSliceV, ↓sliceV, ↓appendV, ↓srcV, bound, cutTag, hiTag, fillE, GVal.cells, grp, GVal.ofConst, ↓resV, resG, List.map, List.headD, List.take, List.drop, ↓reduceIte, Nat.reduceEqDiff, Nat.reduceAdd, Nat.reduceSub, Nat.reduceLeDiff, reduceCtorEq, implies_true, ne_eq, ↓asrcV, Tag.cap, List.replicate, allSolid, GVal.solid, Nat.reduceBEq, Nat.reduceMul, Nat.reduceLT, List.length_map, List.length_range, splice, vcA, ↓vcB, vcC, fbSpc, e24, spl_length, d2, d3, eS, spG, all_spl, all_ints, List.length_append, true_imp_iff, false_imp_iff, true_and]
          refine ⟨by omega, by omega, by omega, by omega, fun st => ?_⟩
          refine Into.at ⟨(i + 1, st), by show i + 1 ≤ _; omega⟩ (by show _ < _; simp; omega) ⟨[], by simp⟩ ?_
          have e5 : x.2 - (i : Int) - 1 = x.2 - ((i : Int) + 1) := by omega
          simp [WL, leG_self, leG_any, leG_int, leG_tok, eN, e5, ints_append, ints_one]
        · have d2 : (x.1 ≤ x.2 - (i : Int)) = False := eq_false (by omega)
          have d3 : ((k : Int)).toNat = k := by omega
          obtain rfl : i = (Sp.sz x).toNat := by omega
          simp +contextual -implicitDefEqProofs (maxSteps := 2000000) (disch := omega) only [↓lenV, binV, optV, ↓loadV, ↓fieldAddrV, ↓indexAddrV, ↓buildSliceV, ↓sliceV, ↓appendV, ↓srcV, bound, cutTag, hiTag, fillE, GVal.cells, grp, GVal.ofConst, ↓resV, resG, List.map, List.headD, List.take, List.drop, ↓reduceIte, Nat.reduceEqDiff, Nat.reduceAdd, Nat.reduceSub, Nat.reduceLeDiff, reduceCtorEq, implies_true, ne_eq, ↓asrcV, Tag.cap, List.replicate, allSolid, GVal.solid, Nat.reduceBEq, Nat.reduceMul, Nat.reduceLT, List.length_map, List.length_range, splice, vcA, ↓vcB, vcC, fbSpc, e24, spl_length, d2, d3, eS, spG, all_spl, true_imp_iff, false_imp_iff, true_and]
          refine ⟨by omega, by omega, ?_⟩
          refine Into.at ⟨(k, u), by show k ≤ _; omega⟩ (by show _ < _; simp) ⟨[], by simp⟩ ?_
          simp [WL, leG_self, leG_any, leG_int, leG_tok, eD]

theorem sFirstR (l : List Sp.S) (t : Tag) (n : Int) (hl : l.length ≤ 1000) (ho : Sp.Ok l) (hn : -9223372036854775808 ≤ n ∧ n ≤ 9223372036854775807) : GPure Try.prog 35 [.slice (spl l) t, .int .i64 n] (.slice (spl (Sp.firstS (Sp.nf l) n)) .none) := by
  refine h35.pure mixS (by simp) ?_
  simp only [gstart, s35, List.cons_append, List.nil_append, List.length_cons, List.length_nil, Nat.reduceAdd, Nat.reduceSub, List.replicate_succ, List.replicate_zero]
  simp +contextual -implicitDefEqProofs (maxSteps := 2000000) (disch := omega) only [↓lenV, binV, optV, ↓loadV, ↓storeV, ↓fieldAddrV, ↓indexAddrV, ↓allocV, ↓buildSliceV, ↓sliceV, ↓appendV, ↓srcV, bound, cutTag, hiTag, fillE, GVal.cells, grp, GVal.ofConst, ↓resV, resG, List.map, List.headD, List.take, List.drop, ↓reduceIte, Nat.reduceEqDiff, Nat.reduceAdd, Nat.reduceSub, Nat.reduceLeDiff, reduceCtorEq, implies_true, ne_eq, ↓asrcV, Tag.cap, List.replicate, allSolid, GVal.solid, Nat.reduceBEq, Nat.reduceMul, Nat.reduceLT, List.length_map, List.length_range, splice, vcA, ↓vcB, vcC, fbSpc, e35]
  refine (sMakeR l t (by omega) ho).then ?_ (by rfl)
  have hN := Sp.nf_len l
  have hoN := Sp.nf_ok ho
  have hrt := Sp.nf_rt l
  generalize Sp.nf l = N at *
  simp +contextual -implicitDefEqProofs (maxSteps := 2000000) (disch := omega) only [↓lenV, binV, optV, ↓loadV, ↓storeV, ↓fieldAddrV, ↓indexAddrV, ↓allocV, ↓buildSliceV, ↓sliceV, ↓appendV, ↓srcV, bound, cutTag, hiTag, fillE, GVal.cells, grp, GVal.ofConst, ↓resV, resG, List.map, List.headD, List.take, List.drop, ↓reduceIte, Nat.reduceEqDiff, Nat.reduceAdd, Nat.reduceSub, Nat.reduceLeDiff, reduceCtorEq, implies_true, ne_eq, ↓asrcV, Tag.cap, List.replicate, allSolid, GVal.solid, Nat.reduceBEq, Nat.reduceMul, Nat.reduceLT, List.length_map, List.length_range, splice, vcA, ↓vcB, vcC, fbSpc, e35, spl_length]
  refine vcSLoop_by (ι := { p : Nat × List Sp.S × Int // p.1 ≤ N.length ∧ p.2.1.reverse ++ Sp.topF (N.take p.1).reverse p.2.2 = Sp.topF N.reverse n ∧ p.2.1.length + p.1 ≤ N.length ∧ -9223372036854775808 ≤ p.2.2 ∧ p.2.2 ≤ 9223372036854775807 }) (fun p => ⟨[.slice (spl N) .none, .int .i64 p.1.2.2, .any, .any, .any, .slice (spl p.1.2.1) .none, .int .i64 ((p.1.1 : Nat) - 1)] ++ List.replicate 44 .any, []⟩) (fun p => p.1.1) ?_ ?_
  · exact Into.first ⟨(N.length, [], n), by omega, by simp, by simp, hn.1, hn.2⟩ ⟨[], by simp⟩ (by simp [WL, leG_self, leG_any, leG_int, leG_none, spl_nil])
  · rintro ⟨⟨j, out, m⟩, hj, he, hol, hm1, hm2⟩
    simp only [] at hj he hol hm1 hm2
    cases j with
    | zero =>
      have d0 : ((0 : Int) ≤ 0 - 1) = False := eq_false (by omega)
      simp +contextual -implicitDefEqProofs (maxSteps := 2000000) (disch := omega) only [↓lenV, binV, optV, ↓loadV, ↓storeV, ↓fieldAddrV, ↓indexAddrV, ↓allocV, ↓buildSliceV, ↓sliceV, ↓appendV, ↓srcV, bound, cutTag, hiTag, fillE, GVal.cells, grp, GVal.ofConst, ↓resV, resG, List.map, List.headD, List.take, List.drop, ↓reduceIte, Nat.reduceEqDiff, Nat.reduceAdd, Nat.reduceSub, Nat.reduceLeDiff, reduceCtorEq, implies_true, ne_eq, ↓asrcV, Tag.cap, List.replicate, allSolid, GVal.solid, Nat.reduceBEq, Nat.reduceMul, Nat.reduceLT, List.length_map, List.length_range, splice, vcA, ↓vcB, vcC, fbSpc, e35, spl_length, d0, false_imp_iff, true_and]
      rw [Sp.firstS, ← he]; simp [Sp.topF]
    | succ k =>
      have d0 : ((0 : Int) ≤ (k : Int) + 1 - 1) = True := eq_true (by omega)
      have d3 : ((k : Int) + 1 - 1).toNat = k := by omega
      have eS := spl_at N k (by omega)
      have hx := hoN.at k
      have hx2 := hrt.at k (by omega)
      rw [take_getD (by omega), List.reverse_append, List.reverse_singleton, List.singleton_append, Sp.topF_cons] at he
      generalize N.getD k (0, 0) = x at *
      by_cases c : m ≤ 0
      · have d1 : (0 < m) = False := eq_false (by omega)
        rw [if_pos c, List.append_nil] at he
        simp +contextual -implicitDefEqProofs (maxSteps := 2000000) (disch := omega) only [↓lenV, binV, optV, ↓loadV, ↓storeV, ↓fieldAddrV, ↓indexAddrV, ↓allocV, ↓buildSliceV, ↓sliceV, ↓appendV, ↓srcV, bound, cutTag, hiTag, fillE, GVal.cells, grp, GVal.ofConst, ↓resV, resG, List.map, List.headD, List.take, List.drop, ↓reduceIte, Nat.reduceEqDiff, Nat.reduceAdd, Nat.reduceSub, Nat.reduceLeDiff, reduceCtorEq, implies_true, ne_eq, ↓asrcV, Tag.cap, List.replicate, allSolid, GVal.solid, Nat.reduceBEq, Nat.reduceMul, Nat.reduceLT, List.length_map, List.length_range, splice, vcA, ↓vcB, vcC, fbSpc, e35, spl_length, d0, d1, d3, eS, spG, all_spl, false_imp_iff, true_imp_iff, true_and]
        rw [Sp.firstS, ← he, List.reverse_reverse]
      · have d1 : (0 < m) = True := eq_true (by omega)
        rw [if_neg c] at he
        have hz : Sp.sz x = x.2 - x.1 + 1 := rfl
        by_cases c2 : m ≤ x.2 - x.1
        · have d2 : (m ≤ x.2 - x.1) = True := eq_true c2
          have e1 : min m (Sp.sz x) = m := by omega
          rw [e1] at he
          simp +contextual -implicitDefEqProofs (maxSteps := 2000000) (disch := omega) only [↓lenV, binV, optV, ↓loadV, ↓storeV, ↓fieldAddrV, ↓indexAddrV, ↓allocV, ↓buildSliceV, ↓sliceV, ↓appendV, ↓srcV, bound, cutTag, hiTag, fillE, GVal.cells, grp, GVal.ofConst, ↓resV, resG, List.map, List.headD, List.take, List.drop, ↓reduceIte, Nat.reduceEqDiff, Nat.reduceAdd, Nat.reduceSub, Nat.reduceLeDiff, reduceCtorEq, implies_true, ne_eq, ↓asrcV, Tag.cap, List.replicate, allSolid, GVal.solid, Nat.reduceBEq, Nat.reduceMul, Nat.reduceLT, List.length_map, List.length_range, splice, vcA, ↓vcB, vcC, fbSpc, e35, spl_length, d0, d1, d2, d3, eS, spG, all_spl, false_imp_iff, true_imp_iff, true_and]
          refine ⟨by omega, fun st => ⟨by omega, by omega, fun st_1 => ?_⟩⟩
          have e3 : x.2 - m + 1 = x.2 - (m - 1) := by omega
          have e4 : m - (x.2 - (x.2 - (m - 1))) - 1 = m - m := by omega
          refine Into.at ⟨(k, (x.2 - (m - 1), x.2) :: out, m - m), by show k ≤ _; omega, by rw [← he]; simp, by simp; omega, by show _ ≤ m - m; omega, by show m - m ≤ _; omega⟩ (by show _ < _; simp) ⟨_, rfl⟩ ?_
          simp [WL, leG_self, leG_any, leG_int, leG_none, leG_tok, spl_append, spl_cons, spl_nil, spG, e3, e4] <;> omega
        · have d2 : (m ≤ x.2 - x.1) = False := eq_false c2
          have e1 : min m (Sp.sz x) = Sp.sz x := by omega
          rw [e1] at he
          simp +contextual -implicitDefEqProofs (maxSteps := 2000000) (disch := omega) only [↓lenV, binV, optV, ↓loadV, ↓storeV, ↓fieldAddrV, ↓indexAddrV, ↓allocV, ↓buildSliceV, ↓sliceV, ↓appendV, ↓srcV, bound, cutTag, hiTag, fillE, GVal.cells, grp, GVal.ofConst, ↓resV, resG, List.map, List.headD, List.take, List.drop, ↓reduceIte, Nat.reduceEqDiff, Nat.reduceAdd, Nat.reduceSub, Nat.reduceLeDiff, reduceCtorEq, implies_true, ne_eq, ↓asrcV, Tag.cap, List.replicate, allSolid, GVal.solid, Nat.reduceBEq, Nat.reduceMul, Nat.reduceLT, List.length_map, List.length_range, splice, vcA, ↓vcB, vcC, fbSpc, e35, spl_length, d0, d1, d2, d3, eS, spG, all_spl, false_imp_iff, true_imp_iff, true_and]
          refine ⟨by omega, fun st => ⟨by omega, by omega, fun st_1 => ?_⟩⟩
          have e3 : x.2 - (Sp.sz x - 1) = x.1 := by omega
          have e4 : m - (x.2 - x.1) - 1 = m - Sp.sz x := by omega
          refine Into.at ⟨(k, (x.2 - (Sp.sz x - 1), x.2) :: out, m - Sp.sz x), by show k ≤ _; omega, by rw [← he]; simp, by simp; omega, by show _ ≤ m - Sp.sz x; omega, by show m - Sp.sz x ≤ _; omega⟩ (by show _ < _; simp) ⟨_, rfl⟩ ?_
          simp [WL, leG_self, leG_any, leG_int, leG_none, leG_tok, spl_append, spl_cons, spl_nil, spG, e3, e4] <;> omega

theorem sLastR (l : List Sp.S) (t : Tag) (n : Int) (hl : l.length ≤ 4398046511104) (ho : Sp.Ok l) (hn : -9223372036854775808 ≤ n ∧ n ≤ 9223372036854775807) : GPure Try.prog 36 [.slice (spl l) t, .int .i64 n] (.slice (spl (Sp.lowF (Sp.nf l) n)) .none) := by
  refine h36.pure mixS (by simp) ?_
  simp only [gstart, s36, List.cons_append, List.nil_append, List.length_cons, List.length_nil, Nat.reduceAdd, Nat.reduceSub, List.replicate_succ, List.replicate_zero]
  simp +contextual -implicitDefEqProofs (maxSteps := 2000000) (disch := omega) only [↓lenV, binV, optV, ↓loadV, ↓storeV, ↓fieldAddrV, ↓indexAddrV, ↓allocV, ↓buildSliceV, ↓sliceV, ↓appendV, ↓srcV, bound, cutTag, hiTag, fillE, GVal.cells, grp, GVal.ofConst, ↓resV, resG, List.map, List.headD, List.take, List.drop, ↓reduceIte, Nat.reduceEqDiff, Nat.reduceAdd, Nat.reduceSub, Nat.reduceLeDiff, reduceCtorEq, implies_true, ne_eq, ↓asrcV, Tag.cap, List.replicate, allSolid, GVal.solid, Nat.reduceBEq, Nat.reduceMul, Nat.reduceLT, List.length_map, List.length_range, splice, vcA, ↓vcB, vcC, fbSpc, e36]
  refine (sMakeR l t hl ho).then ?_ (by rfl)
  have hN := Sp.nf_len l
  have hoN := Sp.nf_ok ho
  have hrt := Sp.nf_rt l
  generalize Sp.nf l = N at *
  simp +contextual -implicitDefEqProofs (maxSteps := 2000000) (disch := omega) only [↓lenV, binV, optV, ↓loadV, ↓storeV, ↓fieldAddrV, ↓indexAddrV, ↓allocV, ↓buildSliceV, ↓sliceV, ↓appendV, ↓srcV, bound, cutTag, hiTag, fillE, GVal.cells, grp, GVal.ofConst, ↓resV, resG, List.map, List.headD, List.take, List.drop, ↓reduceIte, Nat.reduceEqDiff, Nat.reduceAdd, Nat.reduceSub, Nat.reduceLeDiff, reduceCtorEq, implies_true, ne_eq, ↓asrcV, Tag.cap, List.replicate, allSolid, GVal.solid, Nat.reduceBEq, Nat.reduceMul, Nat.reduceLT, List.length_map, List.length_range, splice, vcA, ↓vcB, vcC, fbSpc, e36, spl_length]
  refine vcSLoop_by (ι := { p : Nat × Nat × List Sp.S × Int // p.1 ≤ N.length ∧ p.2.2.1 ++ Sp.lowF (N.drop p.1) p.2.2.2 = Sp.lowF N n ∧ p.2.2.1.length ≤ p.1 ∧ -9223372036854775808 ≤ p.2.2.2 ∧ p.2.2.2 ≤ 9223372036854775807 }) (fun p => ⟨[.slice (spl N) .none, .int .i64 p.1.2.2.2, .any, .any, .any, .slice (spl p.1.2.2.1) (.tok 0 p.1.2.1), .int .i64 (p.1.1 : Nat)] ++ List.replicate 43 .any, [.tok p.1.2.1 2]⟩) (fun p => N.length - p.1.1) ?_ ?_
  · refine Into.tok 5 2 [] rfl rfl ?_
    simp +contextual -implicitDefEqProofs (maxSteps := 2000000) (disch := omega) only [↓lenV, binV, optV, ↓loadV, ↓storeV, ↓fieldAddrV, ↓indexAddrV, ↓allocV, ↓buildSliceV, ↓sliceV, ↓appendV, ↓srcV, bound, cutTag, hiTag, fillE, GVal.cells, grp, GVal.ofConst, ↓resV, resG, List.map, List.headD, List.take, List.drop, ↓reduceIte, Nat.reduceEqDiff, Nat.reduceAdd, Nat.reduceSub, Nat.reduceLeDiff, reduceCtorEq, implies_true, ne_eq, ↓asrcV, Tag.cap, List.replicate, allSolid, GVal.solid, Nat.reduceBEq, Nat.reduceMul, Nat.reduceLT, List.length_map, List.length_range, splice, vcA, ↓vcB, vcC, fbSpc, e36]
    intro t0
    exact Into.first ⟨(0, t0, [], n), by omega, by simp, by simp, hn.1, hn.2⟩ ⟨[], by simp⟩ (by simp [WL, leG_self, leG_any, leG_int, spl_nil])
  · rintro ⟨⟨k, v, out, m⟩, hk, he, hol, hm1, hm2⟩
    simp only [] at hk he hol hm1 hm2
    by_cases h : k < N.length
    · have d0 : ((k : Int) < (N.length : Int)) = True := eq_true (by omega)
      have eS := spl_at N k h
      have hx := hoN.at k
      have hx2 := hrt.at k h
      rw [drop_getD h, Sp.lowF_cons] at he
      generalize N.getD k (0, 0) = x at *
      by_cases c : m ≤ 0
      · have d1 : (0 < m) = False := eq_false (by omega)
        rw [if_pos c, List.append_nil] at he
        simp +contextual -implicitDefEqProofs (maxSteps := 2000000) (disch := omega) only [↓lenV, binV, optV, ↓loadV, ↓storeV, ↓fieldAddrV, ↓indexAddrV, ↓allocV, ↓buildSliceV, ↓sliceV, ↓appendV, ↓srcV, bound, cutTag, hiTag, fillE, GVal.cells, grp, GVal.ofConst, ↓resV, resG, List.map, List.headD, List.take, List.drop, ↓reduceIte, Nat.reduceEqDiff, Nat.reduceAdd, Nat.reduceSub, Nat.reduceLeDiff, reduceCtorEq, implies_true, ne_eq, ↓asrcV, Tag.cap, List.replicate, allSolid, GVal.solid, Nat.reduceBEq, Nat.reduceMul, Nat.reduceLT, List.length_map, List.length_range, splice, vcA, ↓vcB, vcC, fbSpc, e36, spl_length, d0, d1, eS, spG, all_spl, false_imp_iff, true_imp_iff, true_and]
        rw [he]
      · have d1 : (0 < m) = True := eq_true (by omega)
        rw [if_neg c] at he
        have hz : Sp.sz x = x.2 - x.1 + 1 := rfl
        by_cases c2 : m ≤ x.2 - x.1
        · have d2 : (m ≤ x.2 - x.1) = True := eq_true c2
          have e1 : min m (Sp.sz x) = m := by omega
          rw [e1] at he
          simp +contextual -implicitDefEqProofs (maxSteps := 2000000) (disch := omega) only [↓lenV, binV, optV, ↓loadV, ↓storeV, ↓fieldAddrV, ↓indexAddrV, ↓allocV, ↓buildSliceV, ↓sliceV, ↓appendV, ↓srcV, bound, cutTag, hiTag, fillE, GVal.cells, grp, GVal.ofConst, ↓resV, resG, List.map, List.headD, List.take, List.drop, ↓reduceIte, Nat.reduceEqDiff, Nat.reduceAdd, Nat.reduceSub, Nat.reduceLeDiff, reduceCtorEq, implies_true, ne_eq, ↓asrcV, Tag.cap, List.replicate, allSolid, GVal.solid, Nat.reduceBEq, Nat.reduceMul, Nat.reduceLT, List.length_map, List.length_range, splice, vcA, ↓vcB, vcC, fbSpc, e36, spl_length, d0, d1, d2, eS, spG, all_spl, false_imp_iff, true_imp_iff, true_and]
          refine ⟨by omega, fun st => ⟨by omega, by omega, fun st_1 => ?_⟩⟩
          have e3 : x.1 + m - 1 = x.1 + (m - 1) := by omega
          have e4 : m - (x.1 + (m - 1) - x.1) - 1 = m - m := by omega
          refine Into.at ⟨(k + 1, st_1, out ++ [(x.1, x.1 + (m - 1))], m - m), by show k + 1 ≤ _; omega, by rw [← he]; simp, by simp; omega, by show _ ≤ m - m; omega, by show m - m ≤ _; omega⟩ (by show _ < _; simp; omega) ⟨[.row st 2 [[.int .i64 x.1, .int .i64 (x.1 + m - 1)]]], by simp⟩ ?_
          simp [WL, leG_self, leG_any, leG_int, leG_tok, spl_append, spl_cons, spl_nil, spG, e3, e4]
        · have d2 : (m ≤ x.2 - x.1) = False := eq_false c2
          have e1 : min m (Sp.sz x) = Sp.sz x := by omega
          rw [e1] at he
          simp +contextual -implicitDefEqProofs (maxSteps := 2000000) (disch := omega) only [↓lenV, binV, optV, ↓loadV, ↓storeV, ↓fieldAddrV, ↓indexAddrV, ↓allocV, ↓buildSliceV, ↓sliceV, ↓appendV, ↓srcV, bound, cutTag, hiTag, fillE, GVal.cells, grp, GVal.ofConst, ↓resV, resG, List.map, List.headD, List.take, List.drop, ↓reduceIte, Nat.reduceEqDiff, Nat.reduceAdd, Nat.reduceSub, Nat.reduceLeDiff, reduceCtorEq, implies_true, ne_eq, ↓asrcV, Tag.cap, List.replicate, allSolid, GVal.solid, Nat.reduceBEq, Nat.reduceMul, Nat.reduceLT, List.length_map, List.length_range, splice, vcA, ↓vcB, vcC, fbSpc, e36, spl_length, d0, d1, d2, eS, spG, all_spl, false_imp_iff, true_imp_iff, true_and]
          refine ⟨by omega, fun st => ⟨by omega, by omega, fun st_1 => ?_⟩⟩
          have e3 : x.1 + (Sp.sz x - 1) = x.2 := by omega
          have e4 : m - (x.2 - x.1) - 1 = m - Sp.sz x := by omega
          refine Into.at ⟨(k + 1, st_1, out ++ [(x.1, x.1 + (Sp.sz x - 1))], m - Sp.sz x), by show k + 1 ≤ _; omega, by rw [← he]; simp, by simp; omega, by show _ ≤ m - Sp.sz x; omega, by show m - Sp.sz x ≤ _; omega⟩ (by show _ < _; simp; omega) ⟨[.row st 2 [[.int .i64 x.1, .int .i64 x.2]]], by simp⟩ ?_
          simp [WL, leG_self, leG_any, leG_int, leG_tok, spl_append, spl_cons, spl_nil, spG, e3, e4] <;> omega
    · have d0 : ((k : Int) < (N.length : Int)) = False := eq_false (by omega)
      rw [List.drop_of_length_le (by omega)] at he
      simp +contextual -implicitDefEqProofs (maxSteps := 2000000) (disch := omega) only [↓lenV, binV, optV, ↓loadV, ↓storeV, ↓fieldAddrV, ↓indexAddrV, ↓allocV, ↓buildSliceV, ↓sliceV, ↓appendV, ↓srcV, bound, cutTag, hiTag, fillE, GVal.cells, grp, GVal.ofConst, ↓resV, resG, List.map, List.headD, List.take, List.drop, ↓reduceIte, Nat.reduceEqDiff, Nat.reduceAdd, Nat.reduceSub, Nat.reduceLeDiff, reduceCtorEq, implies_true, ne_eq, ↓asrcV, Tag.cap, List.replicate, allSolid, GVal.solid, Nat.reduceBEq, Nat.reduceMul, Nat.reduceLT, List.length_map, List.length_range, splice, vcA, ↓vcB, vcC, fbSpc, e36, d0, spl_length, false_imp_iff, true_and]
      rw [← he]; simp [Sp.lowF]
end Gv.Try
/- The laws of chapter 10: three sets. -/
set_option linter.unusedVariables false
set_option linter.unusedSimpArgs false
set_option maxRecDepth 20000
set_option maxHeartbeats 4000000
namespace Gv.Try
open Go Gv Go.Proofs
open Gv.Sp (Lim)
theorem kUnion {a b : List Sp.S} {ta tb : Tag} {m n : Nat} (ha : Lim a m) (hb : Lim b n) (h : m + n ≤ 1000 := by decide) : GPure Try.prog 14 [.slice (spl a) ta, .slice (spl b) tb] (.slice (spl (Sp.uni a b)) .none) := sUnion a b ta tb (by have := ha.1; have := hb.1; omega) ha.2 hb.2
theorem kBoth {a b : List Sp.S} {ta tb : Tag} {m n : Nat} (ha : Lim a m) (hb : Lim b n) (h : m + n ≤ 1000 := by decide) : GPure Try.prog 12 [.slice (spl a) ta, .slice (spl b) tb] (.slice (spl (Sp.bothS a b)) .none) := sBoth a b ta tb (by have := ha.1; have := hb.1; omega) ha.2 hb.2
theorem kMinus {a b : List Sp.S} {ta tb : Tag} {m n : Nat} (ha : Lim a m) (hb : Lim b n) (h : m + n ≤ 1000 := by decide) : GPure Try.prog 10 [.slice (spl a) ta, .slice (spl b) tb] (.slice (spl (Sp.minus a b)) .none) := sMinus a b ta tb (by have := ha.1; have := hb.1; omega) ha.2 hb.2
theorem kMake {a : List Sp.S} {ta : Tag} {m : Nat} (ha : Lim a m) (h : m ≤ 1000 := by decide) : GPure Try.prog 15 [.slice (spl a) ta] (.slice (spl (Sp.nf a)) .none) := sMake a ta (by have := ha.1; omega) ha.2
theorem kMakeR {a : List Sp.S} {ta : Tag} {m : Nat} (ha : Lim a m) (h : m ≤ 1000 := by decide) : GPure Try.prog 16 [.slice (spl a) ta] (.slice (spl (Sp.nf a)) .none) := sMakeR a ta (by have := ha.1; omega) ha.2
theorem kRight {a : List Sp.S} {ta : Tag} {m : Nat} (ha : Lim a m) (h : m ≤ 1000 := by decide) : GPure Try.prog 17 [.slice (spl a) ta] (.bool (rightB 0 a)) := sRight a ta (by have := ha.1; omega) ha.2
theorem kRightR {a : List Sp.S} {ta : Tag} {m : Nat} (ha : Lim a m) (h : m ≤ 1000 := by decide) : GPure Try.prog 18 [.slice (spl a) ta] (.bool (rightB 0 a)) := sRightR a ta (by have := ha.1; omega) ha.2
theorem kCount {a : List Sp.S} {ta : Tag} {m : Nat} (ha : Lim a m) (h : m ≤ 1000 := by decide) : GPure Try.prog 22 [.slice (spl a) ta] (.int .i64 (min 9223372036854775807 (Sp.tot (Sp.nf a)))) := sCount a ta (by have := ha.1; omega) ha.2
theorem kCountR {a : List Sp.S} {ta : Tag} {m : Nat} (ha : Lim a m) (h : m ≤ 1000 := by decide) : GPure Try.prog 23 [.slice (spl a) ta] (.int .i64 (min 9223372036854775807 (Sp.tot (Sp.nf a)))) := sCountR a ta (by have := ha.1; omega) ha.2
theorem kUnionR {a b : List Sp.S} {ta tb : Tag} {m n : Nat} (ha : Lim a m) (hb : Lim b n) (h : m + n ≤ 1000 := by decide) : GPure Try.prog 19 [.slice (spl a) ta, .slice (spl b) tb] (.slice (spl (Sp.uni a b)) .none) := sUnionR a b ta tb (by have := ha.1; have := hb.1; omega) ha.2 hb.2
theorem kBothR {a b : List Sp.S} {ta tb : Tag} {m n : Nat} (ha : Lim a m) (hb : Lim b n) (h : m + n ≤ 1000 := by decide) : GPure Try.prog 20 [.slice (spl a) ta, .slice (spl b) tb] (.slice (spl (Sp.bothS a b)) .none) := sBothR a b ta tb (by have := ha.1; have := hb.1; omega) ha.2 hb.2
theorem kMinusR {a b : List Sp.S} {ta tb : Tag} {m n : Nat} (ha : Lim a m) (hb : Lim b n) (h : m + n ≤ 1000 := by decide) : GPure Try.prog 21 [.slice (spl a) ta, .slice (spl b) tb] (.slice (spl (Sp.minus a b)) .none) := sMinusR a b ta tb (by have := ha.1; have := hb.1; omega) ha.2 hb.2
theorem kSame {a b : List Sp.S} {ta tb : Tag} {m : Nat} (ha : Lim a m) (e : a = b) (h : m ≤ 1000 := by decide) : GPure Try.prog 13 [.slice (spl a) ta, .slice (spl b) tb] (.bool true) := by
  have c := sSameSpans a b ta tb (by have := ha.1; omega)
  rwa [decide_eq_true e] at c
theorem kBothNil {a b : List Sp.S} {ta tb : Tag} {m n : Nat} (ha : Lim a m) (hb : Lim b n) (e : Sp.bothS a b = []) (h : m + n ≤ 1000 := by decide) : GPure Try.prog 12 [.slice (spl a) ta, .slice (spl b) tb] (.slice [] .none) := by
  have c := kBoth (ta := ta) (tb := tb) ha hb h
  rwa [e] at c
theorem kMinusNil {a b : List Sp.S} {ta tb : Tag} {m n : Nat} (ha : Lim a m) (hb : Lim b n) (e : Sp.minus a b = []) (h : m + n ≤ 1000 := by decide) : GPure Try.prog 10 [.slice (spl a) ta, .slice (spl b) tb] (.slice [] .none) := by
  have c := kMinus (ta := ta) (tb := tb) ha hb h
  rwa [e] at c
theorem elS_ok (x y : Int) (w : Bool) : (-9223372036854775808 ≤ (elS x y w).1 ∧ (elS x y w).1 ≤ 9223372036854775807) ∧ (-9223372036854775808 ≤ (elS x y w).2 ∧ (elS x y w).2 ≤ 9223372036854775807) := by
  have e1 := Int.emod_nonneg x (by decide : (60 : Int) ≠ 0)
  have e2 := Int.emod_lt_of_pos x (by decide : (0 : Int) < 60)
  have e3 := Int.emod_nonneg y (by decide : (9 : Int) ≠ 0)
  have e4 := Int.emod_lt_of_pos y (by decide : (0 : Int) < 9)
  have e5 := Int.emod_nonneg y (by decide : (5 : Int) ≠ 0)
  have e6 := Int.emod_lt_of_pos y (by decide : (0 : Int) < 5)
  have e7 := Int.emod_nonneg (x.tdiv 7) (by decide : (6 : Int) ≠ 0)
  have e8 := Int.emod_lt_of_pos (x.tdiv 7) (by decide : (0 : Int) < 6)
  unfold elS
  split
  · exact ⟨⟨by show _ ≤ 9223372036854775807 - y % 5 - _; omega, by show 9223372036854775807 - y % 5 - _ ≤ _; omega⟩, ⟨by show _ ≤ 9223372036854775807 - y % 5; omega, by show 9223372036854775807 - y % 5 ≤ _; omega⟩⟩
  · exact ⟨⟨by show _ ≤ x % 60 - 2; omega, by show x % 60 - 2 ≤ _; omega⟩, ⟨by show _ ≤ x % 60 - 2 + y % 9 - 2; omega, by show x % 60 - 2 + y % 9 - 2 ≤ _; omega⟩⟩
theorem setF_lim (l : List Int) (w : Bool) : Lim (setF l w) 12 := by
  refine ⟨by simp [setF, setN]; omega, fun s hs => ?_⟩
  simp only [setF, setN, List.mem_map] at hs
  obtain ⟨j, _, rfl⟩ := hs
  exact elS_ok _ _ _
/-- raw numbers of the machine -/
def Ints (l : List Int) : Prop := l.length ≤ 9223372036854775807 ∧ ∀ i, -9223372036854775808 ≤ l.getD i 0 ∧ l.getD i 0 ≤ 9223372036854775807
theorem kSet {l : List Int} {w : Bool} {t : Tag} (h : Ints l) : GPure Try.prog 9 [.slice (ints l) t, .bool w] (.slice (spl (setF l w)) .none) := sSet l w t (by have := h.1; omega) h.2
end Gv.Try
/- Contracts: the document's IDs, Of, Skip; all of them for few spans. -/
set_option linter.unusedVariables false
set_option linter.unusedSimpArgs false
set_option maxRecDepth 20000
set_option maxHeartbeats 4000000
namespace Gv.Try
open Go Gv Go.Proofs
open Gv.Sp (Lim)

theorem sIDsR (l : List Sp.S) (t : Tag) (n : Int) (hl : l.length ≤ 1000) (ho : Sp.Ok l) (hn : -9223372036854775808 ≤ n ∧ n ≤ 10000) : GPure Try.prog 38 [.slice (spl l) t, .int .i64 n] (.slice (ints (Sp.els (Sp.firstS (Sp.nf l) n))) .none) := by
  refine h38.pure mixS (by simp) ?_
  simp only [gstart, s38, List.cons_append, List.nil_append, List.length_cons, List.length_nil, Nat.reduceAdd, Nat.reduceSub, List.replicate_succ, List.replicate_zero]
  simp +contextual -implicitDefEqProofs (maxSteps := 2000000) (disch := omega) only [↓lenV, binV, optV, ↓loadV, ↓fieldAddrV, ↓indexAddrV, ↓buildSliceV, ↓sliceV, ↓appendV, ↓srcV, bound, cutTag, hiTag, fillE, GVal.cells, grp, GVal.ofConst, ↓resV, resG, List.map, List.headD, List.take, List.drop, ↓reduceIte, Nat.reduceEqDiff, Nat.reduceAdd, Nat.reduceSub, Nat.reduceLeDiff, reduceCtorEq, implies_true, ne_eq, ↓asrcV, aggV, Tag.cap, List.replicate, allSolid, GVal.solid, Nat.reduceBEq, Nat.reduceMul, Nat.reduceLT, List.length_map, List.length_range, splice, vcA, ↓vcB, vcC, fbSpc, e38]
  refine (sFirstR l t n hl ho ⟨hn.1, by omega⟩).then ?_ (by rfl)
  have hN := Sp.nf_len l
  have hfl := Sp.first_len (Sp.nf l) n
  have hrt := Sp.first_rt (Sp.nf_rt l) n
  have hoN := Sp.first_ok (Sp.nf_rt l) (Sp.nf_ok ho) n
  have hel : (Sp.els (Sp.firstS (Sp.nf l) n)).length ≤ 10000 := by rw [Sp.els_first (Sp.nf_rt l)]; simp; omega
  generalize Sp.firstS (Sp.nf l) n = N at *
  simp +contextual -implicitDefEqProofs (maxSteps := 2000000) (disch := omega) only [↓lenV, binV, optV, ↓loadV, ↓fieldAddrV, ↓indexAddrV, ↓buildSliceV, ↓sliceV, ↓appendV, ↓srcV, bound, cutTag, hiTag, fillE, GVal.cells, grp, GVal.ofConst, ↓resV, resG, List.map, List.headD, List.take, List.drop, ↓reduceIte, Nat.reduceEqDiff, Nat.reduceAdd, Nat.reduceSub, Nat.reduceLeDiff, reduceCtorEq, implies_true, ne_eq, ↓asrcV, aggV, Tag.cap, List.replicate, allSolid, GVal.solid, Nat.reduceBEq, Nat.reduceMul, Nat.reduceLT, List.length_map, List.length_range, splice, vcA, ↓vcB, vcC, fbSpc, e38, spl_length]
  refine vcSLoop_by (ι := { p : Nat × Nat // p.1 ≤ N.length }) (fun p => ⟨[.slice (spl N) .none, .any, .any, .any, .any, .slice (ints (Sp.els (N.drop p.1.1))) (.tok 0 p.1.2), .int .i64 ((p.1.1 : Nat) - 1)] ++ List.replicate 32 .any, [.tok p.1.2 1]⟩) (fun p => p.1.1) ?_ ?_
  · refine Into.tok 5 1 [] rfl rfl ?_
    simp +contextual -implicitDefEqProofs (maxSteps := 2000000) (disch := omega) only [↓lenV, binV, optV, ↓loadV, ↓fieldAddrV, ↓indexAddrV, ↓buildSliceV, ↓sliceV, ↓appendV, ↓srcV, bound, cutTag, hiTag, fillE, GVal.cells, grp, GVal.ofConst, ↓resV, resG, List.map, List.headD, List.take, List.drop, ↓reduceIte, Nat.reduceEqDiff, Nat.reduceAdd, Nat.reduceSub, Nat.reduceLeDiff, reduceCtorEq, implies_true, ne_eq, ↓asrcV, aggV, Tag.cap, List.replicate, allSolid, GVal.solid, Nat.reduceBEq, Nat.reduceMul, Nat.reduceLT, List.length_map, List.length_range, splice, vcA, ↓vcB, vcC, fbSpc, e38]
    intro t0
    exact Into.first ⟨(N.length, t0), by omega⟩ ⟨[], by simp⟩ (by simp [WL, leG_self, leG_any, leG_int, Sp.els_nil, ints_nil])
  · rintro ⟨⟨j, v⟩, hj⟩
    simp only [] at hj
    cases j with
    | zero =>
      have d0 : ((0 : Int) ≤ 0 - 1) = False := eq_false (by omega)
      simp +contextual -implicitDefEqProofs (maxSteps := 2000000) (disch := omega) only [↓lenV, binV, optV, ↓loadV, ↓fieldAddrV, ↓indexAddrV, ↓buildSliceV, ↓sliceV, ↓appendV, ↓srcV, bound, cutTag, hiTag, fillE, GVal.cells, grp, GVal.ofConst, ↓resV, resG, List.map, List.headD, List.take, List.drop, ↓reduceIte, Nat.reduceEqDiff, Nat.reduceAdd, Nat.reduceSub, Nat.reduceLeDiff, reduceCtorEq, implies_true, ne_eq, ↓asrcV, aggV, Tag.cap, List.replicate, allSolid, GVal.solid, Nat.reduceBEq, Nat.reduceMul, Nat.reduceLT, List.length_map, List.length_range, splice, vcA, ↓vcB, vcC, fbSpc, e38, spl_length, d0, false_imp_iff, true_and]
    | succ k =>
      have d0 : ((0 : Int) ≤ ((k + 1 : Nat) : Int) - 1) = True := eq_true (by omega)
      have d0' : ((0 : Int) ≤ (k : Int) + 1 - 1) = True := eq_true (by omega)
      have d1 : ((k : Int) + 1 - 1).toNat = k := by omega
      have eS := spl_at N k (by omega)
      have hx := hoN.at k
      have hx2 := hrt.at k (by omega)
      have eD : Sp.els (N.drop k) = Sp.els (N.drop (k + 1)) ++ Sp.down (N.getD k (0, 0)).2 (Sp.sz (N.getD k (0, 0))).toNat := by rw [drop_getD (by omega), Sp.els_cons]
      have hle : (Sp.els (N.drop k)).length ≤ 10000 := by
        have : ∀ (M : List Sp.S) (j : Nat), (Sp.els (M.drop j)).length ≤ (Sp.els M).length := by
          intro M
          induction M with
          | nil => simp
          | cons a r ih =>
            intro j
            cases j with
            | zero => simp
            | succ j => rw [List.drop_succ_cons, Sp.els_cons, List.length_append]; have := ih j; omega
        have := this N k; omega
      generalize N.getD k (0, 0) = x at *
      have hz : Sp.sz x = x.2 - x.1 + 1 := rfl
      generalize Sp.els (N.drop (k + 1)) = E at *
      rw [eD, List.length_append, Sp.down_len] at hle
      simp +contextual -implicitDefEqProofs (maxSteps := 2000000) (disch := omega) only [↓lenV, binV, optV, ↓loadV, ↓fieldAddrV, ↓indexAddrV, ↓buildSliceV, ↓sliceV, ↓appendV, ↓srcV, bound, cutTag, hiTag, fillE, GVal.cells, grp, GVal.ofConst, ↓resV, resG, List.map, List.headD, List.take, List.drop, ↓reduceIte, Nat.reduceEqDiff, Nat.reduceAdd, Nat.reduceSub, Nat.reduceLeDiff, reduceCtorEq, implies_true, ne_eq, ↓asrcV, aggV, Tag.cap, List.replicate, allSolid, GVal.solid, Nat.reduceBEq, Nat.reduceMul, Nat.reduceLT, List.length_map, List.length_range, splice, vcA, ↓vcB, vcC, fbSpc, e38, spl_length, d0, d0', d1, eS, spG, all_spl, true_imp_iff, false_imp_iff, true_and]
      refine ⟨by omega, ?_⟩
      refine vcSLoop_by (ι := { p : Nat × Nat // p.1 ≤ (Sp.sz x).toNat }) (fun p => ⟨[.slice (spl N) .none, .any, .any, .any, .any, .slice (ints (E ++ Sp.down x.2 p.1.1)) (.tok 0 p.1.2), .int .i64 (k : Nat), .int .i64 (x.2 - (p.1.1 : Nat))] ++ List.replicate 31 .any, [.tok p.1.2 1]⟩) (fun p => (Sp.sz x).toNat - p.1.1) ?_ ?_
      · exact Into.first ⟨(0, v), by omega⟩ ⟨[], by simp⟩ (by simp [WL, leG_self, leG_any, leG_int, Sp.down_zero]; try omega)
      · rintro ⟨⟨i, u⟩, hi⟩
        simp only [] at hi
        by_cases h : i < (Sp.sz x).toNat
        · have d2 : (x.1 ≤ x.2 - (i : Int)) = True := eq_true (by omega)
          have d3 : ((k : Int)).toNat = k := by omega
          have eN := Sp.down_snoc x.2 i
          have hz2 := Sp.down_len x.2 i
          by_cases c0 : x.2 - (i : Int) = 0
          · have d4 : (x.2 - (i : Int) = 0) = True := eq_true c0
            have ei : i + 1 = (Sp.sz x).toNat := by omega
            rw [← ei, eN] at eD
            generalize Sp.down x.2 i = Z at *
            simp +contextual -implicitDefEqProofs (maxSteps := 2000000) (disch := omega) only [↓lenV, binV, optV, ↓loadV, ↓fieldAddrV, ↓indexAddrV, ↓buildSliceV, ↓sliceV, ↓appendV, ↓srcV, bound, cutTag, hiTag, fillE, GVal.cells, grp, GVal.ofConst, ↓resV, resG, List.map, List.headD, List.take, List.drop, ↓reduceIte, Nat.reduceEqDiff, Nat.reduceAdd, Nat.reduceSub, Nat.reduceLeDiff, reduceCtorEq, implies_true, ne_eq, ↓asrcV, aggV, Tag.cap, List.replicate, allSolid, GVal.solid, Nat.reduceBEq, Nat.reduceMul, Nat.reduceLT, List.length_map, List.length_range, splice, vcA, ↓vcB, vcC, fbSpc, e38, spl_length, d2, d3, d4, eS, spG, all_spl, all_ints, List.length_append, true_imp_iff, false_imp_iff, true_and]
            refine ⟨by omega, by omega, by omega, by omega, fun st => ⟨?_, fun h => absurd trivial h⟩⟩
            refine Into.at ⟨(k, st), by show k ≤ _; omega⟩ (by show _ < _; simp) ⟨[], by simp⟩ ?_
            simp [WL, leG_self, leG_any, leG_int, leG_tok, eD, c0, ints_append, ints_one]
          · have d4 : (x.2 - (i : Int) = 0) = False := eq_false c0
            generalize Sp.down x.2 i = Z at *
            simp +contextual -implicitDefEqProofs (maxSteps := 2000000) (disch := omega) only [↓lenV, binV, optV, ↓loadV, ↓fieldAddrV, ↓indexAddrV, ↓buildSliceV, ↓sliceV, ↓appendV, ↓srcV, bound, cutTag, hiTag, fillE, GVal.cells, grp, GVal.ofConst, ↓resV, resG, List.map, List.headD, List.take, List.drop, ↓reduceIte, Nat.reduceEqDiff, Nat.reduceAdd, Nat.reduceSub, Nat.reduceLeDiff, reduceCtorEq, implies_true, ne_eq, ↓asrcV, aggV, Tag.cap, List.replicate, allSolid, GVal.solid, Nat.reduceBEq, Nat.reduceMul, Nat.reduceLT, List.length_map, List.length_range, splice, vcA, ↓vcB, vcC, fbSpc, e38, spl_length, d2, d3, d4, eS, spG, all_spl, all_ints, List.length_append, true_imp_iff, false_imp_iff, true_and]
            refine ⟨by omega, by omega, by omega, by omega, fun st => ?_⟩
            refine Into.at ⟨(i + 1, st), by show i + 1 ≤ _; omega⟩ (by show _ < _; simp; omega) ⟨[], by simp⟩ ?_
            have e5 : x.2 - (i : Int) - 1 = x.2 - ((i : Int) + 1) := by omega
            simp [WL, leG_self, leG_any, leG_int, leG_tok, eN, e5, ints_append, ints_one]
        · have d2 : (x.1 ≤ x.2 - (i : Int)) = False := eq_false (by omega)
          have d3 : ((k : Int)).toNat = k := by omega
          obtain rfl : i = (Sp.sz x).toNat := by omega
          simp +contextual -implicitDefEqProofs (maxSteps := 2000000) (disch := omega) only [↓lenV, binV, optV, ↓loadV, ↓fieldAddrV, ↓indexAddrV, ↓buildSliceV, ↓sliceV, ↓appendV, ↓srcV, bound, cutTag, hiTag, fillE, GVal.cells, grp, GVal.ofConst, ↓resV, resG, List.map, List.headD, List.take, List.drop, ↓reduceIte, Nat.reduceEqDiff, Nat.reduceAdd, Nat.reduceSub, Nat.reduceLeDiff, reduceCtorEq, implies_true, ne_eq, ↓asrcV, aggV, Tag.cap, List.replicate, allSolid, GVal.solid, Nat.reduceBEq, Nat.reduceMul, Nat.reduceLT, List.length_map, List.length_range, splice, vcA, ↓vcB, vcC, fbSpc, e38, spl_length, d2, d3, eS, spG, all_spl, true_imp_iff, false_imp_iff, true_and]
          refine ⟨by omega, by omega, ?_⟩
          refine Into.at ⟨(k, u), by show k ≤ _; omega⟩ (by show _ < _; simp) ⟨[], by simp⟩ ?_
          simp [WL, leG_self, leG_any, leG_int, leG_tok, eD]

theorem sOfR (l : List Int) (t : Tag) (hl : l.length ≤ 1000) (hi : ∀ i, -9223372036854775808 ≤ l.getD i 0 ∧ l.getD i 0 ≤ 9223372036854775807) : GPure Try.prog 39 [.slice (ints l) t] (.slice (spl (Sp.nf (l.map fun i => (i, i)))) .none) := by
  have ho : Sp.Ok (l.map fun i => ((i, i) : Sp.S)) := fun s hs => by
    obtain ⟨i, h, rfl⟩ := List.mem_map.1 hs
    obtain ⟨j, hj, rfl⟩ := List.getElem_of_mem h
    have := hi j
    rw [List.getD_eq_getElem?_getD, List.getElem?_eq_getElem hj] at this
    exact ⟨this, this⟩
  refine h39.pure mixS (by simp) ?_
  simp only [gstart, s39, List.cons_append, List.nil_append, List.length_cons, List.length_nil, Nat.reduceAdd, Nat.reduceSub, List.replicate_succ, List.replicate_zero]
  simp +contextual -implicitDefEqProofs (maxSteps := 2000000) (disch := omega) only [drawC, ↓lenV, binV, optV, ↓loadV, ↓indexAddrV, ↓buildV, ↓buildSliceV, ↓sliceV, ↓appendV, ↓srcV, bound, cutTag, hiTag, fillG, fillE, place, GVal.cells, grp, GVal.ofConst, ↓resV, resG, List.map, List.headD, List.take, List.drop, ↓reduceIte, Nat.reduceEqDiff, Nat.reduceAdd, Nat.reduceSub, Nat.reduceLeDiff, reduceCtorEq, implies_true, ne_eq, ↓asrcV, Tag.cap, List.replicate, allSolid, GVal.solid, Nat.reduceBEq, Nat.reduceMul, Nat.reduceLT, List.length_map, List.length_range, splice, vcA, ↓vcB, vcC, fbSpc, e39]
  refine vcSLoop_by (ι := { p : Nat × Nat // p.1 ≤ l.length }) (fun p => ⟨[.slice (ints l) t, .any, .any, .slice (spl ((l.take p.1.1).map fun i => (i, i))) (.tok 0 p.1.2), .int .i64 (p.1.1 : Nat)] ++ List.replicate 20 .any, [.tok p.1.2 2]⟩) (fun p => l.length - p.1.1) ?_ ?_
  · refine Into.tok 3 2 [] rfl rfl ?_
    simp +contextual -implicitDefEqProofs (maxSteps := 2000000) (disch := omega) only [drawC, ↓lenV, binV, optV, ↓loadV, ↓indexAddrV, ↓buildV, ↓buildSliceV, ↓sliceV, ↓appendV, ↓srcV, bound, cutTag, hiTag, fillG, fillE, place, GVal.cells, grp, GVal.ofConst, ↓resV, resG, List.map, List.headD, List.take, List.drop, ↓reduceIte, Nat.reduceEqDiff, Nat.reduceAdd, Nat.reduceSub, Nat.reduceLeDiff, reduceCtorEq, implies_true, ne_eq, ↓asrcV, Tag.cap, List.replicate, allSolid, GVal.solid, Nat.reduceBEq, Nat.reduceMul, Nat.reduceLT, List.length_map, List.length_range, splice, vcA, ↓vcB, vcC, fbSpc, e39]
    intro t0
    exact Into.first ⟨(0, t0), by omega⟩ ⟨[], by simp⟩ (by simp [WL, leG_self, leG_any, spl_nil])
  · rintro ⟨⟨k, v⟩, hk⟩
    simp only [] at hk
    by_cases h : k < l.length
    · have d0 : ((k : Int) < (l.length : Int)) = True := eq_true (by omega)
      have eN : (l.take (k + 1)).map (fun i => ((i, i) : Sp.S)) = (l.take k).map (fun i => (i, i)) ++ [(l.getD k 0, l.getD k 0)] := by rw [List.take_add_one, List.map_append]; simp [List.getD, h]
      have hz : ((l.take k).map (fun i => ((i, i) : Sp.S))).length ≤ 1000 := by simp; omega
      generalize (l.take k).map (fun i => ((i, i) : Sp.S)) = Z at *
      simp +contextual -implicitDefEqProofs (maxSteps := 2000000) (disch := omega) only [drawC, ↓lenV, binV, optV, ↓loadV, ↓indexAddrV, ↓buildV, ↓buildSliceV, ↓sliceV, ↓appendV, ↓srcV, bound, cutTag, hiTag, fillG, fillE, place, GVal.cells, grp, GVal.ofConst, ↓resV, resG, List.map, List.headD, List.take, List.drop, ↓reduceIte, Nat.reduceEqDiff, Nat.reduceAdd, Nat.reduceSub, Nat.reduceLeDiff, reduceCtorEq, implies_true, ne_eq, ↓asrcV, Tag.cap, List.replicate, allSolid, GVal.solid, Nat.reduceBEq, Nat.reduceMul, Nat.reduceLT, List.length_map, List.length_range, splice, vcA, ↓vcB, vcC, fbSpc, e39, d0, spl_length, all_spl]
      refine ⟨by omega, by omega, by omega, by omega, fun st => ?_⟩
      refine Into.at ⟨(k + 1, st), by show k + 1 ≤ _; omega⟩ (by show _ < _; simp; omega) ⟨[], by simp⟩ ?_
      simp [WL, leG_self, leG_any, leG_int, leG_tok, eN, spl_append, spl_cons, spl_nil, spG]
    · have d0 : ((k : Int) < (l.length : Int)) = False := eq_false (by omega)
      rw [List.take_of_length_le (l := l) (i := k) (by omega)]
      simp +contextual -implicitDefEqProofs (maxSteps := 2000000) (disch := omega) only [drawC, ↓lenV, binV, optV, ↓loadV, ↓indexAddrV, ↓buildV, ↓buildSliceV, ↓sliceV, ↓appendV, ↓srcV, bound, cutTag, hiTag, fillG, fillE, place, GVal.cells, grp, GVal.ofConst, ↓resV, resG, List.map, List.headD, List.take, List.drop, ↓reduceIte, Nat.reduceEqDiff, Nat.reduceAdd, Nat.reduceSub, Nat.reduceLeDiff, reduceCtorEq, implies_true, ne_eq, ↓asrcV, Tag.cap, List.replicate, allSolid, GVal.solid, Nat.reduceBEq, Nat.reduceMul, Nat.reduceLT, List.length_map, List.length_range, splice, vcA, ↓vcB, vcC, fbSpc, e39, d0, false_imp_iff, true_and]
      refine (sMakeR _ _ (by simp; omega) ho).then ?_ (by rfl)
      simp +contextual -implicitDefEqProofs (maxSteps := 2000000) (disch := omega) only [drawC, ↓lenV, binV, optV, ↓loadV, ↓indexAddrV, ↓buildV, ↓buildSliceV, ↓sliceV, ↓appendV, ↓srcV, bound, cutTag, hiTag, fillG, fillE, place, GVal.cells, grp, GVal.ofConst, ↓resV, resG, List.map, List.headD, List.take, List.drop, ↓reduceIte, Nat.reduceEqDiff, Nat.reduceAdd, Nat.reduceSub, Nat.reduceLeDiff, reduceCtorEq, implies_true, ne_eq, ↓asrcV, Tag.cap, List.replicate, allSolid, GVal.solid, Nat.reduceBEq, Nat.reduceMul, Nat.reduceLT, List.length_map, List.length_range, splice, vcA, ↓vcB, vcC, fbSpc, e39]

theorem sSkipR (l : List Sp.S) (t : Tag) (n : Int) (hl : l.length ≤ 1000) (ho : Sp.Ok l) (hn : -9223372036854775808 ≤ n ∧ n ≤ 9223372036854775807) : GPure Try.prog 37 [.slice (spl l) t, .int .i64 n] (.slice (spl (Sp.skipS (Sp.nf l) n)) .none) := by
  have h1 := Sp.first_len (Sp.nf l) n
  have h2 := Sp.nf_len l
  refine h37.pure mixS (by simp) ?_
  simp only [gstart, s37, List.cons_append, List.nil_append, List.length_cons, List.length_nil, Nat.reduceAdd, Nat.reduceSub, List.replicate_succ, List.replicate_zero]
  simp +contextual -implicitDefEqProofs (maxSteps := 2000000) (disch := omega) only [optV, ↓sliceV, bound, cutTag, hiTag, GVal.cells, grp, GVal.ofConst, ↓resV, resG, List.map, List.headD, List.take, List.drop, ↓reduceIte, Nat.reduceEqDiff, Nat.reduceAdd, Nat.reduceSub, Nat.reduceLeDiff, reduceCtorEq, implies_true, ne_eq, Tag.cap, List.replicate, allSolid, GVal.solid, Nat.reduceBEq, Nat.reduceMul, Nat.reduceLT, List.length_map, List.length_range, splice, vcA, ↓vcB, vcC, fbSpc, e37]
  refine (sFirstR l t n hl ho hn).then ?_ (by rfl)
  simp +contextual -implicitDefEqProofs (maxSteps := 2000000) (disch := omega) only [optV, ↓sliceV, bound, cutTag, hiTag, GVal.cells, grp, GVal.ofConst, ↓resV, resG, List.map, List.headD, List.take, List.drop, ↓reduceIte, Nat.reduceEqDiff, Nat.reduceAdd, Nat.reduceSub, Nat.reduceLeDiff, reduceCtorEq, implies_true, ne_eq, Tag.cap, List.replicate, allSolid, GVal.solid, Nat.reduceBEq, Nat.reduceMul, Nat.reduceLT, List.length_map, List.length_range, splice, vcA, ↓vcB, vcC, fbSpc, e37]
  refine (sMinusR l (Sp.firstS (Sp.nf l) n) t .none ⟨hl, by omega⟩ ho (Sp.first_ok (Sp.nf_rt l) (Sp.nf_ok ho) n)).then ?_ (by rfl)
  simp +contextual -implicitDefEqProofs (maxSteps := 2000000) (disch := omega) only [optV, ↓sliceV, bound, cutTag, hiTag, GVal.cells, grp, GVal.ofConst, ↓resV, resG, List.map, List.headD, List.take, List.drop, ↓reduceIte, Nat.reduceEqDiff, Nat.reduceAdd, Nat.reduceSub, Nat.reduceLeDiff, reduceCtorEq, implies_true, ne_eq, Tag.cap, List.replicate, allSolid, GVal.solid, Nat.reduceBEq, Nat.reduceMul, Nat.reduceLT, List.length_map, List.length_range, splice, vcA, ↓vcB, vcC, fbSpc, e37]
  rw [Sp.skip_eq (Sp.nf_rt l) (Sp.nf_ok ho)]
  congr 1
  refine Sp.eqv (Sp.minus_rt _ _) (Sp.minus_rt _ _) fun m => ?_
  rw [Sp.minus_has ho (Sp.first_ok (Sp.nf_rt l) (Sp.nf_ok ho) n), Sp.minus_has (Sp.nf_ok ho) (Sp.first_ok (Sp.nf_rt l) (Sp.nf_ok ho) n), Sp.nf_has]

theorem kFirst {a : List Sp.S} {ta : Tag} {m : Nat} {n : Int} (ha : Lim a m) (hn : -1000 ≤ n ∧ n ≤ 1000) (h : m ≤ 1000 := by decide) : GPure Try.prog 28 [.slice (spl a) ta, .int .i64 n] (.slice (spl (Sp.firstS (Sp.nf a) n)) .none) := sFirst a ta n (by have := ha.1; omega) ha.2 (by omega)
theorem kSkip {a : List Sp.S} {ta : Tag} {m : Nat} {n : Int} (ha : Lim a m) (hn : -1000 ≤ n ∧ n ≤ 1000) (h : m ≤ 1000 := by decide) : GPure Try.prog 31 [.slice (spl a) ta, .int .i64 n] (.slice (spl (Sp.skipS (Sp.nf a) n)) .none) := sSkip a ta n (by have := ha.1; omega) ha.2 (by omega)
theorem kLast {a : List Sp.S} {ta : Tag} {m : Nat} {n : Int} (ha : Lim a m) (hn : -1000 ≤ n ∧ n ≤ 1000) (h : m ≤ 1000 := by decide) : GPure Try.prog 29 [.slice (spl a) ta, .int .i64 n] (.slice (spl (Sp.lowF (Sp.nf a) n)) .none) := sLast a ta n (by have := ha.1; omega) ha.2 (by omega)
theorem kIDs {a : List Sp.S} {ta : Tag} {m : Nat} {n : Int} (ha : Lim a m) (hn : -1000 ≤ n ∧ n ≤ 1000) (h : m ≤ 1000 := by decide) : GPure Try.prog 24 [.slice (spl a) ta, .int .i64 n] (.slice (ints (Sp.els (Sp.firstS (Sp.nf a) n))) .none) := sIDs a ta n (by have := ha.1; omega) ha.2 (by omega)
theorem kFirstR {a : List Sp.S} {ta : Tag} {m : Nat} {n : Int} (ha : Lim a m) (hn : -1000 ≤ n ∧ n ≤ 1000) (h : m ≤ 1000 := by decide) : GPure Try.prog 35 [.slice (spl a) ta, .int .i64 n] (.slice (spl (Sp.firstS (Sp.nf a) n)) .none) := sFirstR a ta n (by have := ha.1; omega) ha.2 (by omega)
theorem kSkipR {a : List Sp.S} {ta : Tag} {m : Nat} {n : Int} (ha : Lim a m) (hn : -1000 ≤ n ∧ n ≤ 1000) (h : m ≤ 1000 := by decide) : GPure Try.prog 37 [.slice (spl a) ta, .int .i64 n] (.slice (spl (Sp.skipS (Sp.nf a) n)) .none) := sSkipR a ta n (by have := ha.1; omega) ha.2 (by omega)
theorem kLastR {a : List Sp.S} {ta : Tag} {m : Nat} {n : Int} (ha : Lim a m) (hn : -1000 ≤ n ∧ n ≤ 1000) (h : m ≤ 1000 := by decide) : GPure Try.prog 36 [.slice (spl a) ta, .int .i64 n] (.slice (spl (Sp.lowF (Sp.nf a) n)) .none) := sLastR a ta n (by have := ha.1; omega) ha.2 (by omega)
theorem kIDsR {a : List Sp.S} {ta : Tag} {m : Nat} {n : Int} (ha : Lim a m) (hn : -1000 ≤ n ∧ n ≤ 1000) (h : m ≤ 1000 := by decide) : GPure Try.prog 38 [.slice (spl a) ta, .int .i64 n] (.slice (ints (Sp.els (Sp.firstS (Sp.nf a) n))) .none) := sIDsR a ta n (by have := ha.1; omega) ha.2 (by omega)
theorem kHas {a : List Sp.S} {ta : Tag} {m : Nat} {n : Int} (ha : Lim a m) (h : m ≤ 1000 := by decide) : GPure Try.prog 26 [.slice (spl a) ta, .int .i64 n] (.bool (Sp.hasB a n)) := sHas a ta n (by have := ha.1; omega) ha.2
theorem kHasR {a : List Sp.S} {ta : Tag} {m : Nat} {n : Int} (ha : Lim a m) (h : m ≤ 1000 := by decide) : GPure Try.prog 34 [.slice (spl a) ta, .int .i64 n] (.bool (Sp.hasB a n)) := sHasR a ta n (by have := ha.1; omega) ha.2
theorem kLow {a : List Sp.S} {ta : Tag} {m : Nat} (ha : Lim a m) (h : m ≤ 1000 := by decide) : GPure Try.prog 32 [.slice (spl a) ta] (lowV (Sp.nf a)) := sLow a ta (by have := ha.1; omega) ha.2
theorem kHigh {a : List Sp.S} {ta : Tag} {m : Nat} (ha : Lim a m) (h : m ≤ 1000 := by decide) : GPure Try.prog 33 [.slice (spl a) ta] (highV (Sp.nf a)) := sHigh a ta (by have := ha.1; omega) ha.2
theorem kSameI {a b : List Int} {ta tb : Tag} (e : a = b) (h : a.length ≤ 100000) : GPure Try.prog 30 [.slice (ints a) ta, .slice (ints b) tb] (.bool true) := by
  have c := sSameInts a b ta tb (by omega)
  rwa [decide_eq_true e] at c
theorem Lim.first {a : List Sp.S} {m : Nat} (ha : Lim a m) (n : Int) : Lim (Sp.firstS (Sp.nf a) n) m := ⟨by have := Sp.first_len (Sp.nf a) n; have := Sp.nf_len a; have := ha.1; omega, Sp.first_ok (Sp.nf_rt a) (Sp.nf_ok ha.2) n⟩
theorem Lim.skip {a : List Sp.S} {m : Nat} (ha : Lim a m) (n : Int) : Lim (Sp.skipS (Sp.nf a) n) m := ⟨by have := Sp.skip_len (Sp.nf a) n; have := Sp.nf_len a; have := ha.1; omega, Sp.skip_ok (Sp.nf_rt a) (Sp.nf_ok ha.2) n⟩
theorem Lim.low {a : List Sp.S} {m : Nat} (ha : Lim a m) (n : Int) : Lim (Sp.lowF (Sp.nf a) n) m := ⟨by have := Sp.lowF_len (Sp.nf a) n; have := Sp.nf_len a; have := ha.1; omega, Sp.low_ok (Sp.nf_rt a) (Sp.nf_ok ha.2) n⟩
theorem els_le {N : List Sp.S} (h : Sp.Rt 0 N) (n : Int) (hn : n ≤ 1000) : (Sp.els (Sp.firstS N n)).length ≤ 1000 := by rw [Sp.els_first h]; simp; omega
end Gv.Try
