/- Sets of numbers: the greatest, the least, one by one. -/
import Derived.Test.YthidcccnjplafaaP12
import Derived.Test.YthidcccnjplafaaP9
import Derived.Test.YthidcccnjplafaaSlimFf
set_option linter.unusedVariables false
namespace Gv.Sp
open Gv
abbrev sz (s : S) : Int := s.2 - s.1 + 1
/-- of a list of spans, the greatest first: the first n numbers; the rest -/
def topF : List S → Int → List S
  | [], _ => []
  | s :: r, n => if n ≤ 0 then [] else (s.2 - (min n (sz s) - 1), s.2) :: topF r (n - min n (sz s))
def topO : List S → Int → List S
  | [], _ => []
  | s :: r, n => if n ≤ 0 then s :: r else if sz s ≤ n then topO r (n - sz s) else (s.1, s.2 - n) :: r
theorem topF_cons (s : S) (r : List S) (n : Int) : topF (s :: r) n = if n ≤ 0 then [] else (s.2 - (min n (sz s) - 1), s.2) :: topF r (n - min n (sz s)) := rfl
theorem topO_cons (s : S) (r : List S) (n : Int) : topO (s :: r) n = if n ≤ 0 then s :: r else if sz s ≤ n then topO r (n - sz s) else (s.1, s.2 - n) :: r := rfl
theorem topF_len : ∀ (r : List S) (n : Int), (topF r n).length ≤ r.length
  | [], n => by simp [topF]
  | s :: r, n => by
    rw [topF_cons]; split
    · simp
    · have := topF_len r (n - min n (sz s)); simp; omega
def lowF : List S → Int → List S
  | [], _ => []
  | s :: r, n => if n ≤ 0 then [] else (s.1, s.1 + (min n (sz s) - 1)) :: lowF r (n - min n (sz s))
theorem lowF_cons (s : S) (r : List S) (n : Int) : lowF (s :: r) n = if n ≤ 0 then [] else (s.1, s.1 + (min n (sz s) - 1)) :: lowF r (n - min n (sz s)) := rfl
theorem lowF_len : ∀ (r : List S) (n : Int), (lowF r n).length ≤ r.length
  | [], n => by simp [lowF]
  | s :: r, n => by
    rw [lowF_cons]; split
    · simp
    · have := lowF_len r (n - min n (sz s)); simp; omega
def firstS (N : List S) (n : Int) : List S := (topF N.reverse n).reverse
def skipS (N : List S) (n : Int) : List S := (topO N.reverse n).reverse
/-- falling numbers from one on -/
def down (h : Int) (k : Nat) : List Int := (List.range k).map fun (i : Nat) => h - i
theorem down_len (h : Int) (k : Nat) : (down h k).length = k := by simp [down]
theorem down_zero (h : Int) : down h 0 = [] := rfl
theorem down_snoc (h : Int) (k : Nat) : down h (k + 1) = down h k ++ [h - k] := by simp [down, List.range_succ]
theorem down_add (h : Int) (j : Nat) : ∀ k, down h (j + k) = down h j ++ down (h - j) k
  | 0 => by simp [down_zero]
  | k + 1 => by rw [← Nat.add_assoc, down_snoc, down_add h j k, down_snoc, List.append_assoc]; congr 3; simp; omega
theorem down_mem (n h : Int) (k : Nat) : n ∈ down h k ↔ h - k < n ∧ n ≤ h := by
  simp only [down, List.mem_map, List.mem_range]
  constructor
  · rintro ⟨i, hi, rfl⟩; omega
  · rintro ⟨h1, h2⟩; exact ⟨(h - n).toNat, by omega, by omega⟩
/-- all numbers, of spans the greatest first -/
def elsR (r : List S) : List Int := r.flatMap fun s => down s.2 (sz s).toNat
def els (N : List S) : List Int := elsR N.reverse
theorem elsR_cons (s : S) (r : List S) : elsR (s :: r) = down s.2 (sz s).toNat ++ elsR r := rfl
theorem els_cons (s : S) (r : List S) : els (s :: r) = els r ++ down s.2 (sz s).toNat := by simp [els, elsR]
theorem elsR_top : ∀ (r : List S) (n : Int), (∀ s ∈ r, s.1 ≤ s.2) → elsR (topF r n) = (elsR r).take n.toNat
  | [], n, _ => by simp [topF, elsR]
  | s :: r, n, h => by
    have hs := h s (by simp)
    rw [topF_cons]
    split
    · have : n.toNat = 0 := by omega
      rw [this]; rfl
    · rw [elsR_cons, elsR_cons, elsR_top r _ (fun x hx => h x (by simp [hx])), List.take_append, down_len]
      have hz : sz s = s.2 - s.1 + 1 := rfl
      have hz' : sz (s.2 - (min n (sz s) - 1), s.2) = s.2 - (s.2 - (min n (sz s) - 1)) + 1 := rfl
      have e1 : (sz (s.2 - (min n (sz s) - 1), s.2)).toNat = min n.toNat (sz s).toNat := by omega
      rw [e1]
      have e2 : (n - min n (sz s)).toNat = n.toNat - (sz s).toNat := by omega
      rw [e2]
      congr 1
      show down s.2 _ = _
      by_cases c : n.toNat ≤ (sz s).toNat
      · obtain ⟨j, hj⟩ := Nat.exists_eq_add_of_le c
        rw [hj, Nat.min_eq_left (by omega), down_add, List.take_append_of_le_length (by rw [down_len]; omega), List.take_of_length_le (by rw [down_len]; omega)]
      · rw [Nat.min_eq_right (by omega), List.take_of_length_le (by rw [down_len]; omega)]
theorem elsR_rest : ∀ (r : List S) (n : Int), (∀ s ∈ r, s.1 ≤ s.2) → elsR (topO r n) = (elsR r).drop n.toNat
  | [], n, _ => by simp [topO, elsR]
  | s :: r, n, h => by
    have hs := h s (by simp)
    rw [topO_cons]
    split
    · have : n.toNat = 0 := by omega
      rw [this]; rfl
    · split
      · rw [elsR_rest r _ (fun x hx => h x (by simp [hx])), elsR_cons, List.drop_append, down_len, List.drop_of_length_le (l := down s.2 (sz s).toNat) (by rw [down_len]; omega), List.nil_append]
        have hz : sz s = s.2 - s.1 + 1 := rfl
        congr 1; omega
      · rw [elsR_cons, elsR_cons, List.drop_append_of_le_length (by rw [down_len]; omega)]
        congr 1
        have hz : sz s = s.2 - s.1 + 1 := rfl
        have hz' : sz (s.1, s.2 - n) = s.2 - n - s.1 + 1 := rfl
        have e : (sz s).toNat = n.toNat + (sz (s.1, s.2 - n)).toNat := by omega
        rw [e, down_add, List.drop_append_of_le_length (by rw [down_len]; exact Nat.le_refl _), List.drop_of_length_le (by rw [down_len]; exact Nat.le_refl _), List.nil_append]
        congr 1; show s.2 - n = _; omega
theorem Rt.all_le {N : List S} {b : Int} (h : Rt b N) : ∀ s ∈ N, s.1 ≤ s.2 := fun s hs => (h.mem hs).2
theorem els_first {N : List S} (h : Rt 0 N) (n : Int) : els (firstS N n) = (els N).take n.toNat := by
  rw [els, firstS, List.reverse_reverse, elsR_top _ _ (fun s hs => h.all_le s (by simpa using hs))]; rfl
theorem els_skip {N : List S} (h : Rt 0 N) (n : Int) : els (skipS N n) = (els N).drop n.toNat := by
  rw [els, skipS, List.reverse_reverse, elsR_rest _ _ (fun s hs => h.all_le s (by simpa using hs))]; rfl
theorem els_low : ∀ (N : List S) (n : Int), (∀ s ∈ N, s.1 ≤ s.2) → els (lowF N n) = (els N).drop ((els N).length - n.toNat)
  | [], n, _ => by simp [lowF, els, elsR]
  | s :: r, n, h => by
    have hs := h s (by simp)
    rw [lowF_cons]
    split
    · have : n.toNat = 0 := by omega
      rw [this, Nat.sub_zero, List.drop_length]; rfl
    · rw [els_cons, els_cons, els_low r _ (fun x hx => h x (by simp [hx])), List.length_append, down_len]
      have hz : sz s = s.2 - s.1 + 1 := rfl
      have e2 : (n - min n (sz s)).toNat = n.toNat - (sz s).toNat := by omega
      have hz' : sz (s.1, s.1 + (min n (sz s) - 1)) = s.1 + (min n (sz s) - 1) - s.1 + 1 := rfl
      have e1 : (sz (s.1, s.1 + (min n (sz s) - 1))).toNat = min n.toNat (sz s).toNat := by omega
      rw [e1, e2]
      show _ ++ down (s.1 + (min n (sz s) - 1)) _ = _
      by_cases c : n.toNat ≤ (sz s).toNat
      · obtain ⟨j, hj⟩ := Nat.exists_eq_add_of_le' c
        have e3 : n.toNat - (sz s).toNat = 0 := by omega
        rw [e3, Nat.sub_zero, List.drop_length, List.nil_append, Nat.min_eq_left c, List.drop_append]
        have e4 : (els r).length + (sz s).toNat - n.toNat = (els r).length + j := by omega
        rw [e4, List.drop_of_length_le (by omega), List.nil_append]
        have e5 : (els r).length + j - (els r).length = j := by omega
        rw [e5, hj, down_add, List.drop_append_of_le_length (by rw [down_len]; exact Nat.le_refl _), List.drop_of_length_le (by rw [down_len]; exact Nat.le_refl _), List.nil_append]
        congr 1
        have e6 : min n (sz s) = n := by omega
        rw [e6]
        have : sz s = j + n := by omega
        simp only [sz] at this
        omega
      · have e4 : (els r).length + (sz s).toNat - n.toNat = (els r).length - (n.toNat - (sz s).toNat) := by omega
        rw [e4, List.drop_append_of_le_length (by omega), Nat.min_eq_right (by omega)]
        congr 2
        have e6 : min n (sz s) = sz s := by omega
        rw [e6]; simp only [sz]; omega
theorem els_mem : ∀ {N : List S} {b : Int}, Rt b N → 0 ≤ b → ∀ n, n ∈ els N ↔ has N n
  | [], b, _, _, n => by simp [els, elsR, has_nil]
  | s :: r, b, ⟨h1, h2, h3⟩, hb, n => by
    rw [els_cons, List.mem_append, els_mem h3 (by omega), has_cons, down_mem, or_comm]
    refine or_congr ?_ Iff.rfl
    simp only [sz]; omega
theorem topF_rt : ∀ (r : List S) (n : Int), Rt 0 r.reverse → Rt 0 (topF r n).reverse ∧ ∀ s ∈ topF r n, ∀ b, (∀ x ∈ r, x.2 < b) → s.2 < b
  | [], n, _ => by simp [topF, Rt]
  | s :: r, n, h => by
    rw [List.reverse_cons] at h
    obtain ⟨h1, h2, h3, h4⟩ := (Rt_snoc s _ 0).1 h
    rw [topF_cons]
    split
    · exact ⟨trivial, by simp⟩
    · obtain ⟨i1, i2⟩ := topF_rt r (n - min n (sz s)) h1
      have hk : 1 ≤ min n (sz s) ∧ min n (sz s) ≤ sz s := by simp only [sz]; omega
      simp only [sz] at hk
      constructor
      · rw [List.reverse_cons]
        refine (Rt_snoc _ _ 0).2 ⟨i1, by show 0 ≤ s.2 - (min n (s.2 - s.1 + 1) - 1); omega, by show s.2 - (min n (s.2 - s.1 + 1) - 1) ≤ s.2; omega, fun y hy => ?_⟩
        have := i2 y (by simpa using hy) (s.1 - 1) (fun x hx => by have := h4 x (by simpa using hx); omega)
        show y.2 + 2 ≤ s.2 - (min n (s.2 - s.1 + 1) - 1)
        omega
      · intro x hx b hb
        rcases List.mem_cons.1 hx with rfl | hx
        · exact hb s (by simp)
        · exact i2 x hx b fun z hz => hb z (by simp [hz])
theorem topO_rt : ∀ (r : List S) (n : Int), Rt 0 r.reverse → Rt 0 (topO r n).reverse
  | [], n, _ => trivial
  | s :: r, n, h => by
    have h' := h
    rw [List.reverse_cons] at h
    obtain ⟨h1, h2, h3, h4⟩ := (Rt_snoc s _ 0).1 h
    rw [topO_cons]
    split
    · exact h'
    · split
      · exact topO_rt r _ h1
      · rename_i c
        simp only [sz] at c
        rw [List.reverse_cons]
        exact (Rt_snoc _ _ 0).2 ⟨h1, h2, by show s.1 ≤ s.2 - n; omega, h4⟩
theorem first_rt {N : List S} (h : Rt 0 N) (n : Int) : Rt 0 (firstS N n) := (topF_rt N.reverse n (by simpa using h)).1
theorem skip_rt {N : List S} (h : Rt 0 N) (n : Int) : Rt 0 (skipS N n) := topO_rt N.reverse n (by simpa using h)
theorem low_rt : ∀ (N : List S) (n b : Int), Rt b N → Rt b (lowF N n)
  | [], n, b, _ => trivial
  | s :: r, n, b, ⟨h1, h2, h3⟩ => by
    rw [lowF_cons]
    split
    · trivial
    · have hk : 1 ≤ min n (sz s) ∧ min n (sz s) ≤ sz s := by simp only [sz]; omega
      simp only [sz] at hk
      exact ⟨h1, by show s.1 ≤ s.1 + (min n (s.2 - s.1 + 1) - 1); omega, (low_rt r _ _ h3).weak (by show s.1 + (min n (s.2 - s.1 + 1) - 1) + 2 ≤ _; omega)⟩
theorem first_len (N : List S) (n : Int) : (firstS N n).length ≤ N.length := by have := topF_len N.reverse n; simpa [firstS] using this
theorem topO_len : ∀ (r : List S) (n : Int), (topO r n).length ≤ r.length
  | [], n => by simp [topO]
  | s :: r, n => by
    rw [topO_cons]; split
    · exact Nat.le_refl _
    · split
      · have := topO_len r (n - sz s); simp; omega
      · simp
theorem skip_len (N : List S) (n : Int) : (skipS N n).length ≤ N.length := by have := topO_len N.reverse n; simpa [skipS] using this
/-- all three are parts of the set -/
theorem first_has {N : List S} (h : Rt 0 N) (n m : Int) (hm : has (firstS N n) m) : has N m := by
  rw [← els_mem (first_rt h n) (by omega), els_first h] at hm
  exact (els_mem h (by omega) m).1 (List.mem_of_mem_take hm)
theorem skip_has {N : List S} (h : Rt 0 N) (n m : Int) (hm : has (skipS N n) m) : has N m := by
  rw [← els_mem (skip_rt h n) (by omega), els_skip h] at hm
  exact (els_mem h (by omega) m).1 (List.mem_of_mem_drop hm)
theorem low_has {N : List S} (h : Rt 0 N) (n m : Int) (hm : has (lowF N n) m) : has N m := by
  rw [← els_mem (low_rt N n 0 h) (by omega), els_low N n h.all_le] at hm
  exact (els_mem h (by omega) m).1 (List.mem_of_mem_drop hm)
theorem first_ok {N : List S} (h : Rt 0 N) (ho : Ok N) (n : Int) : Ok (firstS N n) := ok_of (first_rt h n) (by omega) fun m hm => ho.has (first_has h n m hm)
theorem skip_ok {N : List S} (h : Rt 0 N) (ho : Ok N) (n : Int) : Ok (skipS N n) := ok_of (skip_rt h n) (by omega) fun m hm => ho.has (skip_has h n m hm)
theorem low_ok {N : List S} (h : Rt 0 N) (ho : Ok N) (n : Int) : Ok (lowF N n) := ok_of (low_rt N n 0 h) (by omega) fun m hm => ho.has (low_has h n m hm)
end Gv.Sp
/- Contracts: Low, High, Of, Last, First, Skip, IDs. -/
set_option linter.unusedVariables false
set_option linter.unusedSimpArgs false
set_option maxRecDepth 20000
set_option maxHeartbeats 4000000
namespace Gv.Try
open Go Gv Go.Proofs
open Gv.Sp (Lim)

theorem WL_self : ∀ l : List GVal, WL l l
  | [] => trivial
  | x :: r => ⟨by rw [leG_self]; trivial, WL_self r⟩
def highV (N : List Sp.S) : GVal := .tuple [.int .i64 (N.getD (N.length - 1) (0, 0)).2, .bool (decide (0 < N.length))]
theorem sHigh (l : List Sp.S) (t : Tag) (hl : l.length ≤ 4398046511104) (ho : Sp.Ok l) : GPure Try.prog 37 [.slice (spl l) t] (highV (Sp.nf l)) := by
  refine h37.pure mixS (by simp) ?_
  simp only [gstart, s37, List.cons_append, List.nil_append, List.length_cons, List.length_nil, Nat.reduceAdd, Nat.reduceSub, List.replicate_succ, List.replicate_zero]
  simp +contextual -implicitDefEqProofs (maxSteps := 2000000) (disch := omega) only [↓lenV, binV, ↓loadV, ↓fieldAddrV, ↓indexAddrV, GVal.cells, grp, GVal.ofConst, ↓resV, resG, List.map, List.headD, List.take, List.drop, ↓reduceIte, Nat.reduceEqDiff, Nat.reduceAdd, Nat.reduceSub, Nat.reduceLeDiff, reduceCtorEq, implies_true, ne_eq, aggV, Tag.cap, List.replicate, allSolid, GVal.solid, Nat.reduceBEq, Nat.reduceMul, Nat.reduceLT, List.length_map, List.length_range, splice, vcA, ↓vcB, vcC, fbFf, e37]
  refine (sMake l t hl ho).then ?_ (by rfl)
  have hN := Sp.nf_len l
  generalize Sp.nf l = N at *
  by_cases h : N.length = 0
  · have e : N = [] := List.length_eq_zero_iff.1 h
    subst e
    simp +contextual -implicitDefEqProofs (maxSteps := 2000000) (disch := omega) only [↓lenV, binV, ↓loadV, ↓fieldAddrV, ↓indexAddrV, GVal.cells, grp, GVal.ofConst, ↓resV, resG, List.map, List.headD, List.take, List.drop, ↓reduceIte, Nat.reduceEqDiff, Nat.reduceAdd, Nat.reduceSub, Nat.reduceLeDiff, reduceCtorEq, implies_true, ne_eq, aggV, Tag.cap, List.replicate, allSolid, GVal.solid, Nat.reduceBEq, Nat.reduceMul, Nat.reduceLT, List.length_map, List.length_range, splice, vcA, ↓vcB, vcC, fbFf, e37, spl_nil, spl_length]
    exact WL_self _
  · have d0 : ((N.length : Int) = 0) = False := eq_false (by omega)
    have d1 : ((N.length : Int) - 1).toNat = N.length - 1 := by omega
    have eS := spl_at N (N.length - 1) (by omega)
    simp +contextual -implicitDefEqProofs (maxSteps := 2000000) (disch := omega) only [↓lenV, binV, ↓loadV, ↓fieldAddrV, ↓indexAddrV, GVal.cells, grp, GVal.ofConst, ↓resV, resG, List.map, List.headD, List.take, List.drop, ↓reduceIte, Nat.reduceEqDiff, Nat.reduceAdd, Nat.reduceSub, Nat.reduceLeDiff, reduceCtorEq, implies_true, ne_eq, aggV, Tag.cap, List.replicate, allSolid, GVal.solid, Nat.reduceBEq, Nat.reduceMul, Nat.reduceLT, List.length_map, List.length_range, splice, vcA, ↓vcB, vcC, fbFf, e37, spl_length, spG, d0, d1, eS]
    have e : decide (0 < N.length) = true := decide_eq_true (by omega)
    exact ⟨by omega, by omega, by rw [highV, e]; exact WL_self _⟩

theorem sOf (l : List Int) (t : Tag) (hl : l.length ≤ 1000) (hi : ∀ i, -9223372036854775808 ≤ l.getD i 0 ∧ l.getD i 0 ≤ 9223372036854775807) : GPure Try.prog 41 [.slice (ints l) t] (.slice (spl (Sp.nf (l.map fun i => (i, i)))) .none) := by
  have ho : Sp.Ok (l.map fun i => ((i, i) : Sp.S)) := fun s hs => by
    obtain ⟨i, h, rfl⟩ := List.mem_map.1 hs
    obtain ⟨j, hj, rfl⟩ := List.getElem_of_mem h
    have := hi j
    rw [List.getD_eq_getElem?_getD, List.getElem?_eq_getElem hj] at this
    exact ⟨this, this⟩
  refine h41.pure mixS (by simp) ?_
  simp only [gstart, s41, List.cons_append, List.nil_append, List.length_cons, List.length_nil, Nat.reduceAdd, Nat.reduceSub, List.replicate_succ, List.replicate_zero]
  simp +contextual -implicitDefEqProofs (maxSteps := 2000000) (disch := omega) only [↓lenV, binV, optV, ↓loadV, ↓indexAddrV, ↓buildV, ↓buildSliceV, ↓sliceV, ↓appendV, ↓srcV, bound, cutTag, hiTag, fillG, fillE, place, GVal.cells, grp, GVal.ofConst, ↓resV, resG, List.map, List.headD, List.take, List.drop, ↓reduceIte, Nat.reduceEqDiff, Nat.reduceAdd, Nat.reduceSub, Nat.reduceLeDiff, reduceCtorEq, implies_true, ne_eq, ↓asrcV, Tag.cap, List.replicate, allSolid, GVal.solid, Nat.reduceBEq, Nat.reduceMul, Nat.reduceLT, List.length_map, List.length_range, splice, vcA, ↓vcB, vcC, fbFf, e41]
  refine vcSLoop_by (ι := { p : Nat × Nat // p.1 ≤ l.length }) (fun p => ⟨[.any, .any, .any, .slice (spl ((l.take p.1.1).map fun i => (i, i))) (.tok 0 p.1.2), .any, .any, .slice (ints l) t, .int .i64 l.length, .int .i64 (p.1.1 : Nat)] ++ List.replicate 12 .any, [.tok p.1.2 2]⟩) (fun p => l.length - p.1.1) ?_ ?_
  · refine Into.tok 3 2 [] rfl rfl ?_
    simp +contextual -implicitDefEqProofs (maxSteps := 2000000) (disch := omega) only [↓lenV, binV, optV, ↓loadV, ↓indexAddrV, ↓buildV, ↓buildSliceV, ↓sliceV, ↓appendV, ↓srcV, bound, cutTag, hiTag, fillG, fillE, place, GVal.cells, grp, GVal.ofConst, ↓resV, resG, List.map, List.headD, List.take, List.drop, ↓reduceIte, Nat.reduceEqDiff, Nat.reduceAdd, Nat.reduceSub, Nat.reduceLeDiff, reduceCtorEq, implies_true, ne_eq, ↓asrcV, Tag.cap, List.replicate, allSolid, GVal.solid, Nat.reduceBEq, Nat.reduceMul, Nat.reduceLT, List.length_map, List.length_range, splice, vcA, ↓vcB, vcC, fbFf, e41]
    intro t0
    exact Into.first ⟨(0, t0), by omega⟩ ⟨[], by simp⟩ (by simp [WL, leG_self, leG_any, spl_nil])
  · rintro ⟨⟨k, v⟩, hk⟩
    simp only [] at hk
    by_cases h : k < l.length
    · have d0 : ((k : Int) < (l.length : Int)) = True := eq_true (by omega)
      have eN : (l.take (k + 1)).map (fun i => ((i, i) : Sp.S)) = (l.take k).map (fun i => (i, i)) ++ [(l.getD k 0, l.getD k 0)] := by rw [List.take_add_one, List.map_append]; simp [List.getD, h]
      have hz : ((l.take k).map (fun i => ((i, i) : Sp.S))).length ≤ 1000 := by simp; omega
      generalize (l.take k).map (fun i => ((i, i) : Sp.S)) = Z at *
      simp +contextual -implicitDefEqProofs (maxSteps := 2000000) (disch := omega) only [↓lenV, binV, optV, ↓loadV, ↓indexAddrV, ↓buildV, ↓buildSliceV, ↓sliceV, ↓appendV, ↓srcV, bound, cutTag, hiTag, fillG, fillE, place, GVal.cells, grp, GVal.ofConst, ↓resV, resG, List.map, List.headD, List.take, List.drop, ↓reduceIte, Nat.reduceEqDiff, Nat.reduceAdd, Nat.reduceSub, Nat.reduceLeDiff, reduceCtorEq, implies_true, ne_eq, ↓asrcV, Tag.cap, List.replicate, allSolid, GVal.solid, Nat.reduceBEq, Nat.reduceMul, Nat.reduceLT, List.length_map, List.length_range, splice, vcA, ↓vcB, vcC, fbFf, e41, d0, spl_length, all_spl]
      refine ⟨by omega, by omega, by omega, fun st => ?_⟩
      refine Into.at ⟨(k + 1, st), by show k + 1 ≤ _; omega⟩ (by show _ < _; simp; omega) ⟨[], by simp⟩ ?_
      simp [WL, leG_self, leG_any, leG_int, leG_tok, eN, spl_append, spl_cons, spl_nil, spG]
    · have d0 : ((k : Int) < (l.length : Int)) = False := eq_false (by omega)
      rw [List.take_of_length_le (l := l) (i := k) (by omega)]
      simp +contextual -implicitDefEqProofs (maxSteps := 2000000) (disch := omega) only [↓lenV, binV, optV, ↓loadV, ↓indexAddrV, ↓buildV, ↓buildSliceV, ↓sliceV, ↓appendV, ↓srcV, bound, cutTag, hiTag, fillG, fillE, place, GVal.cells, grp, GVal.ofConst, ↓resV, resG, List.map, List.headD, List.take, List.drop, ↓reduceIte, Nat.reduceEqDiff, Nat.reduceAdd, Nat.reduceSub, Nat.reduceLeDiff, reduceCtorEq, implies_true, ne_eq, ↓asrcV, Tag.cap, List.replicate, allSolid, GVal.solid, Nat.reduceBEq, Nat.reduceMul, Nat.reduceLT, List.length_map, List.length_range, splice, vcA, ↓vcB, vcC, fbFf, e41, d0, false_imp_iff, true_and]
      refine (sMake _ _ (by simp; omega) ho).then ?_ (by rfl)
      simp +contextual -implicitDefEqProofs (maxSteps := 2000000) (disch := omega) only [↓lenV, binV, optV, ↓loadV, ↓indexAddrV, ↓buildV, ↓buildSliceV, ↓sliceV, ↓appendV, ↓srcV, bound, cutTag, hiTag, fillG, fillE, place, GVal.cells, grp, GVal.ofConst, ↓resV, resG, List.map, List.headD, List.take, List.drop, ↓reduceIte, Nat.reduceEqDiff, Nat.reduceAdd, Nat.reduceSub, Nat.reduceLeDiff, reduceCtorEq, implies_true, ne_eq, ↓asrcV, Tag.cap, List.replicate, allSolid, GVal.solid, Nat.reduceBEq, Nat.reduceMul, Nat.reduceLT, List.length_map, List.length_range, splice, vcA, ↓vcB, vcC, fbFf, e41]

end Gv.Try
/- Contracts: IDs; the document's First, Last, Skip, IDs, Of. -/
set_option linter.unusedVariables false
set_option linter.unusedSimpArgs false
set_option maxRecDepth 20000
set_option maxHeartbeats 4000000
namespace Gv.Try
open Go Gv Go.Proofs
open Gv.Sp (Lim)
end Gv.Try
/- The laws of chapter 10: three sets. -/
set_option linter.unusedVariables false
set_option linter.unusedSimpArgs false
set_option maxRecDepth 20000
set_option maxHeartbeats 4000000
namespace Gv.Try
open Go Gv Go.Proofs
open Gv.Sp (Lim)
end Gv.Try
/- Contracts: the document's IDs, Of, Skip; all of them for few spans. -/
set_option linter.unusedVariables false
set_option linter.unusedSimpArgs false
set_option maxRecDepth 20000
set_option maxHeartbeats 4000000
namespace Gv.Try
open Go Gv Go.Proofs
open Gv.Sp (Lim)

theorem Lim.first {a : List Sp.S} {m : Nat} (ha : Lim a m) (n : Int) : Lim (Sp.firstS (Sp.nf a) n) m := ⟨by have := Sp.first_len (Sp.nf a) n; have := Sp.nf_len a; have := ha.1; omega, Sp.first_ok (Sp.nf_rt a) (Sp.nf_ok ha.2) n⟩
theorem Lim.skip {a : List Sp.S} {m : Nat} (ha : Lim a m) (n : Int) : Lim (Sp.skipS (Sp.nf a) n) m := ⟨by have := Sp.skip_len (Sp.nf a) n; have := Sp.nf_len a; have := ha.1; omega, Sp.skip_ok (Sp.nf_rt a) (Sp.nf_ok ha.2) n⟩
theorem Lim.low {a : List Sp.S} {m : Nat} (ha : Lim a m) (n : Int) : Lim (Sp.lowF (Sp.nf a) n) m := ⟨by have := Sp.lowF_len (Sp.nf a) n; have := Sp.nf_len a; have := ha.1; omega, Sp.low_ok (Sp.nf_rt a) (Sp.nf_ok ha.2) n⟩
end Gv.Try
/- The plain law of growing. -/
set_option linter.unusedVariables false
set_option maxRecDepth 20000
set_option linter.unusedSimpArgs false
namespace Gv.Try
open Go Gv Go.Proofs

theorem hdel_mem (q : List Int) : ∀ (l : List Int) (x : Int), x ∈ hdel l q → x ∈ l := by
  induction q with
  | nil => intro l x h; exact h
  | cons p r ih => intro l x h; exact List.mem_of_mem_erase (ih _ _ h)
/-- the heads that are kept -/
theorem lrun_heads (frm : Int) (l : List (List Int)) : ∀ k, (∀ x ∈ (lrun frm l k).hs, x < frm + k) ∧ (k ≠ 0 → frm + k - 1 ∈ (lrun frm l k).hs) ∧
    (k ≠ 0 → ((lrun frm l k).out.getD ((lrun frm l k).out.length - 1) default).head = decide ((lrun frm l k).hs.length = 1))
  | 0 => by simp [lrun]
  | k + 1 => by
    obtain ⟨i1, i2, i3⟩ := lrun_heads frm l k
    have hne := (lrun_len frm l k).2
    rw [lrun]
    generalize lrun frm l k = s at *
    generalize l.getD k [] = q
    have hh : (lstep frm s k q).hs = hins (hdel s.hs q) (frm + k) := by unfold lstep; simp only; split <;> rfl
    have hm : frm + (k : Int) ∈ hins (hdel s.hs q) (frm + k) := by unfold hins; split <;> simp_all
    refine ⟨fun x hx => ?_, fun _ => ?_, fun _ => ?_⟩
    · rw [hh] at hx
      unfold hins at hx
      split at hx
      · have := i1 x (hdel_mem _ _ _ hx); omega
      · rcases List.mem_append.1 hx with hx | hx
        · have := i1 x (hdel_mem _ _ _ hx); omega
        · simp at hx; omega
    · rw [hh]; have e : frm + ((k + 1 : Nat) : Int) - 1 = frm + k := by omega
      rw [e]; exact hm
    · rw [hh]
      unfold lstep
      simp only
      split
      · rename_i h
        have h1 : 0 < s.out.length := List.length_pos_iff.2 (hne (by omega))
        rw [List.length_set, getD_set_same _ _ _ _ (by omega)]
      · simp [List.getD]

end Gv.Try

/- The law FlatGrows gives true. -/
set_option linter.unusedVariables false
set_option linter.unusedSimpArgs false
set_option maxRecDepth 20000
namespace Gv.Try
open Go Gv Go.Proofs

set_option maxHeartbeats 4000000 in
theorem spec18 (a b : Seg) (ha : a.par.length ≤ 17592186044416) : GPure Try.prog 49 [.agg (segG a), .agg (segG b)] (.bool (decide (a = b))) := by
  obtain ⟨lo, hi, par, root, head⟩ := a
  obtain ⟨lo', hi', par', root', head'⟩ := b
  have c17 := spec17 par par' .none .none ha
  simp only [segG]
  refine h49.pure mixS (by simp) ?_
  simp only [gstart, s49, List.cons_append, List.nil_append, List.length_cons, List.length_nil, Nat.reduceAdd, Nat.reduceSub, List.replicate_succ, List.replicate_zero]
  simp +contextual -implicitDefEqProofs (maxSteps := 2000000) (disch := omega) only [binV, ↓loadV, ↓fieldAddrV, ↓boxV, GVal.cells, grp, GVal.ofConst, ↓resV, resG, List.map, List.headD, List.take, List.drop, ↓reduceIte, Nat.reduceEqDiff, Nat.reduceAdd, Nat.reduceSub, Nat.reduceLeDiff, reduceCtorEq, implies_true, ne_eq, aggV, Tag.cap, List.replicate, allSolid, GVal.solid, Nat.reduceBEq, Nat.reduceMul, Nat.reduceLT, List.length_map, List.length_range, splice, vcA, ↓vcB, vcC, fbFf, e49]
  simp only [Seg.mk.injEq]
  cases root <;> cases root' <;> cases head <;> cases head' <;> simp only [gif, decide_true, and_true, and_false, false_and, true_and, decide_false, reduceCtorEq, Bool.false_eq_true] <;> refine ⟨fun h1 => ⟨fun h2 => ?_, fun h2 => ?_⟩, fun h1 => ?_⟩
  all_goals first
    | rfl
    | (refine c17.then ?_
       simp +contextual -implicitDefEqProofs (maxSteps := 2000000) (disch := omega) only [binV, ↓loadV, ↓fieldAddrV, ↓boxV, GVal.cells, grp, GVal.ofConst, ↓resV, resG, List.map, List.headD, List.take, List.drop, ↓reduceIte, Nat.reduceEqDiff, Nat.reduceAdd, Nat.reduceSub, Nat.reduceLeDiff, reduceCtorEq, implies_true, ne_eq, aggV, Tag.cap, List.replicate, allSolid, GVal.solid, Nat.reduceBEq, Nat.reduceMul, Nat.reduceLT, List.length_map, List.length_range, splice, vcA, ↓vcB, vcC, fbFf, e49]
       rw [Bool.eq_iff_iff]; simp [h1, h2])
    | (simp [h1, h2]; done)
    | (simp [h1]; done)

end Gv.Try

