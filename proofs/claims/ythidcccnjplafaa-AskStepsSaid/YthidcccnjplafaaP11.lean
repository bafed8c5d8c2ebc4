/- Contract: spans.Make. -/
import Derived.Test.YthidcccnjplafaaP10
import Derived.Test.YthidcccnjplafaaP9
import Derived.Test.YthidcccnjplafaaSlimFf
set_option linter.unusedVariables false
set_option linter.unusedSimpArgs false
set_option maxRecDepth 20000
set_option maxHeartbeats 4000000
namespace Gv.Try
open Go Gv Go.Proofs

def clampL : List Sp.S → List Sp.S
  | [] => []
  | s :: r => (if max s.1 0 ≤ s.2 then [(max s.1 0, s.2)] else []) ++ clampL r
theorem clampL_app : ∀ (a b : List Sp.S), clampL (a ++ b) = clampL a ++ clampL b
  | [], b => rfl
  | s :: r, b => by simp [clampL, clampL_app r b]
theorem clampL_step (l : List Sp.S) (k : Nat) (h : k < l.length) : clampL (l.take (k + 1)) = clampL (l.take k) ++ (if max (l.getD k (0, 0)).1 0 ≤ (l.getD k (0, 0)).2 then [(max (l.getD k (0, 0)).1 0, (l.getD k (0, 0)).2)] else []) := by
  rw [take_getD h, clampL_app]; simp [clampL]
theorem clampL_len (l : List Sp.S) : (clampL l).length ≤ l.length := by
  induction l with
  | nil => simp [clampL]
  | cons s r ih => unfold clampL; split <;> simp <;> omega
theorem clampL_take (l : List Sp.S) (k : Nat) : (clampL (l.take k)).length ≤ l.length := by
  have := clampL_len (l.take k); simp at this; omega
theorem clampL_has (n : Int) (l : List Sp.S) : Sp.has (clampL l) n ↔ Sp.has l n := by
  induction l with
  | nil => rfl
  | cons s r ih =>
    unfold clampL
    rw [Sp.has_app, ih, Sp.has_cons]
    refine or_congr ?_ Iff.rfl
    split
    · simp only [Sp.has_cons, Sp.has_nil, or_false]; omega
    · rw [Sp.has_nil]; exact ⟨False.elim, fun h => by omega⟩
theorem clampL_mem (l : List Sp.S) : ∀ s ∈ clampL l, 0 ≤ s.1 ∧ s.1 ≤ s.2 := by
  induction l with
  | nil => simp [clampL]
  | cons x r ih =>
    intro s hs
    unfold clampL at hs
    rcases List.mem_append.1 hs with h | h
    · split at h
      · simp at h; subst h; rename_i h'; exact ⟨by show 0 ≤ max _ _; omega, h'⟩
      · simp at h
    · exact ih s h
theorem clampL_ok {l : List Sp.S} (h : Sp.Ok l) : Sp.Ok (clampL l) := by
  induction l with
  | nil => exact h
  | cons x r ih =>
    intro s hs
    unfold clampL at hs
    rcases List.mem_append.1 hs with h' | h'
    · split at h'
      · simp at h'; subst h'
        have := h x (by simp)
        exact ⟨⟨by show _ ≤ max _ _; omega, by show max _ _ ≤ _; omega⟩, this.2⟩
      · simp at h'
    · exact ih (fun z hz => h z (by simp [hz])) s h'
/-- the state of the merge -/
def MOk (zs out : List Sp.S) : Prop := Sp.Rt 0 out ∧ (∀ n, Sp.has out n ↔ Sp.has zs n) ∧ (∀ x ∈ out, ∃ z ∈ zs, x.1 = z.1) ∧ out.length ≤ zs.length ∧ Sp.Ok out
theorem MOk.more {zs out : List Sp.S} (h : MOk zs out) (s : Sp.S) (hs : 0 ≤ s.1 ∧ s.1 ≤ s.2 ∧ s.2 ≤ 9223372036854775807) (hge : ∀ z ∈ zs, z.1 ≤ s.1) (hq : ∀ x, out.getLast? = some x → x.2 + 1 < s.1) : MOk (zs ++ [s]) (out ++ [s]) := by
  obtain ⟨h1, h2, h3, h4, h5⟩ := h
  refine ⟨(Sp.Rt_snoc s out 0).2 ⟨h1, hs.1, hs.2.1, fun y hy => ?_⟩, fun n => by rw [Sp.has_app, Sp.has_app, h2], fun x hx => ?_, by simp; omega, h5.app (fun x hx => by simp at hx; subst hx; omega)⟩
  · rcases List.eq_nil_or_concat out with e | ⟨A, x, e⟩
    · subst e; simp at hy
    · rw [List.concat_eq_append] at e; subst e
      have := hq x (by simp)
      rcases List.mem_append.1 hy with h | h
      · have q := ((Sp.Rt_snoc x A 0).1 h1).2.2.2 y h
        have := ((Sp.Rt_snoc x A 0).1 h1).2.2.1
        omega
      · simp at h; subst h; omega
  · rcases List.mem_append.1 hx with h | h
    · obtain ⟨z, hz, e⟩ := h3 x h; exact ⟨z, by simp [hz], e⟩
    · exact ⟨s, by simp, by simp at h; rw [h]⟩
theorem MOk.grow {zs A : List Sp.S} {x : Sp.S} (h : MOk zs (A ++ [x])) (s : Sp.S) (hs : 0 ≤ s.1 ∧ s.1 ≤ s.2 ∧ s.2 ≤ 9223372036854775807) (hge : ∀ z ∈ zs, z.1 ≤ s.1) (hq : s.1 ≤ x.2 + 1) : MOk (zs ++ [s]) (A ++ [(x.1, max x.2 s.2)]) := by
  obtain ⟨h1, h2, h3, h4, h5⟩ := h
  obtain ⟨r1, r2, r3, r4⟩ := (Sp.Rt_snoc x A 0).1 h1
  obtain ⟨z, hz, ez⟩ := h3 x (by simp)
  have hz' := hge z hz
  refine ⟨(Sp.Rt_snoc _ A 0).2 ⟨r1, r2, by show x.1 ≤ max _ _; omega, r4⟩, fun n => ?_, fun y hy => ?_, by simp at *; omega, fun y hy => ?_⟩
  · have := h2 n
    rw [Sp.has_app, Sp.has_cons, Sp.has_nil] at this
    rw [Sp.has_app, Sp.has_app, Sp.has_cons, Sp.has_cons, Sp.has_nil, ← this]
    simp only [or_false, or_assoc]
    refine or_congr Iff.rfl ?_
    omega
  · rcases List.mem_append.1 hy with h | h
    · obtain ⟨z, hz, e⟩ := h3 y (by simp [h]); exact ⟨z, by simp [hz], e⟩
    · simp at h; subst h; exact ⟨z, by simp [hz], ez⟩
  · rcases List.mem_append.1 hy with h | h
    · exact h5 y (by simp [h])
    · simp at h; subst h
      have := h5 x (by simp)
      exact ⟨this.1, by show _ ≤ max _ _; omega, by show max _ _ ≤ _; omega⟩

theorem cMake (l : List Sp.S) (t : Tag) (hl : l.length ≤ 4398046511104) (ho : Sp.Ok l) :
    GCalls Try.prog 58 [.slice (spl l) t] [] (fun g O' => ∃ st0 st1 ys, g = .own 1 st1 0 (Sp.nf l).length ∧ O' = [.row st0 2 (spl ys), .row st1 2 (spl (Sp.nf l))]) := by
  refine h58.calls mixS (by simp) ?_
  simp only [gstart, s58, List.cons_append, List.nil_append, List.length_cons, List.length_nil, Nat.reduceAdd, Nat.reduceSub, List.replicate_succ, List.replicate_zero]
  simp +contextual -implicitDefEqProofs (maxSteps := 2000000) (disch := omega) only [drawC, ↓lenV, binV, ↓unV, optV, ↓loadV, ↓storeV, ↓fieldAddrV, ↓indexAddrV, ↓allocV, ↓buildSliceV, ↓sliceV, ↓appendV, ↓srcV, ↓minV, bound, cutTag, hiTag, fillE, GVal.cells, grp, GVal.ofConst, ↓resV, resG, List.map, List.headD, List.take, List.drop, ↓reduceIte, Nat.reduceEqDiff, Nat.reduceAdd, Nat.reduceSub, Nat.reduceLeDiff, reduceCtorEq, implies_true, ne_eq, ↓asrcV, Tag.cap, List.replicate, allSolid, GVal.solid, Nat.reduceBEq, Nat.reduceMul, Nat.reduceLT, List.length_map, List.length_range, splice, vcA, ↓vcB, vcC, fbFf, e58, spl_length]
  refine vcSLoop_by (ι := { p : Nat × Nat // p.1 ≤ l.length }) (fun p => ⟨[.slice (spl l) t, .any, .any, .own 0 p.1.2 0 (clampL (l.take p.1.1)).length, .slice [] .nil, .any, .any, .any, .any, .any, .slice (spl l) t, .int .i64 l.length, .int .i64 (p.1.1 : Nat)] ++ List.replicate 59 .any, [.row p.1.2 2 (spl (clampL (l.take p.1.1)))]⟩) (fun p => l.length - p.1.1) ?_ ?_
  · refine Into.row 3 2 rfl rfl ?_
    simp +contextual -implicitDefEqProofs (maxSteps := 2000000) (disch := omega) only [drawC, ↓lenV, binV, ↓unV, optV, ↓loadV, ↓storeV, ↓fieldAddrV, ↓indexAddrV, ↓allocV, ↓buildSliceV, ↓sliceV, ↓appendV, ↓srcV, ↓minV, bound, cutTag, hiTag, fillE, GVal.cells, grp, GVal.ofConst, ↓resV, resG, List.map, List.headD, List.take, List.drop, ↓reduceIte, Nat.reduceEqDiff, Nat.reduceAdd, Nat.reduceSub, Nat.reduceLeDiff, reduceCtorEq, implies_true, ne_eq, ↓asrcV, Tag.cap, List.replicate, allSolid, GVal.solid, Nat.reduceBEq, Nat.reduceMul, Nat.reduceLT, List.length_map, List.length_range, splice, vcA, ↓vcB, vcC, fbFf, e58]
    intro t0
    exact Into.first ⟨(0, t0), by omega⟩ ⟨[], by simp [clampL, spl]⟩ (by simp [WL, leG_self, leG_any, clampL])
  · rintro ⟨⟨k, v⟩, hk⟩
    change k ≤ l.length at hk
    have hs := ho.at k
    have hcl := clampL_take l k
    have hk' : k = l.length → l.take k = l := fun e => by rw [e, List.take_length]
    by_cases h : k < l.length
    · have d0 : ((k : Int) < (l.length : Int)) = True := eq_true (by omega)
      have eS := spl_at l k h
      have eN := clampL_step l k h
      generalize l.getD k (0, 0) = s at *
      generalize clampL (l.take k) = A at *
      simp +contextual -implicitDefEqProofs (maxSteps := 2000000) (disch := omega) only [drawC, ↓lenV, binV, ↓unV, optV, ↓loadV, ↓storeV, ↓fieldAddrV, ↓indexAddrV, ↓allocV, ↓buildSliceV, ↓sliceV, ↓appendV, ↓srcV, ↓minV, bound, cutTag, hiTag, fillE, GVal.cells, grp, GVal.ofConst, ↓resV, resG, List.map, List.headD, List.take, List.drop, ↓reduceIte, Nat.reduceEqDiff, Nat.reduceAdd, Nat.reduceSub, Nat.reduceLeDiff, reduceCtorEq, implies_true, ne_eq, ↓asrcV, Tag.cap, List.replicate, allSolid, GVal.solid, Nat.reduceBEq, Nat.reduceMul, Nat.reduceLT, List.length_map, List.length_range, splice, vcA, ↓vcB, vcC, fbFf, e58, spl_length, d0, eS, spG, all_spl]
      refine ⟨by omega, fun st => ⟨fun h1 => ⟨by omega, by omega, by omega, fun st_1 => ?_⟩, fun h1 => ?_⟩⟩
      · rw [if_pos h1] at eN
        have eO : List.take A.length (spl A) ++ [[.int .i64 (max s.1 0), .int .i64 s.2]] = spl (clampL (l.take (k + 1))) := by
          rw [List.take_of_length_le (by rw [spl_length]; exact Nat.le_refl _), eN, spl_append, spl_one]; rfl
        have eL : A.length + 1 = (clampL (l.take (k + 1))).length := by rw [eN]; simp
        refine Into.at ⟨(k + 1, st_1), by show k + 1 ≤ _; omega⟩ (by show _ < _; simp; omega) ⟨[.row st 2 [[.int .i64 (max s.1 0), .int .i64 s.2]]], by rw [eO]; rfl⟩ ?_
        simp [WL, leG_self, leG_any, eL]
      · rw [if_neg (by omega), List.append_nil] at eN
        refine Into.at ⟨(k + 1, v), by show k + 1 ≤ _; omega⟩ (by show _ < _; simp; omega) ⟨[.row st 2 [[.int .i64 (max s.1 0), .int .i64 s.2]]], by rw [eN]; rfl⟩ ?_
        simp [WL, leG_self, leG_any, eN]
    · have e : k = l.length := by omega
      rw [hk' e] at *
      clear hk'
      subst e
      have hm := clampL_mem l
      have hh := fun n => clampL_has n l
      have hok := clampL_ok ho
      have hxl := clampL_len l
      generalize clampL l = xs at *
      have d0 : ((l.length : Int) < (l.length : Int)) = False := eq_false (by omega)
      simp +contextual -implicitDefEqProofs (maxSteps := 2000000) (disch := omega) only [drawC, ↓lenV, binV, ↓unV, optV, ↓loadV, ↓storeV, ↓fieldAddrV, ↓indexAddrV, ↓allocV, ↓buildSliceV, ↓sliceV, ↓appendV, ↓srcV, ↓minV, bound, cutTag, hiTag, fillE, GVal.cells, grp, GVal.ofConst, ↓resV, resG, List.map, List.headD, List.take, List.drop, ↓reduceIte, Nat.reduceEqDiff, Nat.reduceAdd, Nat.reduceSub, Nat.reduceLeDiff, reduceCtorEq, implies_true, ne_eq, ↓asrcV, Tag.cap, List.replicate, allSolid, GVal.solid, Nat.reduceBEq, Nat.reduceMul, Nat.reduceLT, List.length_map, List.length_range, splice, vcA, ↓vcB, vcC, fbFf, e58, spl_length, d0]
      refine (sSort xs (by omega) rfl rfl).mono ?_
      rintro _ _ ⟨rfl, ys, hp, hw, rfl⟩
      have hyl : ys.length = xs.length := hp.length_eq
      have hym : ∀ s ∈ ys, (0 ≤ s.1 ∧ s.1 ≤ s.2) ∧ s.2 ≤ 9223372036854775807 := fun s hs => ⟨hm s (hp.mem_iff.1 hs), (hok s (hp.mem_iff.1 hs)).2.2⟩
      have hyh : ∀ n, Sp.has ys n ↔ Sp.has l n := fun n => by rw [Sp.has_perm hp, hh]
      rw [← hyl]
      simp +contextual -implicitDefEqProofs (maxSteps := 2000000) (disch := omega) only [drawC, ↓lenV, binV, ↓unV, optV, ↓loadV, ↓storeV, ↓fieldAddrV, ↓indexAddrV, ↓allocV, ↓buildSliceV, ↓sliceV, ↓appendV, ↓srcV, ↓minV, bound, cutTag, hiTag, fillE, GVal.cells, grp, GVal.ofConst, ↓resV, resG, List.map, List.headD, List.take, List.drop, ↓reduceIte, Nat.reduceEqDiff, Nat.reduceAdd, Nat.reduceSub, Nat.reduceLeDiff, reduceCtorEq, implies_true, ne_eq, ↓asrcV, Tag.cap, List.replicate, allSolid, GVal.solid, Nat.reduceBEq, Nat.reduceMul, Nat.reduceLT, List.length_map, List.length_range, splice, vcA, ↓vcB, vcC, fbFf, e58, spl_length]
      refine vcSLoop_by (ι := { p : Nat × List Sp.S × Nat // p.1 ≤ ys.length ∧ MOk (ys.take p.1) p.2.1 }) (fun p => ⟨[.any, .any, .any, .any, .own 1 p.1.2.2 0 p.1.2.1.length] ++ List.replicate 27 .any ++ [.own 0 v 0 ys.length, .int .i64 ys.length, .int .i64 (p.1.1 : Nat)] ++ List.replicate 37 .any, [.row v 2 (spl ys), .row p.1.2.2 2 (spl p.1.2.1)]⟩) (fun p => ys.length - p.1.1) ?_ ?_
      · refine Into.row 4 2 rfl rfl ?_
        simp +contextual -implicitDefEqProofs (maxSteps := 2000000) (disch := omega) only [drawC, ↓lenV, binV, ↓unV, optV, ↓loadV, ↓storeV, ↓fieldAddrV, ↓indexAddrV, ↓allocV, ↓buildSliceV, ↓sliceV, ↓appendV, ↓srcV, ↓minV, bound, cutTag, hiTag, fillE, GVal.cells, grp, GVal.ofConst, ↓resV, resG, List.map, List.headD, List.take, List.drop, ↓reduceIte, Nat.reduceEqDiff, Nat.reduceAdd, Nat.reduceSub, Nat.reduceLeDiff, reduceCtorEq, implies_true, ne_eq, ↓asrcV, Tag.cap, List.replicate, allSolid, GVal.solid, Nat.reduceBEq, Nat.reduceMul, Nat.reduceLT, List.length_map, List.length_range, splice, vcA, ↓vcB, vcC, fbFf, e58]
        intro t1
        exact Into.first ⟨(0, [], t1), by omega, by simp [MOk, Sp.Rt, Sp.has, Sp.Ok]⟩ ⟨[], by simp [spl]⟩ (by simp [WL, leG_self, leG_any])
      · rintro ⟨⟨k, out, w⟩, hk, hM⟩
        change k ≤ ys.length at hk
        change MOk (ys.take k) out at hM
        by_cases h : k < ys.length
        · have d0 : ((k : Int) < (ys.length : Int)) = True := eq_true (by omega)
          have eS := spl_at ys k h
          have hs : (0 ≤ (ys.getD k (0, 0)).1 ∧ (ys.getD k (0, 0)).1 ≤ (ys.getD k (0, 0)).2) ∧ (ys.getD k (0, 0)).2 ≤ 9223372036854775807 := by
            rw [List.getD_eq_getElem?_getD, List.getElem?_eq_getElem h]; exact hym _ (List.getElem_mem h)
          have hge : ∀ z ∈ ys.take k, z.1 ≤ (ys.getD k (0, 0)).1 := fun z hz => by
            obtain ⟨i, hi, e⟩ := List.getElem_of_mem hz
            rw [List.length_take] at hi
            rw [List.getElem_take] at e
            have := (List.pairwise_iff_getElem.1 hw) i k (by omega) h (by omega)
            rw [List.getD_eq_getElem?_getD, List.getElem?_eq_getElem h, ← e]; exact this
          have eN := take_getD h
          generalize ys.getD k (0, 0) = s at *
          have hol : out.length ≤ ys.length := by have := hM.2.2.2.1; rw [List.length_take] at this; omega
          rcases List.eq_nil_or_concat out with e | ⟨A, x, e⟩
          · subst e
            have d3 : ((0 : Int) < 0) = False := eq_false (by omega)
            simp +contextual -implicitDefEqProofs (maxSteps := 2000000) (disch := omega) only [drawC, ↓lenV, binV, ↓unV, optV, ↓loadV, ↓storeV, ↓fieldAddrV, ↓indexAddrV, ↓allocV, ↓buildSliceV, ↓sliceV, ↓appendV, ↓srcV, ↓minV, bound, cutTag, hiTag, fillE, GVal.cells, grp, GVal.ofConst, ↓resV, resG, List.map, List.headD, List.take, List.drop, ↓reduceIte, Nat.reduceEqDiff, Nat.reduceAdd, Nat.reduceSub, Nat.reduceLeDiff, reduceCtorEq, implies_true, ne_eq, ↓asrcV, Tag.cap, List.replicate, allSolid, GVal.solid, Nat.reduceBEq, Nat.reduceMul, Nat.reduceLT, List.length_map, List.length_range, splice, vcA, ↓vcB, vcC, fbFf, e58, spl_length, d0, d3, eS, spG, all_spl]
            refine ⟨by omega, h, h, fun st st_1 => ?_⟩
            refine Into.at ⟨(k + 1, [s], st_1), by show k + 1 ≤ _; omega, by show MOk _ _; rw [eN]; exact hM.more s ⟨hs.1.1, hs.1.2, hs.2⟩ hge (by simp)⟩ (by show _ < _; simp; omega) ⟨[.row st 2 [[.int .i64 s.1, .int .i64 s.2]]], by rfl⟩ ?_
            simp [WL, leG_self, leG_any]
          · rw [List.concat_eq_append] at e; subst e
            have hx := hM.2.2.2.2 x (by simp)
            have eX : (spl (A ++ [x])).getD A.length [] = spG x := by rw [spl_append, spl_one, ← spl_length A, getD_last]
            have eL : (A ++ [x]).length = A.length + 1 := by simp
            rw [eL] at hol ⊢
            have d1 : ((0 : Int) < ((A.length : Int) + 1)) = True := eq_true (by omega)
            have d2 : ((A.length : Int) + 1 - 1).toNat = A.length := by omega
            simp +contextual -implicitDefEqProofs (maxSteps := 2000000) (disch := omega) only [drawC, ↓lenV, binV, ↓unV, optV, ↓loadV, ↓storeV, ↓fieldAddrV, ↓indexAddrV, ↓allocV, ↓buildSliceV, ↓sliceV, ↓appendV, ↓srcV, ↓minV, bound, cutTag, hiTag, fillE, GVal.cells, grp, GVal.ofConst, ↓resV, resG, List.map, List.headD, List.take, List.drop, ↓reduceIte, Nat.reduceEqDiff, Nat.reduceAdd, Nat.reduceSub, Nat.reduceLeDiff, reduceCtorEq, implies_true, ne_eq, ↓asrcV, Tag.cap, List.replicate, allSolid, GVal.solid, Nat.reduceBEq, Nat.reduceMul, Nat.reduceLT, List.length_map, List.length_range, splice, vcA, ↓vcB, vcC, fbFf, e58, spl_length, d0, d1, d2, eS, eX, eL, spG, all_spl]
            refine ⟨by omega, h, h, fun st => ⟨by omega, by omega, ?_⟩⟩
            refine (sBeyond s x (by omega) (by omega)).then ?_
            simp +contextual -implicitDefEqProofs (maxSteps := 2000000) (disch := omega) only [drawC, ↓lenV, binV, ↓unV, optV, ↓loadV, ↓storeV, ↓fieldAddrV, ↓indexAddrV, ↓allocV, ↓buildSliceV, ↓sliceV, ↓appendV, ↓srcV, ↓minV, bound, cutTag, hiTag, fillE, GVal.cells, grp, GVal.ofConst, ↓resV, resG, List.map, List.headD, List.take, List.drop, ↓reduceIte, Nat.reduceEqDiff, Nat.reduceAdd, Nat.reduceSub, Nat.reduceLeDiff, reduceCtorEq, implies_true, ne_eq, ↓asrcV, Tag.cap, List.replicate, allSolid, GVal.solid, Nat.reduceBEq, Nat.reduceMul, Nat.reduceLT, List.length_map, List.length_range, splice, vcA, ↓vcB, vcC, fbFf, e58, spl_length, d0, d1, d2, eS, eX, eL, spG, all_spl]
            refine ⟨fun h5 => ⟨by omega, by omega, by omega, fun st_1 => ?_⟩, fun h5 => ⟨by omega, by omega, by omega, by omega, ?_⟩⟩
            · refine Into.at ⟨(k + 1, A ++ [x] ++ [s], st_1), by show k + 1 ≤ _; omega, by show MOk _ _; rw [eN]; exact hM.more s ⟨hs.1.1, hs.1.2, hs.2⟩ hge (fun z hz => by simp at hz; subst hz; exact h5)⟩ (by show _ < _; simp; omega) ⟨[.row st 2 [[.int .i64 s.1, .int .i64 s.2]]], ?_⟩ ?_
              · rw [List.take_of_length_le (by rw [spl_length, eL]; exact Nat.le_refl _), spl_append _ [s], spl_one]; rfl
              · simp [WL, leG_self, leG_any]
            · refine Into.at ⟨(k + 1, A ++ [(x.1, max x.2 s.2)], w), by show k + 1 ≤ _; omega, by show MOk _ _; rw [eN]; exact hM.grow s ⟨hs.1.1, hs.1.2, hs.2⟩ hge h5⟩ (by show _ < _; simp; omega) ⟨[.row st 2 [[.int .i64 s.1, .int .i64 s.2]]], ?_⟩ ?_
              · have := spl_setLast A x (x.1, max x.2 s.2)
                simp only [spG] at this
                rw [this]; rfl
              · simp [WL, leG_self, leG_any]
        · have d0 : ((k : Int) < (ys.length : Int)) = False := eq_false (by omega)
          have hk' : k = ys.length := by omega
          rw [hk', List.take_length] at hM
          simp +contextual -implicitDefEqProofs (maxSteps := 2000000) (disch := omega) only [drawC, ↓lenV, binV, ↓unV, optV, ↓loadV, ↓storeV, ↓fieldAddrV, ↓indexAddrV, ↓allocV, ↓buildSliceV, ↓sliceV, ↓appendV, ↓srcV, ↓minV, bound, cutTag, hiTag, fillE, GVal.cells, grp, GVal.ofConst, ↓resV, resG, List.map, List.headD, List.take, List.drop, ↓reduceIte, Nat.reduceEqDiff, Nat.reduceAdd, Nat.reduceSub, Nat.reduceLeDiff, reduceCtorEq, implies_true, ne_eq, ↓asrcV, Tag.cap, List.replicate, allSolid, GVal.solid, Nat.reduceBEq, Nat.reduceMul, Nat.reduceLT, List.length_map, List.length_range, splice, vcA, ↓vcB, vcC, fbFf, e58, spl_length, d0]
          have eR : Sp.nf l = out := Sp.nf_eq hM.1 fun n => by rw [hM.2.1, hyh]
          rw [eR]
          exact ⟨v, w, ys, rfl, rfl⟩

theorem sMake (l : List Sp.S) (t : Tag) (hl : l.length ≤ 4398046511104) (ho : Sp.Ok l) : GPure Try.prog 58 [.slice (spl l) t] (.slice (spl (Sp.nf l)) .none) :=
  GCalls.toPure ((cMake l t hl ho).mono fun g O' ⟨st0, st1, ys, e1, e2⟩ => ⟨4, .slice (spl (Sp.nf l)) .none, by
    rw [e1, e2]; exact frz_own rfl (spl_length _).symm (frz_spl _ 2 _), by rw [leA_slice]⟩)
end Gv.Try
/- Contracts: spans.Union, Both, rest, Minus. -/
set_option linter.unusedVariables false
set_option linter.unusedSimpArgs false
set_option maxRecDepth 20000
set_option maxHeartbeats 4000000
namespace Gv.Try
open Go Gv Go.Proofs

theorem sGrow (n : Nat) (hn : n ≤ 4398046511104) : GCalls Try.prog 88 [.slice [] .nil, .int .i64 n] [] (fun g O' => (n = 0 ∧ g = .slice [] .nil ∧ O' = []) ∨ ∃ st xs, g = .own 0 st 0 0 ∧ O' = [.row st 2 xs]) := by
  refine h88.calls mixS (by simp) ?_
  simp only [gstart, s88, List.cons_append, List.nil_append, List.length_cons, List.length_nil, Nat.reduceAdd, Nat.reduceSub, List.replicate_succ, List.replicate_zero]
  have d0 : ((n : Int) < 0) = False := eq_false (by omega)
  simp +contextual -implicitDefEqProofs (maxSteps := 2000000) (disch := omega) only [↓lenV, binV, optV, ↓sliceV, ↓ifaceV, ↓appendV, ↓srcV, bound, cutTag, hiTag, GVal.cells, grp, GVal.ofConst, ↓resV, resG, List.map, List.headD, List.take, List.drop, ↓reduceIte, Nat.reduceEqDiff, Nat.reduceAdd, Nat.reduceSub, Nat.reduceLeDiff, reduceCtorEq, implies_true, ne_eq, ↓asrcV, ↓capV, Tag.cap, List.replicate, allSolid, GVal.solid, Nat.reduceBEq, Nat.reduceMul, Nat.reduceLT, List.length_map, List.length_range, splice, vcA, ↓vcB, vcC, fbFf, e88, d0, false_imp_iff, true_and]
  refine ⟨fun h => ⟨by omega, by omega, by omega, by omega, by omega, by omega, fun y hy => by rw [(List.mem_replicate.1 hy).2]; rfl, by simp; omega, by simp; omega, .inr trivial, fun st => ⟨by omega, by omega, by omega, .inr ⟨st, _, rfl, rfl⟩⟩⟩, fun h => .inl (by omega)⟩

theorem sConcat (a b : List Sp.S) (ta tb tt : Tag) (hl : a.length + b.length ≤ 4398046511104) : GPure Try.prog 65 [.slice [[.slice (spl a) ta], [.slice (spl b) tb]] tt] (.slice (spl (a ++ b)) .none) := by
  refine h65.pureF mixS (by simp) ?_
  simp only [gstart, s65, List.cons_append, List.nil_append, List.length_cons, List.length_nil, Nat.reduceAdd, Nat.reduceSub, List.replicate_succ, List.replicate_zero]
  simp +contextual -implicitDefEqProofs (maxSteps := 2000000) (disch := omega) only [↓lenV, binV, optV, ↓loadV, ↓indexAddrV, ↓sliceV, ↓ifaceV, ↓appendV, ↓srcV, bound, cutTag, hiTag, GVal.cells, grp, GVal.ofConst, ↓resV, resG, List.map, List.headD, List.take, List.drop, ↓reduceIte, Nat.reduceEqDiff, Nat.reduceAdd, Nat.reduceSub, Nat.reduceLeDiff, reduceCtorEq, implies_true, ne_eq, ↓asrcV, Tag.cap, List.replicate, allSolid, GVal.solid, Nat.reduceBEq, Nat.reduceMul, Nat.reduceLT, List.length_map, List.length_range, splice, vcA, ↓vcB, vcC, fbFf, e65]
  refine vcSLoop_by (ι := { p : Nat × Nat // (p.1 = 0 ∧ p.2 = 0) ∨ (p.1 = 1 ∧ p.2 = a.length) ∨ (p.1 = 2 ∧ p.2 = a.length + b.length) }) (fun p => ⟨[.slice [[.slice (spl a) ta], [.slice (spl b) tb]] tt, .any, .any, .int .i64 (p.1.2 : Nat), .any, .any, .any, .any, .any, .slice [[.slice (spl a) ta], [.slice (spl b) tb]] tt, .int .i64 2, .int .i64 (p.1.1 : Nat)] ++ List.replicate 24 .any, []⟩) (fun p => 2 - p.1.1) ?_ ?_
  · exact Into.first ⟨(0, 0), .inl ⟨rfl, rfl⟩⟩ ⟨[], by simp⟩ (by simp [WL, leG_self, leG_any])
  · rintro ⟨⟨k, n⟩, hk⟩
    simp only [] at hk
    rcases hk with ⟨rfl, rfl⟩ | ⟨rfl, rfl⟩ | ⟨rfl, rfl⟩
    · have d1 : ((0 : Int) + a.length < 0) = False := eq_false (by omega)
      simp +contextual -implicitDefEqProofs (maxSteps := 2000000) (disch := omega) only [↓lenV, binV, optV, ↓loadV, ↓indexAddrV, ↓sliceV, ↓ifaceV, ↓appendV, ↓srcV, bound, cutTag, hiTag, GVal.cells, grp, GVal.ofConst, ↓resV, resG, List.map, List.headD, List.take, List.drop, ↓reduceIte, Nat.reduceEqDiff, Nat.reduceAdd, Nat.reduceSub, Nat.reduceLeDiff, reduceCtorEq, implies_true, ne_eq, ↓asrcV, Tag.cap, List.replicate, allSolid, GVal.solid, Nat.reduceBEq, Nat.reduceMul, Nat.reduceLT, List.length_map, List.length_range, splice, vcA, ↓vcB, vcC, fbFf, e65, spl_length, Int.reduceLT, Int.reduceLE, Int.reduceToNat, true_imp_iff, false_imp_iff, d1]
      exact Into.at ⟨(1, a.length), .inr (.inl ⟨rfl, rfl⟩)⟩ (by show _ < _; simp) ⟨[], by simp⟩ (by simp [WL, leG_self, leG_any, leG_int])
    · have d1 : ((a.length : Int) + b.length < 0) = False := eq_false (by omega)
      simp +contextual -implicitDefEqProofs (maxSteps := 2000000) (disch := omega) only [↓lenV, binV, optV, ↓loadV, ↓indexAddrV, ↓sliceV, ↓ifaceV, ↓appendV, ↓srcV, bound, cutTag, hiTag, GVal.cells, grp, GVal.ofConst, ↓resV, resG, List.map, List.headD, List.take, List.drop, ↓reduceIte, Nat.reduceEqDiff, Nat.reduceAdd, Nat.reduceSub, Nat.reduceLeDiff, reduceCtorEq, implies_true, ne_eq, ↓asrcV, Tag.cap, List.replicate, allSolid, GVal.solid, Nat.reduceBEq, Nat.reduceMul, Nat.reduceLT, List.length_map, List.length_range, splice, vcA, ↓vcB, vcC, fbFf, e65, spl_length, Int.reduceLT, Int.reduceLE, Int.reduceToNat, true_imp_iff, false_imp_iff, d1]
      exact Into.at ⟨(2, a.length + b.length), .inr (.inr ⟨rfl, rfl⟩)⟩ (by show _ < _; simp) ⟨[], by simp⟩ (by simp [WL, leG_self, leG_any, leG_int])
    · simp +contextual -implicitDefEqProofs (maxSteps := 2000000) (disch := omega) only [↓lenV, binV, optV, ↓loadV, ↓indexAddrV, ↓sliceV, ↓ifaceV, ↓appendV, ↓srcV, bound, cutTag, hiTag, GVal.cells, grp, GVal.ofConst, ↓resV, resG, List.map, List.headD, List.take, List.drop, ↓reduceIte, Nat.reduceEqDiff, Nat.reduceAdd, Nat.reduceSub, Nat.reduceLeDiff, reduceCtorEq, implies_true, ne_eq, ↓asrcV, Tag.cap, List.replicate, allSolid, GVal.solid, Nat.reduceBEq, Nat.reduceMul, Nat.reduceLT, List.length_map, List.length_range, splice, vcA, ↓vcB, vcC, fbFf, e65, spl_length, Int.reduceLT, Int.reduceLE, Int.reduceToNat, true_imp_iff, false_imp_iff]
      have hg := sGrow (a.length + b.length) hl
      rw [Int.natCast_add] at hg
      refine hg.mono ?_
      clear hg
      rintro g O' hg
      simp +contextual -implicitDefEqProofs (maxSteps := 2000000) (disch := omega) only [↓lenV, binV, optV, ↓loadV, ↓indexAddrV, ↓sliceV, ↓ifaceV, ↓appendV, ↓srcV, bound, cutTag, hiTag, GVal.cells, grp, GVal.ofConst, ↓resV, resG, List.map, List.headD, List.take, List.drop, ↓reduceIte, Nat.reduceEqDiff, Nat.reduceAdd, Nat.reduceSub, Nat.reduceLeDiff, reduceCtorEq, implies_true, ne_eq, ↓asrcV, Tag.cap, List.replicate, allSolid, GVal.solid, Nat.reduceBEq, Nat.reduceMul, Nat.reduceLT, List.length_map, List.length_range, splice, vcA, ↓vcB, vcC, fbFf, e65]
      refine vcSLoop_by (ι := { p : Nat × List Sp.S × Nat × List (List GVal) // (p.1 = 0 ∧ p.2.1 = []) ∨ (p.1 = 1 ∧ p.2.1 = a ∧ p.2.2.2 = spl a) ∨ (p.1 = 2 ∧ p.2.1 = a ++ b ∧ p.2.2.2 = spl (a ++ b)) }) (fun p => ⟨[.any, .any, .any, .any, .any, .any, .own 0 p.1.2.2.1 0 p.1.2.1.length] ++ List.replicate 18 .any ++ [.slice [[.slice (spl a) ta], [.slice (spl b) tb]] tt, .int .i64 2, .int .i64 (p.1.1 : Nat)] ++ List.replicate 8 .any, [.row p.1.2.2.1 2 p.1.2.2.2]⟩) (fun p => 2 - p.1.1) ?_ ?_
      · rcases hg with ⟨_, rfl, rfl⟩ | ⟨st, xs, rfl, rfl⟩
        · refine Into.row 6 2 rfl rfl ?_
          simp +contextual -implicitDefEqProofs (maxSteps := 2000000) (disch := omega) only [↓lenV, binV, optV, ↓loadV, ↓indexAddrV, ↓sliceV, ↓ifaceV, ↓appendV, ↓srcV, bound, cutTag, hiTag, GVal.cells, grp, GVal.ofConst, ↓resV, resG, List.map, List.headD, List.take, List.drop, ↓reduceIte, Nat.reduceEqDiff, Nat.reduceAdd, Nat.reduceSub, Nat.reduceLeDiff, reduceCtorEq, implies_true, ne_eq, ↓asrcV, Tag.cap, List.replicate, allSolid, GVal.solid, Nat.reduceBEq, Nat.reduceMul, Nat.reduceLT, List.length_map, List.length_range, splice, vcA, ↓vcB, vcC, fbFf, e65]
          intro t0
          exact Into.first ⟨(0, [], t0, []), .inl ⟨rfl, rfl⟩⟩ ⟨[], by simp⟩ (by simp [WL, leG_self, leG_any])
        · exact Into.first ⟨(0, [], st, xs), .inl ⟨rfl, rfl⟩⟩ ⟨[], by simp⟩ (by simp [WL, leG_self, leG_any])
      · rintro ⟨⟨k, L, v, xs⟩, hk⟩
        simp only [] at hk
        rcases hk with ⟨rfl, rfl⟩ | ⟨rfl, rfl, rfl⟩ | ⟨rfl, rfl, rfl⟩
        · simp +contextual -implicitDefEqProofs (maxSteps := 2000000) (disch := omega) only [↓lenV, binV, optV, ↓loadV, ↓indexAddrV, ↓sliceV, ↓ifaceV, ↓appendV, ↓srcV, bound, cutTag, hiTag, GVal.cells, grp, GVal.ofConst, ↓resV, resG, List.map, List.headD, List.take, List.drop, ↓reduceIte, Nat.reduceEqDiff, Nat.reduceAdd, Nat.reduceSub, Nat.reduceLeDiff, reduceCtorEq, implies_true, ne_eq, ↓asrcV, Tag.cap, List.replicate, allSolid, GVal.solid, Nat.reduceBEq, Nat.reduceMul, Nat.reduceLT, List.length_map, List.length_range, splice, vcA, ↓vcB, vcC, fbFf, e65, spl_length, Int.reduceLT, Int.reduceLE, Int.reduceToNat, true_imp_iff, false_imp_iff, all_spl]
          exact ⟨by omega, by omega, by omega, fun st => Into.at ⟨(1, a, st, spl a), .inr (.inl ⟨rfl, rfl, rfl⟩)⟩ (by show _ < _; simp) ⟨[], by simp⟩ (by simp [WL, leG_self, leG_any, leG_int])⟩
        · simp +contextual -implicitDefEqProofs (maxSteps := 2000000) (disch := omega) only [↓lenV, binV, optV, ↓loadV, ↓indexAddrV, ↓sliceV, ↓ifaceV, ↓appendV, ↓srcV, bound, cutTag, hiTag, GVal.cells, grp, GVal.ofConst, ↓resV, resG, List.map, List.headD, List.take, List.drop, ↓reduceIte, Nat.reduceEqDiff, Nat.reduceAdd, Nat.reduceSub, Nat.reduceLeDiff, reduceCtorEq, implies_true, ne_eq, ↓asrcV, Tag.cap, List.replicate, allSolid, GVal.solid, Nat.reduceBEq, Nat.reduceMul, Nat.reduceLT, List.length_map, List.length_range, splice, vcA, ↓vcB, vcC, fbFf, e65, spl_length, Int.reduceLT, Int.reduceLE, Int.reduceToNat, true_imp_iff, false_imp_iff, all_spl]
          exact ⟨by omega, by omega, by omega, fun st => Into.at ⟨(2, L ++ b, st, spl (L ++ b)), .inr (.inr ⟨rfl, rfl, rfl⟩)⟩ (by show _ < _; simp) ⟨[], by rw [List.take_of_length_le (by rw [spl_length]; exact Nat.le_refl _), spl_append]; simp⟩ (by simp [WL, leG_self, leG_any, leG_int])⟩
        · simp +contextual -implicitDefEqProofs (maxSteps := 2000000) (disch := omega) only [↓lenV, binV, optV, ↓loadV, ↓indexAddrV, ↓sliceV, ↓ifaceV, ↓appendV, ↓srcV, bound, cutTag, hiTag, GVal.cells, grp, GVal.ofConst, ↓resV, resG, List.map, List.headD, List.take, List.drop, ↓reduceIte, Nat.reduceEqDiff, Nat.reduceAdd, Nat.reduceSub, Nat.reduceLeDiff, reduceCtorEq, implies_true, ne_eq, ↓asrcV, Tag.cap, List.replicate, allSolid, GVal.solid, Nat.reduceBEq, Nat.reduceMul, Nat.reduceLT, List.length_map, List.length_range, splice, vcA, ↓vcB, vcC, fbFf, e65, spl_length, Int.reduceLT, Int.reduceLE, Int.reduceToNat, true_imp_iff, false_imp_iff]
          exact ⟨4, .slice (spl (a ++ b)) .none, frz_own rfl (spl_length _).symm (frz_spl _ 2 _), by rw [leA_slice]⟩

theorem sBoth (a b : List Sp.S) (ta tb : Tag) (hl : a.length + b.length ≤ 4398046511104) (ha : Sp.Ok a) (hb : Sp.Ok b) : GPure Try.prog 59 [.slice (spl a) ta, .slice (spl b) tb] (.slice (spl (Sp.bothS a b)) .none) := by
  refine h59.pure mixS (by simp) ?_
  simp only [gstart, s59, List.cons_append, List.nil_append, List.length_cons, List.length_nil, Nat.reduceAdd, Nat.reduceSub, List.replicate_succ, List.replicate_zero]
  simp +contextual -implicitDefEqProofs (maxSteps := 2000000) (disch := omega) only [drawC, ↓lenV, binV, optV, ↓loadV, ↓storeV, ↓fieldAddrV, ↓indexAddrV, ↓allocV, ↓buildV, ↓buildSliceV, ↓sliceV, ↓appendV, ↓srcV, ↓minV, bound, cutTag, hiTag, fillG, fillE, place, GVal.cells, grp, GVal.ofConst, ↓resV, resG, List.map, List.headD, List.take, List.drop, ↓reduceIte, Nat.reduceEqDiff, Nat.reduceAdd, Nat.reduceSub, Nat.reduceLeDiff, reduceCtorEq, implies_true, ne_eq, ↓asrcV, Tag.cap, List.replicate, allSolid, GVal.solid, Nat.reduceBEq, Nat.reduceMul, Nat.reduceLT, List.length_map, List.length_range, splice, vcA, ↓vcB, vcC, fbFf, e59]
  refine (sMake a ta (by omega) ha).then ?_ (by rfl)
  simp +contextual -implicitDefEqProofs (maxSteps := 2000000) (disch := omega) only [drawC, ↓lenV, binV, optV, ↓loadV, ↓storeV, ↓fieldAddrV, ↓indexAddrV, ↓allocV, ↓buildV, ↓buildSliceV, ↓sliceV, ↓appendV, ↓srcV, ↓minV, bound, cutTag, hiTag, fillG, fillE, place, GVal.cells, grp, GVal.ofConst, ↓resV, resG, List.map, List.headD, List.take, List.drop, ↓reduceIte, Nat.reduceEqDiff, Nat.reduceAdd, Nat.reduceSub, Nat.reduceLeDiff, reduceCtorEq, implies_true, ne_eq, ↓asrcV, Tag.cap, List.replicate, allSolid, GVal.solid, Nat.reduceBEq, Nat.reduceMul, Nat.reduceLT, List.length_map, List.length_range, splice, vcA, ↓vcB, vcC, fbFf, e59]
  refine (sMake b tb (by omega) hb).then ?_ (by rfl)
  simp +contextual -implicitDefEqProofs (maxSteps := 2000000) (disch := omega) only [drawC, ↓lenV, binV, optV, ↓loadV, ↓storeV, ↓fieldAddrV, ↓indexAddrV, ↓allocV, ↓buildV, ↓buildSliceV, ↓sliceV, ↓appendV, ↓srcV, ↓minV, bound, cutTag, hiTag, fillG, fillE, place, GVal.cells, grp, GVal.ofConst, ↓resV, resG, List.map, List.headD, List.take, List.drop, ↓reduceIte, Nat.reduceEqDiff, Nat.reduceAdd, Nat.reduceSub, Nat.reduceLeDiff, reduceCtorEq, implies_true, ne_eq, ↓asrcV, Tag.cap, List.replicate, allSolid, GVal.solid, Nat.reduceBEq, Nat.reduceMul, Nat.reduceLT, List.length_map, List.length_range, splice, vcA, ↓vcB, vcC, fbFf, e59, spl_length]
  have hA := Sp.nf_len a
  have hB := Sp.nf_len b
  refine vcSLoop_by (ι := { p : List Sp.S × List Sp.S × List Sp.S × Nat // p.2.2.1 ++ Sp.both p.1 p.2.1 = Sp.bothS a b ∧ Sp.Ok p.1 ∧ Sp.Ok p.2.1 ∧ p.2.2.1.length + p.1.length + p.2.1.length ≤ a.length + b.length }) (fun p => ⟨[.slice (spl p.1.1) .none, .slice (spl p.1.2.1) .none, .any, .any, .any, .slice (spl p.1.2.2.1) (.tok 0 p.1.2.2.2)] ++ List.replicate 55 .any, [.tok p.1.2.2.2 2]⟩) (fun p => p.1.1.length + p.1.2.1.length) ?_ ?_
  · refine Into.tok 5 2 [] rfl rfl ?_
    simp +contextual -implicitDefEqProofs (maxSteps := 2000000) (disch := omega) only [drawC, ↓lenV, binV, optV, ↓loadV, ↓storeV, ↓fieldAddrV, ↓indexAddrV, ↓allocV, ↓buildV, ↓buildSliceV, ↓sliceV, ↓appendV, ↓srcV, ↓minV, bound, cutTag, hiTag, fillG, fillE, place, GVal.cells, grp, GVal.ofConst, ↓resV, resG, List.map, List.headD, List.take, List.drop, ↓reduceIte, Nat.reduceEqDiff, Nat.reduceAdd, Nat.reduceSub, Nat.reduceLeDiff, reduceCtorEq, implies_true, ne_eq, ↓asrcV, Tag.cap, List.replicate, allSolid, GVal.solid, Nat.reduceBEq, Nat.reduceMul, Nat.reduceLT, List.length_map, List.length_range, splice, vcA, ↓vcB, vcC, fbFf, e59]
    intro t0
    exact Into.first ⟨(Sp.nf a, Sp.nf b, [], t0), rfl, Sp.nf_ok ha, Sp.nf_ok hb, by simp <;> omega⟩ ⟨[], by simp⟩ (by simp [WL, leG_self, leG_any, spl_nil])
  · rintro ⟨⟨A, B, out, v⟩, he, hoA, hoB, hle⟩
    simp only [] at he hoA hoB hle
    cases A with
    | nil =>
      simp +contextual -implicitDefEqProofs (maxSteps := 2000000) (disch := omega) only [drawC, ↓lenV, binV, optV, ↓loadV, ↓storeV, ↓fieldAddrV, ↓indexAddrV, ↓allocV, ↓buildV, ↓buildSliceV, ↓sliceV, ↓appendV, ↓srcV, ↓minV, bound, cutTag, hiTag, fillG, fillE, place, GVal.cells, grp, GVal.ofConst, ↓resV, resG, List.map, List.headD, List.take, List.drop, ↓reduceIte, Nat.reduceEqDiff, Nat.reduceAdd, Nat.reduceSub, Nat.reduceLeDiff, reduceCtorEq, implies_true, ne_eq, ↓asrcV, Tag.cap, List.replicate, allSolid, GVal.solid, Nat.reduceBEq, Nat.reduceMul, Nat.reduceLT, List.length_map, List.length_range, splice, vcA, ↓vcB, vcC, fbFf, e59, spl_length, spl_nil]
      rw [Sp.both_nil, List.append_nil] at he
      exact ⟨fun h => by omega, fun _ => by rw [he]⟩
    | cons x A =>
      cases B with
      | nil =>
        simp +contextual -implicitDefEqProofs (maxSteps := 2000000) (disch := omega) only [drawC, ↓lenV, binV, optV, ↓loadV, ↓storeV, ↓fieldAddrV, ↓indexAddrV, ↓allocV, ↓buildV, ↓buildSliceV, ↓sliceV, ↓appendV, ↓srcV, ↓minV, bound, cutTag, hiTag, fillG, fillE, place, GVal.cells, grp, GVal.ofConst, ↓resV, resG, List.map, List.headD, List.take, List.drop, ↓reduceIte, Nat.reduceEqDiff, Nat.reduceAdd, Nat.reduceSub, Nat.reduceLeDiff, reduceCtorEq, implies_true, ne_eq, ↓asrcV, Tag.cap, List.replicate, allSolid, GVal.solid, Nat.reduceBEq, Nat.reduceMul, Nat.reduceLT, List.length_map, List.length_range, splice, vcA, ↓vcB, vcC, fbFf, e59, spl_length, spl_nil, spl_cons]
        rw [Sp.both_nil', List.append_nil] at he
        exact ⟨fun _ => ⟨fun h => by omega, fun _ => by rw [he]⟩, fun h => by omega⟩
      | cons y B =>
        have hx := hoA x (by simp)
        have hy := hoB y (by simp)
        have tA : ((A.length : Int) + 1).toNat = A.length + 1 := by omega
        have tB : ((B.length : Int) + 1).toNat = B.length + 1 := by omega
        have kA : (spl A).take A.length = spl A := List.take_of_length_le (by rw [spl_length]; exact Nat.le_refl _)
        have kB : (spl B).take B.length = spl B := List.take_of_length_le (by rw [spl_length]; exact Nat.le_refl _)
        simp +contextual -implicitDefEqProofs (maxSteps := 2000000) (disch := omega) only [drawC, ↓lenV, binV, optV, ↓loadV, ↓storeV, ↓fieldAddrV, ↓indexAddrV, ↓allocV, ↓buildV, ↓buildSliceV, ↓sliceV, ↓appendV, ↓srcV, ↓minV, bound, cutTag, hiTag, fillG, fillE, place, GVal.cells, grp, GVal.ofConst, ↓resV, resG, List.map, List.headD, List.take, List.drop, ↓reduceIte, Nat.reduceEqDiff, Nat.reduceAdd, Nat.reduceSub, Nat.reduceLeDiff, reduceCtorEq, implies_true, ne_eq, ↓asrcV, Tag.cap, List.replicate, allSolid, GVal.solid, Nat.reduceBEq, Nat.reduceMul, Nat.reduceLT, List.length_map, List.length_range, splice, vcA, ↓vcB, vcC, fbFf, e59, spl_length, spl_nil, spl_cons, spG, all_spl, Int.reduceToNat, tA, tB, kA, kB]
        rw [Sp.both_cons] at he
        simp only [List.length_cons] at hle
        refine ⟨fun _ => ⟨fun _ => ⟨by omega, by omega, by omega, by omega, fun st => ⟨⟨_, rfl⟩, fun h1 => ⟨by omega, by omega, fun st_1 => ⟨by omega, by omega, fun h2 => ⟨by omega, by omega, by omega, ?_⟩, fun h2 => ⟨by omega, by omega, by omega, ?_⟩⟩⟩, fun h1 => ⟨by omega, by omega, fun h2 => ⟨by omega, by omega, by omega, ?_⟩, fun h2 => ⟨by omega, by omega, by omega, ?_⟩⟩⟩⟩, fun h => by omega⟩, fun h => by omega⟩
        · rw [if_pos h1, if_pos h2] at he
          refine Into.at ⟨(A, y :: B, out ++ [(max x.1 y.1, min x.2 y.2)], st_1), by rw [← he]; simp, fun s hs => hoA s (by simp [hs]), hoB, by simp <;> omega⟩ (by show _ < _; simp <;> omega) ⟨[.row st 2 [[.int .i64 (max x.1 y.1), .int .i64 (min x.2 y.2)]]], by simp⟩ ?_
          simp [WL, leG_self, leG_any, spl_append, spl_cons, spl_nil, spG]
        · rw [if_pos h1, if_neg (by omega)] at he
          refine Into.at ⟨(x :: A, B, out ++ [(max x.1 y.1, min x.2 y.2)], st_1), by rw [← he]; simp, hoA, fun s hs => hoB s (by simp [hs]), by simp <;> omega⟩ (by show _ < _; simp) ⟨[.row st 2 [[.int .i64 (max x.1 y.1), .int .i64 (min x.2 y.2)]]], by simp⟩ ?_
          simp [WL, leG_self, leG_any, spl_append, spl_cons, spl_nil, spG]
        · rw [if_neg (by omega), if_pos h2] at he
          refine Into.at ⟨(A, y :: B, out, v), by rw [← he, List.nil_append], fun s hs => hoA s (by simp [hs]), hoB, by simp <;> omega⟩ (by show _ < _; simp <;> omega) ⟨[.row st 2 [[.int .i64 (max x.1 y.1), .int .i64 (min x.2 y.2)]]], by simp⟩ ?_
          simp [WL, leG_self, leG_any, spl_append, spl_cons, spl_nil, spG]
        · rw [if_neg (by omega), if_neg (by omega)] at he
          refine Into.at ⟨(x :: A, B, out, v), by rw [← he, List.nil_append], hoA, fun s hs => hoB s (by simp [hs]), by simp <;> omega⟩ (by show _ < _; simp) ⟨[.row st 2 [[.int .i64 (max x.1 y.1), .int .i64 (min x.2 y.2)]]], by simp⟩ ?_
          simp [WL, leG_self, leG_any, spl_append, spl_cons, spl_nil, spG]

theorem sRest (l : List Sp.S) (t : Tag) (hl : l.length ≤ 4398046511104) (ho : Sp.Ok l) : GPure Try.prog 66 [.slice (spl l) t] (.slice (spl (Sp.rest (Sp.nf l))) .none) := by
  refine h66.pure mixS (by simp) ?_
  simp only [gstart, s66, List.cons_append, List.nil_append, List.length_cons, List.length_nil, Nat.reduceAdd, Nat.reduceSub, List.replicate_succ, List.replicate_zero]
  simp +contextual -implicitDefEqProofs (maxSteps := 2000000) (disch := omega) only [↓lenV, binV, optV, ↓loadV, ↓storeV, ↓fieldAddrV, ↓indexAddrV, ↓allocV, ↓buildV, ↓buildSliceV, ↓sliceV, ↓appendV, ↓srcV, bound, cutTag, hiTag, fillG, fillE, place, GVal.cells, grp, GVal.ofConst, ↓resV, resG, List.map, List.headD, List.take, List.drop, ↓reduceIte, Nat.reduceEqDiff, Nat.reduceAdd, Nat.reduceSub, Nat.reduceLeDiff, reduceCtorEq, implies_true, ne_eq, ↓asrcV, aggV, Tag.cap, List.replicate, allSolid, GVal.solid, Nat.reduceBEq, Nat.reduceMul, Nat.reduceLT, List.length_map, List.length_range, splice, vcA, ↓vcB, vcC, fbFf, e66]
  refine (sMake l t (by omega) ho).then ?_ (by rfl)
  have hN := Sp.nf_len l
  have hoN := Sp.nf_ok ho
  have hrt := Sp.nf_rt l
  generalize Sp.nf l = N at *
  simp +contextual -implicitDefEqProofs (maxSteps := 2000000) (disch := omega) only [↓lenV, binV, optV, ↓loadV, ↓storeV, ↓fieldAddrV, ↓indexAddrV, ↓allocV, ↓buildV, ↓buildSliceV, ↓sliceV, ↓appendV, ↓srcV, bound, cutTag, hiTag, fillG, fillE, place, GVal.cells, grp, GVal.ofConst, ↓resV, resG, List.map, List.headD, List.take, List.drop, ↓reduceIte, Nat.reduceEqDiff, Nat.reduceAdd, Nat.reduceSub, Nat.reduceLeDiff, reduceCtorEq, implies_true, ne_eq, ↓asrcV, aggV, Tag.cap, List.replicate, allSolid, GVal.solid, Nat.reduceBEq, Nat.reduceMul, Nat.reduceLT, List.length_map, List.length_range, splice, vcA, ↓vcB, vcC, fbFf, e66, spl_length]
  refine vcSLoop_by (ι := { p : Nat × Nat × List Sp.S × Int // p.1 ≤ N.length ∧ p.2.2.1 ++ Sp.restF p.2.2.2 (N.drop p.1) = Sp.rest N ∧ 0 ≤ p.2.2.2 ∧ p.2.2.2 ≤ 9223372036854775807 ∧ p.2.2.1.length ≤ p.1 }) (fun p => ⟨[.any, .any, .any, .slice (spl p.1.2.2.1) (.tok 0 p.1.2.1), .int .i64 p.1.2.2.2, .any, .any, .any, .slice (spl N) .none, .int .i64 N.length, .int .i64 (p.1.1 : Nat)] ++ List.replicate 28 .any, [.tok p.1.2.1 2]⟩) (fun p => N.length - p.1.1) ?_ ?_
  · refine Into.tok 3 2 [] rfl rfl ?_
    simp +contextual -implicitDefEqProofs (maxSteps := 2000000) (disch := omega) only [↓lenV, binV, optV, ↓loadV, ↓storeV, ↓fieldAddrV, ↓indexAddrV, ↓allocV, ↓buildV, ↓buildSliceV, ↓sliceV, ↓appendV, ↓srcV, bound, cutTag, hiTag, fillG, fillE, place, GVal.cells, grp, GVal.ofConst, ↓resV, resG, List.map, List.headD, List.take, List.drop, ↓reduceIte, Nat.reduceEqDiff, Nat.reduceAdd, Nat.reduceSub, Nat.reduceLeDiff, reduceCtorEq, implies_true, ne_eq, ↓asrcV, aggV, Tag.cap, List.replicate, allSolid, GVal.solid, Nat.reduceBEq, Nat.reduceMul, Nat.reduceLT, List.length_map, List.length_range, splice, vcA, ↓vcB, vcC, fbFf, e66]
    intro t0
    exact Into.first ⟨(0, t0, [], 0), by omega, by simp [Sp.rest], by simp, by simp, by simp⟩ ⟨[], by simp⟩ (by simp [WL, leG_self, leG_any, spl_nil])
  · rintro ⟨⟨k, v, out, low⟩, hk, he, h0, h1, hol⟩
    simp only [] at hk he h0 h1 hol
    by_cases h : k < N.length
    · have d0 : ((k : Int) < (N.length : Int)) = True := eq_true (by omega)
      have eS := spl_at N k h
      have hs := hoN.at k
      have hs2 := hrt.at k h
      rw [drop_getD h] at he
      unfold Sp.restF at he
      generalize N.getD k (0, 0) = s at *
      simp +contextual -implicitDefEqProofs (maxSteps := 2000000) (disch := omega) only [↓lenV, binV, optV, ↓loadV, ↓storeV, ↓fieldAddrV, ↓indexAddrV, ↓allocV, ↓buildV, ↓buildSliceV, ↓sliceV, ↓appendV, ↓srcV, bound, cutTag, hiTag, fillG, fillE, place, GVal.cells, grp, GVal.ofConst, ↓resV, resG, List.map, List.headD, List.take, List.drop, ↓reduceIte, Nat.reduceEqDiff, Nat.reduceAdd, Nat.reduceSub, Nat.reduceLeDiff, reduceCtorEq, implies_true, ne_eq, ↓asrcV, aggV, Tag.cap, List.replicate, allSolid, GVal.solid, Nat.reduceBEq, Nat.reduceMul, Nat.reduceLT, List.length_map, List.length_range, splice, vcA, ↓vcB, vcC, fbFf, e66, spl_length, d0, eS, spG, all_spl]
      refine ⟨by omega, fun st => ⟨fun h2 => ⟨by omega, by omega, fun st_1 => ⟨fun h3 => ?_, fun h3 => ?_⟩⟩, fun h2 => ⟨fun h3 => ?_, fun h3 => ?_⟩⟩⟩
      · rw [if_pos h2, if_pos h3] at he
        rw [← he, spl_append, List.append_nil, spl_one]; rfl
      · rw [if_pos h2, if_neg h3] at he
        refine Into.at ⟨(k + 1, st_1, out ++ [(low, s.1 - 1)], s.2 + 1), by show k + 1 ≤ _; omega, by rw [← he]; simp, by show 0 ≤ s.2 + 1; omega, by show s.2 + 1 ≤ _; omega, by simp <;> omega⟩ (by show _ < _; simp; omega) ⟨[.row st 2 [[.int .i64 s.1, .int .i64 s.2]]], by simp⟩ ?_
        simp [WL, leG_self, leG_any, spl_append, spl_cons, spl_nil, spG]
      · rw [if_neg (by omega), if_pos h3] at he
        rw [← he]; simp
      · rw [if_neg (by omega), if_neg h3, List.nil_append] at he
        refine Into.at ⟨(k + 1, v, out, s.2 + 1), by show k + 1 ≤ _; omega, he, by show 0 ≤ s.2 + 1; omega, by show s.2 + 1 ≤ _; omega, by show out.length ≤ k + 1; omega⟩ (by show _ < _; simp; omega) ⟨[.row st 2 [[.int .i64 s.1, .int .i64 s.2]]], by simp⟩ ?_
        simp [WL, leG_self, leG_any, spl_append, spl_cons, spl_nil, spG]
    · have d0 : ((k : Int) < (N.length : Int)) = False := eq_false (by omega)
      simp +contextual -implicitDefEqProofs (maxSteps := 2000000) (disch := omega) only [↓lenV, binV, optV, ↓loadV, ↓storeV, ↓fieldAddrV, ↓indexAddrV, ↓allocV, ↓buildV, ↓buildSliceV, ↓sliceV, ↓appendV, ↓srcV, bound, cutTag, hiTag, fillG, fillE, place, GVal.cells, grp, GVal.ofConst, ↓resV, resG, List.map, List.headD, List.take, List.drop, ↓reduceIte, Nat.reduceEqDiff, Nat.reduceAdd, Nat.reduceSub, Nat.reduceLeDiff, reduceCtorEq, implies_true, ne_eq, ↓asrcV, aggV, Tag.cap, List.replicate, allSolid, GVal.solid, Nat.reduceBEq, Nat.reduceMul, Nat.reduceLT, List.length_map, List.length_range, splice, vcA, ↓vcB, vcC, fbFf, e66, spl_length, d0, all_spl, false_imp_iff, true_and]
      rw [List.drop_of_length_le (by omega)] at he
      exact ⟨by omega, by omega, fun _ => by rw [← he, spl_append]; rfl⟩

theorem sUnion (a b : List Sp.S) (ta tb : Tag) (hl : a.length + b.length ≤ 4398046511104) (ha : Sp.Ok a) (hb : Sp.Ok b) : GPure Try.prog 39 [.slice (spl a) ta, .slice (spl b) tb] (.slice (spl (Sp.uni a b)) .none) := by
  refine h39.pure mixS (by simp) ?_
  simp only [gstart, s39, List.cons_append, List.nil_append, List.length_cons, List.length_nil, Nat.reduceAdd, Nat.reduceSub, List.replicate_succ, List.replicate_zero]
  simp +contextual -implicitDefEqProofs (maxSteps := 2000000) (disch := omega) only [optV, ↓buildSliceV, ↓sliceV, bound, cutTag, hiTag, fillE, GVal.cells, grp, GVal.ofConst, ↓resV, resG, List.map, List.headD, List.take, List.drop, ↓reduceIte, Nat.reduceEqDiff, Nat.reduceAdd, Nat.reduceSub, Nat.reduceLeDiff, reduceCtorEq, implies_true, ne_eq, Tag.cap, List.replicate, allSolid, GVal.solid, Nat.reduceBEq, Nat.reduceMul, Nat.reduceLT, List.length_map, List.length_range, splice, vcA, ↓vcB, vcC, fbFf, e39]
  refine (sConcat a b ta tb _ hl).then ?_ (by rfl)
  simp +contextual -implicitDefEqProofs (maxSteps := 2000000) (disch := omega) only [optV, ↓buildSliceV, ↓sliceV, bound, cutTag, hiTag, fillE, GVal.cells, grp, GVal.ofConst, ↓resV, resG, List.map, List.headD, List.take, List.drop, ↓reduceIte, Nat.reduceEqDiff, Nat.reduceAdd, Nat.reduceSub, Nat.reduceLeDiff, reduceCtorEq, implies_true, ne_eq, Tag.cap, List.replicate, allSolid, GVal.solid, Nat.reduceBEq, Nat.reduceMul, Nat.reduceLT, List.length_map, List.length_range, splice, vcA, ↓vcB, vcC, fbFf, e39]
  refine (sMake (a ++ b) .none (by simp; omega) (ha.app hb)).then ?_ (by rfl)
  simp +contextual -implicitDefEqProofs (maxSteps := 2000000) (disch := omega) only [optV, ↓buildSliceV, ↓sliceV, bound, cutTag, hiTag, fillE, GVal.cells, grp, GVal.ofConst, ↓resV, resG, List.map, List.headD, List.take, List.drop, ↓reduceIte, Nat.reduceEqDiff, Nat.reduceAdd, Nat.reduceSub, Nat.reduceLeDiff, reduceCtorEq, implies_true, ne_eq, Tag.cap, List.replicate, allSolid, GVal.solid, Nat.reduceBEq, Nat.reduceMul, Nat.reduceLT, List.length_map, List.length_range, splice, vcA, ↓vcB, vcC, fbFf, e39]
  rfl

theorem sMinus (a b : List Sp.S) (ta tb : Tag) (hl : a.length + b.length < 4398046511104) (ha : Sp.Ok a) (hb : Sp.Ok b) : GPure Try.prog 40 [.slice (spl a) ta, .slice (spl b) tb] (.slice (spl (Sp.minus a b)) .none) := by
  have h1 := Sp.restF_len (Sp.nf b) 0
  have h2 := Sp.nf_len b
  refine h40.pure mixS (by simp) ?_
  simp only [gstart, s40, List.cons_append, List.nil_append, List.length_cons, List.length_nil, Nat.reduceAdd, Nat.reduceSub, List.replicate_succ, List.replicate_zero]
  simp +contextual -implicitDefEqProofs (maxSteps := 2000000) (disch := omega) only [optV, ↓sliceV, bound, cutTag, hiTag, GVal.cells, grp, GVal.ofConst, ↓resV, resG, List.map, List.headD, List.take, List.drop, ↓reduceIte, Nat.reduceEqDiff, Nat.reduceAdd, Nat.reduceSub, Nat.reduceLeDiff, reduceCtorEq, implies_true, ne_eq, Tag.cap, List.replicate, allSolid, GVal.solid, Nat.reduceBEq, Nat.reduceMul, Nat.reduceLT, List.length_map, List.length_range, splice, vcA, ↓vcB, vcC, fbFf, e40]
  refine (sRest b tb (by omega) hb).then ?_ (by rfl)
  simp +contextual -implicitDefEqProofs (maxSteps := 2000000) (disch := omega) only [optV, ↓sliceV, bound, cutTag, hiTag, GVal.cells, grp, GVal.ofConst, ↓resV, resG, List.map, List.headD, List.take, List.drop, ↓reduceIte, Nat.reduceEqDiff, Nat.reduceAdd, Nat.reduceSub, Nat.reduceLeDiff, reduceCtorEq, implies_true, ne_eq, Tag.cap, List.replicate, allSolid, GVal.solid, Nat.reduceBEq, Nat.reduceMul, Nat.reduceLT, List.length_map, List.length_range, splice, vcA, ↓vcB, vcC, fbFf, e40]
  refine (sBoth a (Sp.rest (Sp.nf b)) ta .none (by unfold Sp.rest; omega) ha (Sp.rest_ok (Sp.nf_rt b) (Sp.nf_ok hb))).then ?_ (by rfl)
  simp +contextual -implicitDefEqProofs (maxSteps := 2000000) (disch := omega) only [optV, ↓sliceV, bound, cutTag, hiTag, GVal.cells, grp, GVal.ofConst, ↓resV, resG, List.map, List.headD, List.take, List.drop, ↓reduceIte, Nat.reduceEqDiff, Nat.reduceAdd, Nat.reduceSub, Nat.reduceLeDiff, reduceCtorEq, implies_true, ne_eq, Tag.cap, List.replicate, allSolid, GVal.solid, Nat.reduceBEq, Nat.reduceMul, Nat.reduceLT, List.length_map, List.length_range, splice, vcA, ↓vcB, vcC, fbFf, e40]
  rfl

end Gv.Try
/- Contracts: the document's answer on spans: join, Make, Right, Union; Has, Count of both. -/
set_option linter.unusedVariables false
set_option linter.unusedSimpArgs false
set_option maxRecDepth 20000
set_option maxHeartbeats 4000000
namespace Gv.Try
open Go Gv Go.Proofs

end Gv.Try
/- Contracts: the document's answer on spans: Both, Minus. -/
set_option linter.unusedVariables false
set_option linter.unusedSimpArgs false
set_option maxRecDepth 20000
set_option maxHeartbeats 4000000
namespace Gv.Try
open Go Gv Go.Proofs

end Gv.Try
/- Sets of numbers: the greatest, the least, one by one. -/
set_option linter.unusedVariables false
namespace Gv.Sp
open Gv
abbrev sz (s : S) : Int := s.2 - s.1 + 1
/-- of a list of spans, the greatest first: the first n numbers; the rest -/
def topF : List S → Int → List S
  | [], _ => []
  | s :: r, n => if n ≤ 0 then [] else (s.2 - (min n (sz s) - 1), s.2) :: topF r (n - min n (sz s))
def topO : List S → Int → List S
  | [], _ => []
  | s :: r, n => if n ≤ 0 then s :: r else if sz s ≤ n then topO r (n - sz s) else (s.1, s.2 - n) :: r
theorem topF_cons (s : S) (r : List S) (n : Int) : topF (s :: r) n = if n ≤ 0 then [] else (s.2 - (min n (sz s) - 1), s.2) :: topF r (n - min n (sz s)) := rfl
theorem topO_cons (s : S) (r : List S) (n : Int) : topO (s :: r) n = if n ≤ 0 then s :: r else if sz s ≤ n then topO r (n - sz s) else (s.1, s.2 - n) :: r := rfl
theorem topF_len : ∀ (r : List S) (n : Int), (topF r n).length ≤ r.length
  | [], n => by simp [topF]
  | s :: r, n => by
    rw [topF_cons]; split
    · simp
    · have := topF_len r (n - min n (sz s)); simp; omega
def lowF : List S → Int → List S
  | [], _ => []
  | s :: r, n => if n ≤ 0 then [] else (s.1, s.1 + (min n (sz s) - 1)) :: lowF r (n - min n (sz s))
theorem lowF_cons (s : S) (r : List S) (n : Int) : lowF (s :: r) n = if n ≤ 0 then [] else (s.1, s.1 + (min n (sz s) - 1)) :: lowF r (n - min n (sz s)) := rfl
theorem lowF_len : ∀ (r : List S) (n : Int), (lowF r n).length ≤ r.length
  | [], n => by simp [lowF]
  | s :: r, n => by
    rw [lowF_cons]; split
    · simp
    · have := lowF_len r (n - min n (sz s)); simp; omega
def firstS (N : List S) (n : Int) : List S := (topF N.reverse n).reverse
def skipS (N : List S) (n : Int) : List S := (topO N.reverse n).reverse
/-- falling numbers from one on -/
def down (h : Int) (k : Nat) : List Int := (List.range k).map fun (i : Nat) => h - i
theorem down_len (h : Int) (k : Nat) : (down h k).length = k := by simp [down]
theorem down_zero (h : Int) : down h 0 = [] := rfl
theorem down_snoc (h : Int) (k : Nat) : down h (k + 1) = down h k ++ [h - k] := by simp [down, List.range_succ]
theorem down_add (h : Int) (j : Nat) : ∀ k, down h (j + k) = down h j ++ down (h - j) k
  | 0 => by simp [down_zero]
  | k + 1 => by rw [← Nat.add_assoc, down_snoc, down_add h j k, down_snoc, List.append_assoc]; congr 3; simp; omega
theorem down_mem (n h : Int) (k : Nat) : n ∈ down h k ↔ h - k < n ∧ n ≤ h := by
  simp only [down, List.mem_map, List.mem_range]
  constructor
  · rintro ⟨i, hi, rfl⟩; omega
  · rintro ⟨h1, h2⟩; exact ⟨(h - n).toNat, by omega, by omega⟩
/-- all numbers, of spans the greatest first -/
def elsR (r : List S) : List Int := r.flatMap fun s => down s.2 (sz s).toNat
def els (N : List S) : List Int := elsR N.reverse
theorem elsR_cons (s : S) (r : List S) : elsR (s :: r) = down s.2 (sz s).toNat ++ elsR r := rfl
theorem els_cons (s : S) (r : List S) : els (s :: r) = els r ++ down s.2 (sz s).toNat := by simp [els, elsR]
theorem elsR_top : ∀ (r : List S) (n : Int), (∀ s ∈ r, s.1 ≤ s.2) → elsR (topF r n) = (elsR r).take n.toNat
  | [], n, _ => by simp [topF, elsR]
  | s :: r, n, h => by
    have hs := h s (by simp)
    rw [topF_cons]
    split
    · have : n.toNat = 0 := by omega
      rw [this]; rfl
    · rw [elsR_cons, elsR_cons, elsR_top r _ (fun x hx => h x (by simp [hx])), List.take_append, down_len]
      have hz : sz s = s.2 - s.1 + 1 := rfl
      have hz' : sz (s.2 - (min n (sz s) - 1), s.2) = s.2 - (s.2 - (min n (sz s) - 1)) + 1 := rfl
      have e1 : (sz (s.2 - (min n (sz s) - 1), s.2)).toNat = min n.toNat (sz s).toNat := by omega
      rw [e1]
      have e2 : (n - min n (sz s)).toNat = n.toNat - (sz s).toNat := by omega
      rw [e2]
      congr 1
      show down s.2 _ = _
      by_cases c : n.toNat ≤ (sz s).toNat
      · obtain ⟨j, hj⟩ := Nat.exists_eq_add_of_le c
        rw [hj, Nat.min_eq_left (by omega), down_add, List.take_append_of_le_length (by rw [down_len]; omega), List.take_of_length_le (by rw [down_len]; omega)]
      · rw [Nat.min_eq_right (by omega), List.take_of_length_le (by rw [down_len]; omega)]
theorem elsR_rest : ∀ (r : List S) (n : Int), (∀ s ∈ r, s.1 ≤ s.2) → elsR (topO r n) = (elsR r).drop n.toNat
  | [], n, _ => by simp [topO, elsR]
  | s :: r, n, h => by
    have hs := h s (by simp)
    rw [topO_cons]
    split
    · have : n.toNat = 0 := by omega
      rw [this]; rfl
    · split
      · rw [elsR_rest r _ (fun x hx => h x (by simp [hx])), elsR_cons, List.drop_append, down_len, List.drop_of_length_le (l := down s.2 (sz s).toNat) (by rw [down_len]; omega), List.nil_append]
        have hz : sz s = s.2 - s.1 + 1 := rfl
        congr 1; omega
      · rw [elsR_cons, elsR_cons, List.drop_append_of_le_length (by rw [down_len]; omega)]
        congr 1
        have hz : sz s = s.2 - s.1 + 1 := rfl
        have hz' : sz (s.1, s.2 - n) = s.2 - n - s.1 + 1 := rfl
        have e : (sz s).toNat = n.toNat + (sz (s.1, s.2 - n)).toNat := by omega
        rw [e, down_add, List.drop_append_of_le_length (by rw [down_len]; exact Nat.le_refl _), List.drop_of_length_le (by rw [down_len]; exact Nat.le_refl _), List.nil_append]
        congr 1; show s.2 - n = _; omega
theorem Rt.all_le {N : List S} {b : Int} (h : Rt b N) : ∀ s ∈ N, s.1 ≤ s.2 := fun s hs => (h.mem hs).2
theorem els_first {N : List S} (h : Rt 0 N) (n : Int) : els (firstS N n) = (els N).take n.toNat := by
  rw [els, firstS, List.reverse_reverse, elsR_top _ _ (fun s hs => h.all_le s (by simpa using hs))]; rfl
theorem els_skip {N : List S} (h : Rt 0 N) (n : Int) : els (skipS N n) = (els N).drop n.toNat := by
  rw [els, skipS, List.reverse_reverse, elsR_rest _ _ (fun s hs => h.all_le s (by simpa using hs))]; rfl
theorem els_low : ∀ (N : List S) (n : Int), (∀ s ∈ N, s.1 ≤ s.2) → els (lowF N n) = (els N).drop ((els N).length - n.toNat)
  | [], n, _ => by simp [lowF, els, elsR]
  | s :: r, n, h => by
    have hs := h s (by simp)
    rw [lowF_cons]
    split
    · have : n.toNat = 0 := by omega
      rw [this, Nat.sub_zero, List.drop_length]; rfl
    · rw [els_cons, els_cons, els_low r _ (fun x hx => h x (by simp [hx])), List.length_append, down_len]
      have hz : sz s = s.2 - s.1 + 1 := rfl
      have e2 : (n - min n (sz s)).toNat = n.toNat - (sz s).toNat := by omega
      have hz' : sz (s.1, s.1 + (min n (sz s) - 1)) = s.1 + (min n (sz s) - 1) - s.1 + 1 := rfl
      have e1 : (sz (s.1, s.1 + (min n (sz s) - 1))).toNat = min n.toNat (sz s).toNat := by omega
      rw [e1, e2]
      show _ ++ down (s.1 + (min n (sz s) - 1)) _ = _
      by_cases c : n.toNat ≤ (sz s).toNat
      · obtain ⟨j, hj⟩ := Nat.exists_eq_add_of_le' c
        have e3 : n.toNat - (sz s).toNat = 0 := by omega
        rw [e3, Nat.sub_zero, List.drop_length, List.nil_append, Nat.min_eq_left c, List.drop_append]
        have e4 : (els r).length + (sz s).toNat - n.toNat = (els r).length + j := by omega
        rw [e4, List.drop_of_length_le (by omega), List.nil_append]
        have e5 : (els r).length + j - (els r).length = j := by omega
        rw [e5, hj, down_add, List.drop_append_of_le_length (by rw [down_len]; exact Nat.le_refl _), List.drop_of_length_le (by rw [down_len]; exact Nat.le_refl _), List.nil_append]
        congr 1
        have e6 : min n (sz s) = n := by omega
        rw [e6]
        have : sz s = j + n := by omega
        simp only [sz] at this
        omega
      · have e4 : (els r).length + (sz s).toNat - n.toNat = (els r).length - (n.toNat - (sz s).toNat) := by omega
        rw [e4, List.drop_append_of_le_length (by omega), Nat.min_eq_right (by omega)]
        congr 2
        have e6 : min n (sz s) = sz s := by omega
        rw [e6]; simp only [sz]; omega
theorem els_mem : ∀ {N : List S} {b : Int}, Rt b N → 0 ≤ b → ∀ n, n ∈ els N ↔ has N n
  | [], b, _, _, n => by simp [els, elsR, has_nil]
  | s :: r, b, ⟨h1, h2, h3⟩, hb, n => by
    rw [els_cons, List.mem_append, els_mem h3 (by omega), has_cons, down_mem, or_comm]
    refine or_congr ?_ Iff.rfl
    simp only [sz]; omega
theorem topF_rt : ∀ (r : List S) (n : Int), Rt 0 r.reverse → Rt 0 (topF r n).reverse ∧ ∀ s ∈ topF r n, ∀ b, (∀ x ∈ r, x.2 < b) → s.2 < b
  | [], n, _ => by simp [topF, Rt]
  | s :: r, n, h => by
    rw [List.reverse_cons] at h
    obtain ⟨h1, h2, h3, h4⟩ := (Rt_snoc s _ 0).1 h
    rw [topF_cons]
    split
    · exact ⟨trivial, by simp⟩
    · obtain ⟨i1, i2⟩ := topF_rt r (n - min n (sz s)) h1
      have hk : 1 ≤ min n (sz s) ∧ min n (sz s) ≤ sz s := by simp only [sz]; omega
      simp only [sz] at hk
      constructor
      · rw [List.reverse_cons]
        refine (Rt_snoc _ _ 0).2 ⟨i1, by show 0 ≤ s.2 - (min n (s.2 - s.1 + 1) - 1); omega, by show s.2 - (min n (s.2 - s.1 + 1) - 1) ≤ s.2; omega, fun y hy => ?_⟩
        have := i2 y (by simpa using hy) (s.1 - 1) (fun x hx => by have := h4 x (by simpa using hx); omega)
        show y.2 + 2 ≤ s.2 - (min n (s.2 - s.1 + 1) - 1)
        omega
      · intro x hx b hb
        rcases List.mem_cons.1 hx with rfl | hx
        · exact hb s (by simp)
        · exact i2 x hx b fun z hz => hb z (by simp [hz])
theorem topO_rt : ∀ (r : List S) (n : Int), Rt 0 r.reverse → Rt 0 (topO r n).reverse
  | [], n, _ => trivial
  | s :: r, n, h => by
    have h' := h
    rw [List.reverse_cons] at h
    obtain ⟨h1, h2, h3, h4⟩ := (Rt_snoc s _ 0).1 h
    rw [topO_cons]
    split
    · exact h'
    · split
      · exact topO_rt r _ h1
      · rename_i c
        simp only [sz] at c
        rw [List.reverse_cons]
        exact (Rt_snoc _ _ 0).2 ⟨h1, h2, by show s.1 ≤ s.2 - n; omega, h4⟩
theorem first_rt {N : List S} (h : Rt 0 N) (n : Int) : Rt 0 (firstS N n) := (topF_rt N.reverse n (by simpa using h)).1
theorem skip_rt {N : List S} (h : Rt 0 N) (n : Int) : Rt 0 (skipS N n) := topO_rt N.reverse n (by simpa using h)
theorem low_rt : ∀ (N : List S) (n b : Int), Rt b N → Rt b (lowF N n)
  | [], n, b, _ => trivial
  | s :: r, n, b, ⟨h1, h2, h3⟩ => by
    rw [lowF_cons]
    split
    · trivial
    · have hk : 1 ≤ min n (sz s) ∧ min n (sz s) ≤ sz s := by simp only [sz]; omega
      simp only [sz] at hk
      exact ⟨h1, by show s.1 ≤ s.1 + (min n (s.2 - s.1 + 1) - 1); omega, (low_rt r _ _ h3).weak (by show s.1 + (min n (s.2 - s.1 + 1) - 1) + 2 ≤ _; omega)⟩
theorem first_len (N : List S) (n : Int) : (firstS N n).length ≤ N.length := by have := topF_len N.reverse n; simpa [firstS] using this
theorem topO_len : ∀ (r : List S) (n : Int), (topO r n).length ≤ r.length
  | [], n => by simp [topO]
  | s :: r, n => by
    rw [topO_cons]; split
    · exact Nat.le_refl _
    · split
      · have := topO_len r (n - sz s); simp; omega
      · simp
theorem skip_len (N : List S) (n : Int) : (skipS N n).length ≤ N.length := by have := topO_len N.reverse n; simpa [skipS] using this
/-- all three are parts of the set -/
theorem first_has {N : List S} (h : Rt 0 N) (n m : Int) (hm : has (firstS N n) m) : has N m := by
  rw [← els_mem (first_rt h n) (by omega), els_first h] at hm
  exact (els_mem h (by omega) m).1 (List.mem_of_mem_take hm)
theorem skip_has {N : List S} (h : Rt 0 N) (n m : Int) (hm : has (skipS N n) m) : has N m := by
  rw [← els_mem (skip_rt h n) (by omega), els_skip h] at hm
  exact (els_mem h (by omega) m).1 (List.mem_of_mem_drop hm)
theorem low_has {N : List S} (h : Rt 0 N) (n m : Int) (hm : has (lowF N n) m) : has N m := by
  rw [← els_mem (low_rt N n 0 h) (by omega), els_low N n h.all_le] at hm
  exact (els_mem h (by omega) m).1 (List.mem_of_mem_drop hm)
theorem first_ok {N : List S} (h : Rt 0 N) (ho : Ok N) (n : Int) : Ok (firstS N n) := ok_of (first_rt h n) (by omega) fun m hm => ho.has (first_has h n m hm)
theorem skip_ok {N : List S} (h : Rt 0 N) (ho : Ok N) (n : Int) : Ok (skipS N n) := ok_of (skip_rt h n) (by omega) fun m hm => ho.has (skip_has h n m hm)
theorem low_ok {N : List S} (h : Rt 0 N) (ho : Ok N) (n : Int) : Ok (lowF N n) := ok_of (low_rt N n 0 h) (by omega) fun m hm => ho.has (low_has h n m hm)
end Gv.Sp
/- Contracts: Low, High, Of, Last, First, Skip, IDs. -/
set_option linter.unusedVariables false
set_option linter.unusedSimpArgs false
set_option maxRecDepth 20000
set_option maxHeartbeats 4000000
namespace Gv.Try
open Go Gv Go.Proofs
open Gv.Sp (Lim)

theorem WL_self : ∀ l : List GVal, WL l l
  | [] => trivial
  | x :: r => ⟨by rw [leG_self]; trivial, WL_self r⟩
def highV (N : List Sp.S) : GVal := .tuple [.int .i64 (N.getD (N.length - 1) (0, 0)).2, .bool (decide (0 < N.length))]
theorem sHigh (l : List Sp.S) (t : Tag) (hl : l.length ≤ 4398046511104) (ho : Sp.Ok l) : GPure Try.prog 37 [.slice (spl l) t] (highV (Sp.nf l)) := by
  refine h37.pure mixS (by simp) ?_
  simp only [gstart, s37, List.cons_append, List.nil_append, List.length_cons, List.length_nil, Nat.reduceAdd, Nat.reduceSub, List.replicate_succ, List.replicate_zero]
  simp +contextual -implicitDefEqProofs (maxSteps := 2000000) (disch := omega) only [↓lenV, binV, ↓loadV, ↓fieldAddrV, ↓indexAddrV, GVal.cells, grp, GVal.ofConst, ↓resV, resG, List.map, List.headD, List.take, List.drop, ↓reduceIte, Nat.reduceEqDiff, Nat.reduceAdd, Nat.reduceSub, Nat.reduceLeDiff, reduceCtorEq, implies_true, ne_eq, aggV, Tag.cap, List.replicate, allSolid, GVal.solid, Nat.reduceBEq, Nat.reduceMul, Nat.reduceLT, List.length_map, List.length_range, splice, vcA, ↓vcB, vcC, fbFf, e37]
  refine (sMake l t hl ho).then ?_ (by rfl)
  have hN := Sp.nf_len l
  generalize Sp.nf l = N at *
  by_cases h : N.length = 0
  · have e : N = [] := List.length_eq_zero_iff.1 h
    subst e
    simp +contextual -implicitDefEqProofs (maxSteps := 2000000) (disch := omega) only [↓lenV, binV, ↓loadV, ↓fieldAddrV, ↓indexAddrV, GVal.cells, grp, GVal.ofConst, ↓resV, resG, List.map, List.headD, List.take, List.drop, ↓reduceIte, Nat.reduceEqDiff, Nat.reduceAdd, Nat.reduceSub, Nat.reduceLeDiff, reduceCtorEq, implies_true, ne_eq, aggV, Tag.cap, List.replicate, allSolid, GVal.solid, Nat.reduceBEq, Nat.reduceMul, Nat.reduceLT, List.length_map, List.length_range, splice, vcA, ↓vcB, vcC, fbFf, e37, spl_nil, spl_length]
    exact WL_self _
  · have d0 : ((N.length : Int) = 0) = False := eq_false (by omega)
    have d1 : ((N.length : Int) - 1).toNat = N.length - 1 := by omega
    have eS := spl_at N (N.length - 1) (by omega)
    simp +contextual -implicitDefEqProofs (maxSteps := 2000000) (disch := omega) only [↓lenV, binV, ↓loadV, ↓fieldAddrV, ↓indexAddrV, GVal.cells, grp, GVal.ofConst, ↓resV, resG, List.map, List.headD, List.take, List.drop, ↓reduceIte, Nat.reduceEqDiff, Nat.reduceAdd, Nat.reduceSub, Nat.reduceLeDiff, reduceCtorEq, implies_true, ne_eq, aggV, Tag.cap, List.replicate, allSolid, GVal.solid, Nat.reduceBEq, Nat.reduceMul, Nat.reduceLT, List.length_map, List.length_range, splice, vcA, ↓vcB, vcC, fbFf, e37, spl_length, spG, d0, d1, eS]
    have e : decide (0 < N.length) = true := decide_eq_true (by omega)
    exact ⟨by omega, by omega, by rw [highV, e]; exact WL_self _⟩

theorem sOf (l : List Int) (t : Tag) (hl : l.length ≤ 1000) (hi : ∀ i, -9223372036854775808 ≤ l.getD i 0 ∧ l.getD i 0 ≤ 9223372036854775807) : GPure Try.prog 41 [.slice (ints l) t] (.slice (spl (Sp.nf (l.map fun i => (i, i)))) .none) := by
  have ho : Sp.Ok (l.map fun i => ((i, i) : Sp.S)) := fun s hs => by
    obtain ⟨i, h, rfl⟩ := List.mem_map.1 hs
    obtain ⟨j, hj, rfl⟩ := List.getElem_of_mem h
    have := hi j
    rw [List.getD_eq_getElem?_getD, List.getElem?_eq_getElem hj] at this
    exact ⟨this, this⟩
  refine h41.pure mixS (by simp) ?_
  simp only [gstart, s41, List.cons_append, List.nil_append, List.length_cons, List.length_nil, Nat.reduceAdd, Nat.reduceSub, List.replicate_succ, List.replicate_zero]
  simp +contextual -implicitDefEqProofs (maxSteps := 2000000) (disch := omega) only [↓lenV, binV, optV, ↓loadV, ↓indexAddrV, ↓buildV, ↓buildSliceV, ↓sliceV, ↓appendV, ↓srcV, bound, cutTag, hiTag, fillG, fillE, place, GVal.cells, grp, GVal.ofConst, ↓resV, resG, List.map, List.headD, List.take, List.drop, ↓reduceIte, Nat.reduceEqDiff, Nat.reduceAdd, Nat.reduceSub, Nat.reduceLeDiff, reduceCtorEq, implies_true, ne_eq, ↓asrcV, Tag.cap, List.replicate, allSolid, GVal.solid, Nat.reduceBEq, Nat.reduceMul, Nat.reduceLT, List.length_map, List.length_range, splice, vcA, ↓vcB, vcC, fbFf, e41]
  refine vcSLoop_by (ι := { p : Nat × Nat // p.1 ≤ l.length }) (fun p => ⟨[.any, .any, .any, .slice (spl ((l.take p.1.1).map fun i => (i, i))) (.tok 0 p.1.2), .any, .any, .slice (ints l) t, .int .i64 l.length, .int .i64 (p.1.1 : Nat)] ++ List.replicate 12 .any, [.tok p.1.2 2]⟩) (fun p => l.length - p.1.1) ?_ ?_
  · refine Into.tok 3 2 [] rfl rfl ?_
    simp +contextual -implicitDefEqProofs (maxSteps := 2000000) (disch := omega) only [↓lenV, binV, optV, ↓loadV, ↓indexAddrV, ↓buildV, ↓buildSliceV, ↓sliceV, ↓appendV, ↓srcV, bound, cutTag, hiTag, fillG, fillE, place, GVal.cells, grp, GVal.ofConst, ↓resV, resG, List.map, List.headD, List.take, List.drop, ↓reduceIte, Nat.reduceEqDiff, Nat.reduceAdd, Nat.reduceSub, Nat.reduceLeDiff, reduceCtorEq, implies_true, ne_eq, ↓asrcV, Tag.cap, List.replicate, allSolid, GVal.solid, Nat.reduceBEq, Nat.reduceMul, Nat.reduceLT, List.length_map, List.length_range, splice, vcA, ↓vcB, vcC, fbFf, e41]
    intro t0
    exact Into.first ⟨(0, t0), by omega⟩ ⟨[], by simp⟩ (by simp [WL, leG_self, leG_any, spl_nil])
  · rintro ⟨⟨k, v⟩, hk⟩
    simp only [] at hk
    by_cases h : k < l.length
    · have d0 : ((k : Int) < (l.length : Int)) = True := eq_true (by omega)
      have eN : (l.take (k + 1)).map (fun i => ((i, i) : Sp.S)) = (l.take k).map (fun i => (i, i)) ++ [(l.getD k 0, l.getD k 0)] := by rw [List.take_add_one, List.map_append]; simp [List.getD, h]
      have hz : ((l.take k).map (fun i => ((i, i) : Sp.S))).length ≤ 1000 := by simp; omega
      generalize (l.take k).map (fun i => ((i, i) : Sp.S)) = Z at *
      simp +contextual -implicitDefEqProofs (maxSteps := 2000000) (disch := omega) only [↓lenV, binV, optV, ↓loadV, ↓indexAddrV, ↓buildV, ↓buildSliceV, ↓sliceV, ↓appendV, ↓srcV, bound, cutTag, hiTag, fillG, fillE, place, GVal.cells, grp, GVal.ofConst, ↓resV, resG, List.map, List.headD, List.take, List.drop, ↓reduceIte, Nat.reduceEqDiff, Nat.reduceAdd, Nat.reduceSub, Nat.reduceLeDiff, reduceCtorEq, implies_true, ne_eq, ↓asrcV, Tag.cap, List.replicate, allSolid, GVal.solid, Nat.reduceBEq, Nat.reduceMul, Nat.reduceLT, List.length_map, List.length_range, splice, vcA, ↓vcB, vcC, fbFf, e41, d0, spl_length, all_spl]
      refine ⟨by omega, by omega, by omega, fun st => ?_⟩
      refine Into.at ⟨(k + 1, st), by show k + 1 ≤ _; omega⟩ (by show _ < _; simp; omega) ⟨[], by simp⟩ ?_
      simp [WL, leG_self, leG_any, leG_int, leG_tok, eN, spl_append, spl_cons, spl_nil, spG]
    · have d0 : ((k : Int) < (l.length : Int)) = False := eq_false (by omega)
      rw [List.take_of_length_le (l := l) (i := k) (by omega)]
      simp +contextual -implicitDefEqProofs (maxSteps := 2000000) (disch := omega) only [↓lenV, binV, optV, ↓loadV, ↓indexAddrV, ↓buildV, ↓buildSliceV, ↓sliceV, ↓appendV, ↓srcV, bound, cutTag, hiTag, fillG, fillE, place, GVal.cells, grp, GVal.ofConst, ↓resV, resG, List.map, List.headD, List.take, List.drop, ↓reduceIte, Nat.reduceEqDiff, Nat.reduceAdd, Nat.reduceSub, Nat.reduceLeDiff, reduceCtorEq, implies_true, ne_eq, ↓asrcV, Tag.cap, List.replicate, allSolid, GVal.solid, Nat.reduceBEq, Nat.reduceMul, Nat.reduceLT, List.length_map, List.length_range, splice, vcA, ↓vcB, vcC, fbFf, e41, d0, false_imp_iff, true_and]
      refine (sMake _ _ (by simp; omega) ho).then ?_ (by rfl)
      simp +contextual -implicitDefEqProofs (maxSteps := 2000000) (disch := omega) only [↓lenV, binV, optV, ↓loadV, ↓indexAddrV, ↓buildV, ↓buildSliceV, ↓sliceV, ↓appendV, ↓srcV, bound, cutTag, hiTag, fillG, fillE, place, GVal.cells, grp, GVal.ofConst, ↓resV, resG, List.map, List.headD, List.take, List.drop, ↓reduceIte, Nat.reduceEqDiff, Nat.reduceAdd, Nat.reduceSub, Nat.reduceLeDiff, reduceCtorEq, implies_true, ne_eq, ↓asrcV, Tag.cap, List.replicate, allSolid, GVal.solid, Nat.reduceBEq, Nat.reduceMul, Nat.reduceLT, List.length_map, List.length_range, splice, vcA, ↓vcB, vcC, fbFf, e41]

end Gv.Try
/- Contracts: IDs; the document's First, Last, Skip, IDs, Of. -/
set_option linter.unusedVariables false
set_option linter.unusedSimpArgs false
set_option maxRecDepth 20000
set_option maxHeartbeats 4000000
namespace Gv.Try
open Go Gv Go.Proofs
open Gv.Sp (Lim)
end Gv.Try
/- The laws of chapter 10: three sets. -/
set_option linter.unusedVariables false
set_option linter.unusedSimpArgs false
set_option maxRecDepth 20000
set_option maxHeartbeats 4000000
namespace Gv.Try
open Go Gv Go.Proofs
open Gv.Sp (Lim)
end Gv.Try
/- Contracts: the document's IDs, Of, Skip; all of them for few spans. -/
set_option linter.unusedVariables false
set_option linter.unusedSimpArgs false
set_option maxRecDepth 20000
set_option maxHeartbeats 4000000
namespace Gv.Try
open Go Gv Go.Proofs
open Gv.Sp (Lim)

theorem Lim.first {a : List Sp.S} {m : Nat} (ha : Lim a m) (n : Int) : Lim (Sp.firstS (Sp.nf a) n) m := ⟨by have := Sp.first_len (Sp.nf a) n; have := Sp.nf_len a; have := ha.1; omega, Sp.first_ok (Sp.nf_rt a) (Sp.nf_ok ha.2) n⟩
theorem Lim.skip {a : List Sp.S} {m : Nat} (ha : Lim a m) (n : Int) : Lim (Sp.skipS (Sp.nf a) n) m := ⟨by have := Sp.skip_len (Sp.nf a) n; have := Sp.nf_len a; have := ha.1; omega, Sp.skip_ok (Sp.nf_rt a) (Sp.nf_ok ha.2) n⟩
theorem Lim.low {a : List Sp.S} {m : Nat} (ha : Lim a m) (n : Int) : Lim (Sp.lowF (Sp.nf a) n) m := ⟨by have := Sp.lowF_len (Sp.nf a) n; have := Sp.nf_len a; have := ha.1; omega, Sp.low_ok (Sp.nf_rt a) (Sp.nf_ok ha.2) n⟩
end Gv.Try
/- The plain law of growing. -/
set_option linter.unusedVariables false
set_option maxRecDepth 20000
set_option linter.unusedSimpArgs false
namespace Gv.Try
open Go Gv Go.Proofs

end Gv.Try

/- The law FlatGrows gives true. -/
set_option linter.unusedVariables false
set_option linter.unusedSimpArgs false
set_option maxRecDepth 20000
namespace Gv.Try
open Go Gv Go.Proofs

end Gv.Try

