/- Contracts: taproothand's Request: some request, within bounds. -/
import Derived.Test.YtnenmmdpclglhaaP13
import Derived.Test.YtnenmmdpclglhaaP12
set_option linter.unusedVariables false
set_option linter.unusedSimpArgs false
set_option maxRecDepth 200000
set_option maxHeartbeats 8000000
namespace Gv.Try
open Go Gv Go.Proofs
abbrev RC := Int × Int × List Int
def rawC (r : RC) : List GVal := [.int .i64 r.1, .int .i64 r.2.1, .slice (ints r.2.2) .none]
def rawsG (l : List RC) : List (List GVal) := l.map rawC
instance : Inhabited RC := ⟨(0, 0, [])⟩
theorem rawsG_len (l : List RC) : (rawsG l).length = l.length := by simp [rawsG]
theorem rawsG_at (l : List RC) (i : Nat) (h : i < l.length) : (rawsG l).getD i [] = rawC (l.getD i default) := by simp [rawsG, List.getD, h]
structure RR where
  l : List RC
  hs : List Int
  g : Int
  how : Int
abbrev rrG (x : RR) : List GVal := [.slice (rawsG x.l) .none, .slice (ints x.hs) .none, .int .i64 x.g, .int .i64 x.how]
structure ReqOK (cs : List Cm) (hs : List Hs) : Prop where
  len : cs.length ≤ 72
  par : ∀ c ∈ cs, c.2.length ≤ 8
  hd : hs.length ≤ 5
theorem dropZ (y : GVal) : List.drop 33 ([.int .u8 0, .int .u8 0, .int .u8 0, .int .u8 0, .int .u8 0, .int .u8 0, .int .u8 0, .int .u8 0, .int .u8 0, .int .u8 0, .int .u8 0, .int .u8 0, .int .u8 0, .int .u8 0, .int .u8 0, .int .u8 0, .int .u8 0, .int .u8 0, .int .u8 0, .int .u8 0, .int .u8 0, .int .u8 0, .int .u8 0, .int .u8 0, .int .u8 0, .int .u8 0, .int .u8 0, .int .u8 0, .int .u8 0, .int .u8 0, .int .u8 0, .int .u8 0, y] : List GVal) = [] := rfl
theorem at33 (h : Hs) (y : GVal) : (bytesG h.1 ++ [y])[32]? = some y := by rw [List.getElem?_append_right (by rw [len32]; omega), len32]; rfl
theorem set33 (h : Hs) (y z : GVal) : (bytesG h.1 ++ [y]).set 32 z = bytesG h.1 ++ [z] := by rw [List.set_append_right _ _ (by rw [len32]; omega), len32]; rfl
theorem nineH : ([.int .u8 9, .int .u8 0, .int .u8 0, .int .u8 0, .int .u8 0, .int .u8 0, .int .u8 0, .int .u8 0, .int .u8 0, .int .u8 0, .int .u8 0, .int .u8 0, .int .u8 0, .int .u8 0, .int .u8 0, .int .u8 0, .int .u8 0, .int .u8 0, .int .u8 0, .int .u8 0, .int .u8 0, .int .u8 0, .int .u8 0, .int .u8 0, .int .u8 0, .int .u8 0, .int .u8 0, .int .u8 0, .int .u8 0, .int .u8 0, .int .u8 0, .int .u8 0] : List GVal) = bytesG (hq 9 0 0).1 := rfl
theorem nine_snoc (hs : List Hs) : hsG hs ++ [bytesG (hq 9 0 0).1] = hsG (hs ++ [hq 9 0 0]) := by simp [hsG]
theorem fin_le (cs : List Cm) (hs : List Hs) (a b : Tag) (gr : Int) : leA (.agg [.slice (csG cs) a, .slice (hsG hs) b, .int .i64 gr]) (.agg (reqG cs hs .none gr)) := by
  simp [leA, WL, leG_self, leG_none]
def bls (B : List Bool) : List GVal := B.map .bool
theorem bls_len (B : List Bool) : (bls B).length = B.length := by simp [bls]
theorem bls_set (B : List Bool) (k : Nat) (b : Bool) : (bls B).set k (.bool b) = bls (B.set k b) := by simp [bls, List.map_set]
theorem bls_at (B : List Bool) (k : Nat) (h : k < B.length) : List.take 1 (List.drop (k * 1) (bls B)) = [.bool (B.getD k false)] := by
  rw [Nat.mul_one]
  have e : (bls B).drop k = .bool (B.getD k false) :: (bls B).drop (k + 1) := by
    rw [List.drop_eq_getElem_cons (by rw [bls_len]; exact h)]; simp [bls, List.getD, h]
  rw [e]; rfl
theorem bls_put (B : List Bool) (m : Nat) (h : m < B.length) : List.take (m * 1) (bls B) ++ [.bool true] ++ List.drop (m * 1 + 1) (bls B) = bls (B.set m true) := by
  rw [Nat.mul_one, ← bls_set, List.set_eq_take_append_cons_drop, if_pos (by rw [bls_len]; exact h)]; simp
theorem count_set : ∀ (B : List Bool) (m : Nat), m < B.length → B.getD m false = false → (B.set m true).count false + 1 = B.count false
  | [], m, h, _ => by simp at h
  | b :: r, 0, h, e => by
    have : b = false := by simpa using e
    subst this; simp
  | b :: r, m + 1, h, e => by
    have := count_set r m (by simpa using h) (by simpa using e)
    rw [List.set_cons_succ, List.count_cons, List.count_cons]; omega
theorem take_ints (l : List Int) (n : Nat) : (ints l).take n = ints (l.take n) := by simp [ints, List.map_take]
abbrev rqZ : List GVal := [.slice [] .nil, .slice [] .nil, .int .i64 0]
theorem gRequest (x : RR) : GCalls Try.prog 7 [.agg (rrG x)] [] (fun g O' => ∃ cs hs gr, ReqOK cs hs ∧ g = .agg (reqG cs hs .none gr) ∧ O' = []) := by
  have g1 := Int.emod_nonneg x.g (by decide : (2 : Int) ≠ 0)
  have g2 := Int.emod_lt_of_pos x.g (by decide : (0 : Int) < 2)
  have cG := sPick x.g 2 (by omega) (by omega)
  refine GCalls.dropTo ?_
  refine h7.calls mixS (by simp) ?_
  simp only [gstart, s7, List.cons_append, List.nil_append, List.length_cons, List.length_nil, Nat.reduceAdd, Nat.reduceSub, List.replicate_succ, List.replicate_zero]
  simp +contextual -implicitDefEqProofs (maxSteps := 2000000) (disch := omega) only [drawC, drawK, keepT, ↓lenV, binV, optV, ↓loadV, ↓storeV, ↓fieldAddrV, ↓indexAddrV, ↓allocV, ↓boxV, ↓buildV, ↓buildSliceV, ↓sliceV, ↓appendV, ↓srcV, ↓minV, bound, cutTag, hiTag, fillG, fillE, place, GVal.cells, grp, GVal.ofConst, ↓resV, resG, List.map, List.headD, List.take, List.drop, ↓reduceIte, Nat.reduceEqDiff, Nat.reduceAdd, Nat.reduceSub, Nat.reduceLeDiff, reduceCtorEq, implies_true, ne_eq, ↓asrcV, aggV, Tag.cap, List.replicate, allSolid, GVal.solid, Nat.reduceBEq, Nat.reduceMul, Nat.reduceLT, List.length_map, List.length_range, splice, vcA, ↓vcB, vcC, fbFe, e7]
  intro s2
  refine cG.then ?_ (by rfl)
  simp +contextual -implicitDefEqProofs (maxSteps := 2000000) (disch := omega) only [drawC, drawK, keepT, ↓lenV, binV, optV, ↓loadV, ↓storeV, ↓fieldAddrV, ↓indexAddrV, ↓allocV, ↓boxV, ↓buildV, ↓buildSliceV, ↓sliceV, ↓appendV, ↓srcV, ↓minV, bound, cutTag, hiTag, fillG, fillE, place, GVal.cells, grp, GVal.ofConst, ↓resV, resG, List.map, List.headD, List.take, List.drop, ↓reduceIte, Nat.reduceEqDiff, Nat.reduceAdd, Nat.reduceSub, Nat.reduceLeDiff, reduceCtorEq, implies_true, ne_eq, ↓asrcV, aggV, Tag.cap, List.replicate, allSolid, GVal.solid, Nat.reduceBEq, Nat.reduceMul, Nat.reduceLT, List.length_map, List.length_range, splice, vcA, ↓vcB, vcC, fbFe, e7]
  intro s3
  obtain ⟨gr, hgr⟩ : ∃ gr, 1 + x.g % 2 = gr := ⟨_, rfl⟩
  rw [hgr]
  refine vcSLoop_by (ι := { p : (Nat × List Cm) × Nat // p.1.1 ≤ x.l.length ∧ p.1.1 ≤ 12 ∧ p.1.2.length ≤ p.1.1 ∧ ∀ c ∈ p.1.2, c.2.length ≤ 8 }) (fun p => ⟨[.any, .ref (rrG x), .ptr 0 s2 0 0, .ptr 1 s3 0 0, .int .i64 (p.1.1.1 : Nat)] ++ List.replicate 242 .any, [.row s2 3 [rqZ], .row s3 3 [[.slice (csG p.1.1.2) (.tok 2 p.1.2), .slice [] .nil, .int .i64 gr]], .tok p.1.2 33]⟩) (fun p => 12 - p.1.1.1) ?_ ?_
  · refine Into.cellTok 1 0 33 [] rfl rfl rfl rfl ?_
    simp +contextual -implicitDefEqProofs (maxSteps := 2000000) (disch := omega) only [drawC, drawK, keepT, ↓lenV, binV, optV, ↓loadV, ↓storeV, ↓fieldAddrV, ↓indexAddrV, ↓allocV, ↓boxV, ↓buildV, ↓buildSliceV, ↓sliceV, ↓appendV, ↓srcV, ↓minV, bound, cutTag, hiTag, fillG, fillE, place, GVal.cells, grp, GVal.ofConst, ↓resV, resG, List.map, List.headD, List.take, List.drop, ↓reduceIte, Nat.reduceEqDiff, Nat.reduceAdd, Nat.reduceSub, Nat.reduceLeDiff, reduceCtorEq, implies_true, ne_eq, ↓asrcV, aggV, Tag.cap, List.replicate, allSolid, GVal.solid, Nat.reduceBEq, Nat.reduceMul, Nat.reduceLT, List.length_map, List.length_range, splice, vcA, ↓vcB, vcC, fbFe, e7]
    intro sc
    exact Into.first ⟨((0, []), sc), Nat.zero_le _, by show 0 ≤ 12; omega, by simp, by simp⟩ ⟨[], rfl⟩ (by simp [WL, leG_self, leG_any])
  · rintro ⟨⟨⟨i, cs⟩, sc⟩, hil, hi, hcl, hcp⟩
    change i ≤ x.l.length at hil
    change i ≤ 12 at hi
    change cs.length ≤ i at hcl
    have hcp : ∀ c ∈ cs, c.2.length ≤ 8 := hcp
    by_cases h : i < x.l.length ∧ i < 12
    · have hx12 := h
      have d0 : ((i : Int) < (x.l.length : Int)) = True := eq_true (by omega)
      have d1 : ((i : Int) < 12) = True := eq_true (by omega)
      have eR := rawsG_at x.l i h.1
      generalize x.l.getD i default = r at *
      obtain ⟨rn, rh, rp⟩ := r
      have n1 := Int.emod_nonneg rn (by decide : (60 : Int) ≠ 0)
      have n2 := Int.emod_lt_of_pos rn (by decide : (0 : Int) < 60)
      have cN := sPick rn 60 (by omega) (by omega)
      obtain ⟨n, hn⟩ : ∃ n, rn % 60 = n := ⟨_, rfl⟩
      rw [hn] at cN n1 n2
      have cA := gAhead n n1 n2
      have lA := aheadL_len n
      obtain ⟨A, hA⟩ : ∃ A, aheadL n = A := ⟨_, rfl⟩
      rw [hA] at cA lA
      obtain ⟨h, hh⟩ : ∃ h, hashF n = h := ⟨_, rfl⟩
      have cHn := hHashF n
      rw [hh] at cHn
      simp +contextual -implicitDefEqProofs (maxSteps := 2000000) (disch := omega) only [drawC, drawK, keepT, ↓lenV, binV, optV, ↓loadV, ↓storeV, ↓fieldAddrV, ↓indexAddrV, ↓allocV, ↓boxV, ↓buildV, ↓buildSliceV, ↓sliceV, ↓appendV, ↓srcV, ↓minV, bound, cutTag, hiTag, fillG, fillE, place, GVal.cells, grp, GVal.ofConst, ↓resV, resG, List.map, List.headD, List.take, List.drop, ↓reduceIte, Nat.reduceEqDiff, Nat.reduceAdd, Nat.reduceSub, Nat.reduceLeDiff, reduceCtorEq, implies_true, ne_eq, ↓asrcV, aggV, Tag.cap, List.replicate, allSolid, GVal.solid, Nat.reduceBEq, Nat.reduceMul, Nat.reduceLT, List.length_map, List.length_range, splice, vcA, ↓vcB, vcC, fbFe, e7, d0, d1, eR, rawC, rawsG_len]
      have k10 : ((1 : Int) = 0) = False := eq_false (by decide)
      have k20 : ((2 : Int) = 0) = False := eq_false (by decide)
      have k21 : ((2 : Int) = 1) = False := eq_false (by decide)
      refine ⟨by omega, fun u => ?_⟩
      refine cN.then ?_ (by rfl)
      simp +contextual -implicitDefEqProofs (maxSteps := 2000000) (disch := omega) only [drawC, drawK, keepT, ↓lenV, binV, optV, ↓loadV, ↓storeV, ↓fieldAddrV, ↓indexAddrV, ↓allocV, ↓boxV, ↓buildV, ↓buildSliceV, ↓sliceV, ↓appendV, ↓srcV, ↓minV, bound, cutTag, hiTag, fillG, fillE, place, GVal.cells, grp, GVal.ofConst, ↓resV, resG, List.map, List.headD, List.take, List.drop, ↓reduceIte, Nat.reduceEqDiff, Nat.reduceAdd, Nat.reduceSub, Nat.reduceLeDiff, reduceCtorEq, implies_true, ne_eq, ↓asrcV, aggV, Tag.cap, List.replicate, allSolid, GVal.solid, Nat.reduceBEq, Nat.reduceMul, Nat.reduceLT, List.length_map, List.length_range, splice, vcA, ↓vcB, vcC, fbFe, e7]
      refine cHn.then ?_ (by rfl)
      have q1' := Int.emod_nonneg rh (by decide : (60 : Int) ≠ 0)
      have q2' := Int.emod_lt_of_pos rh (by decide : (0 : Int) < 60)
      have cQ := sPick rh 60 (by omega) (by omega)
      obtain ⟨q, hq⟩ : ∃ q, rh % 60 = q := ⟨_, rfl⟩
      rw [hq] at cQ q1' q2'
      simp +contextual -implicitDefEqProofs (maxSteps := 2000000) (disch := omega) only [drawC, drawK, keepT, ↓lenV, binV, optV, ↓loadV, ↓storeV, ↓fieldAddrV, ↓indexAddrV, ↓allocV, ↓boxV, ↓buildV, ↓buildSliceV, ↓sliceV, ↓appendV, ↓srcV, ↓minV, bound, cutTag, hiTag, fillG, fillE, place, GVal.cells, grp, GVal.ofConst, ↓resV, resG, List.map, List.headD, List.take, List.drop, ↓reduceIte, Nat.reduceEqDiff, Nat.reduceAdd, Nat.reduceSub, Nat.reduceLeDiff, reduceCtorEq, implies_true, ne_eq, ↓asrcV, aggV, Tag.cap, List.replicate, allSolid, GVal.solid, Nat.reduceBEq, Nat.reduceMul, Nat.reduceLT, List.length_map, List.length_range, splice, vcA, ↓vcB, vcC, fbFe, e7, dropZ, List.append_nil, take32a, drop32a, drop33a, take33a, len33, solid33, solidH, len32, take32, drop32y, hsG_len, csG_len, rawsG_len, ints_len, all_hsG, all_csG, all_ints, if32, one32, set33, k10, k20, k21, false_imp_iff, true_imp_iff, not_false_eq_true, not_true_eq_false, true_and, and_true, setO_6, setO_7]
      intro v
      refine cA.then ?_ (by rfl)
      simp +contextual -implicitDefEqProofs (maxSteps := 2000000) (disch := omega) only [drawC, drawK, keepT, ↓lenV, binV, optV, ↓loadV, ↓storeV, ↓fieldAddrV, ↓indexAddrV, ↓allocV, ↓boxV, ↓buildV, ↓buildSliceV, ↓sliceV, ↓appendV, ↓srcV, ↓minV, bound, cutTag, hiTag, fillG, fillE, place, GVal.cells, grp, GVal.ofConst, ↓resV, resG, List.map, List.headD, List.take, List.drop, ↓reduceIte, Nat.reduceEqDiff, Nat.reduceAdd, Nat.reduceSub, Nat.reduceLeDiff, reduceCtorEq, implies_true, ne_eq, ↓asrcV, aggV, Tag.cap, List.replicate, allSolid, GVal.solid, Nat.reduceBEq, Nat.reduceMul, Nat.reduceLT, List.length_map, List.length_range, splice, vcA, ↓vcB, vcC, fbFe, e7, dropZ, List.append_nil, take32a, drop32a, drop33a, take33a, len33, solid33, solidH, len32, take32, drop32y, hsG_len, csG_len, rawsG_len, ints_len, all_hsG, all_csG, all_ints, if32, one32, set33, k10, k20, k21, false_imp_iff, true_imp_iff, not_false_eq_true, not_true_eq_false, true_and, and_true, setO_6, setO_7]
      refine vcSLoop_by (ι := { p : (Nat × List Hs) × Nat // p.1.1 ≤ A.length ∧ p.1.2.length = p.1.1 }) (fun p => ⟨[.any, .ref (rrG x), .ptr 0 s2 0 0, .ptr 1 s3 0 0, .int .i64 (i : Nat), .ptr 3 u 0 0, .int .i64 n, .ptr 4 v 0 0, .slice (ints A) .none, .int .i64 (p.1.1.1 : Nat)] ++ List.replicate 237 .any, [.row s2 3 [rqZ], .row s3 3 [[.slice (csG cs) (.tok 2 sc), .slice [] .nil, .int .i64 gr]], .tok sc 33, .row u 3 [[.int .i64 rn, .int .i64 rh, .slice (ints rp) .none]], .row v 33 [bytesG h.1 ++ [.slice (hsG p.1.1.2) (.tok 5 p.1.2)]], .tok p.1.2 32]⟩) (fun p => A.length - p.1.1.1) ?_ ?_
      · refine Into.cellTok 4 32 32 [] (tg := .nil) rfl (at33 h _) rfl (len33 h _) ?_
        simp +contextual -implicitDefEqProofs (maxSteps := 2000000) (disch := omega) only [drawC, drawK, keepT, ↓lenV, binV, optV, ↓loadV, ↓storeV, ↓fieldAddrV, ↓indexAddrV, ↓allocV, ↓boxV, ↓buildV, ↓buildSliceV, ↓sliceV, ↓appendV, ↓srcV, ↓minV, bound, cutTag, hiTag, fillG, fillE, place, GVal.cells, grp, GVal.ofConst, ↓resV, resG, List.map, List.headD, List.take, List.drop, ↓reduceIte, Nat.reduceEqDiff, Nat.reduceAdd, Nat.reduceSub, Nat.reduceLeDiff, reduceCtorEq, implies_true, ne_eq, ↓asrcV, aggV, Tag.cap, List.replicate, allSolid, GVal.solid, Nat.reduceBEq, Nat.reduceMul, Nat.reduceLT, List.length_map, List.length_range, splice, vcA, ↓vcB, vcC, fbFe, e7]
        intro sp
        exact Into.first ⟨((0, []), sp), Nat.zero_le _, rfl⟩ ⟨[], by simp [set33, hsG]⟩ (by simp [WL, leG_self, leG_any])
      · rintro ⟨⟨⟨j, ps⟩, sp⟩, hj, hpl⟩
        change j ≤ A.length at hj
        change ps.length = j at hpl
        by_cases h' : j < A.length
        · have d2 : ((j : Int) < (A.length : Int)) = True := eq_true (by omega)
          have eA := ints_at A j h'
          generalize A.getD j 0 = a at *
          have cHa := hHashF a
          obtain ⟨y, hy⟩ : ∃ y, hashF a = y := ⟨_, rfl⟩
          rw [hy] at cHa
          simp +contextual -implicitDefEqProofs (maxSteps := 2000000) (disch := omega) only [drawC, drawK, keepT, ↓lenV, binV, optV, ↓loadV, ↓storeV, ↓fieldAddrV, ↓indexAddrV, ↓allocV, ↓boxV, ↓buildV, ↓buildSliceV, ↓sliceV, ↓appendV, ↓srcV, ↓minV, bound, cutTag, hiTag, fillG, fillE, place, GVal.cells, grp, GVal.ofConst, ↓resV, resG, List.map, List.headD, List.take, List.drop, ↓reduceIte, Nat.reduceEqDiff, Nat.reduceAdd, Nat.reduceSub, Nat.reduceLeDiff, reduceCtorEq, implies_true, ne_eq, ↓asrcV, aggV, Tag.cap, List.replicate, allSolid, GVal.solid, Nat.reduceBEq, Nat.reduceMul, Nat.reduceLT, List.length_map, List.length_range, splice, vcA, ↓vcB, vcC, fbFe, e7, dropZ, List.append_nil, take32a, drop32a, drop33a, take33a, len33, solid33, solidH, len32, take32, drop32y, hsG_len, csG_len, rawsG_len, ints_len, all_hsG, all_csG, all_ints, if32, one32, set33, k10, k20, k21, false_imp_iff, true_imp_iff, not_false_eq_true, not_true_eq_false, true_and, and_true, setO_6, setO_7, d2, eA]
          refine ⟨by omega, ?_⟩
          refine cHa.then ?_ (by rfl)
          simp +contextual -implicitDefEqProofs (maxSteps := 2000000) (disch := omega) only [drawC, drawK, keepT, ↓lenV, binV, optV, ↓loadV, ↓storeV, ↓fieldAddrV, ↓indexAddrV, ↓allocV, ↓boxV, ↓buildV, ↓buildSliceV, ↓sliceV, ↓appendV, ↓srcV, ↓minV, bound, cutTag, hiTag, fillG, fillE, place, GVal.cells, grp, GVal.ofConst, ↓resV, resG, List.map, List.headD, List.take, List.drop, ↓reduceIte, Nat.reduceEqDiff, Nat.reduceAdd, Nat.reduceSub, Nat.reduceLeDiff, reduceCtorEq, implies_true, ne_eq, ↓asrcV, aggV, Tag.cap, List.replicate, allSolid, GVal.solid, Nat.reduceBEq, Nat.reduceMul, Nat.reduceLT, List.length_map, List.length_range, splice, vcA, ↓vcB, vcC, fbFe, e7, dropZ, List.append_nil, take32a, drop32a, drop33a, take33a, len33, solid33, solidH, len32, take32, drop32y, hsG_len, csG_len, rawsG_len, ints_len, all_hsG, all_csG, all_ints, if32, one32, set33, k10, k20, k21, false_imp_iff, true_imp_iff, not_false_eq_true, not_true_eq_false, true_and, and_true, setO_6, setO_7]
          refine ⟨⟨[], by simp⟩, by omega, by omega, fun sp' => ?_⟩
          exact Into.at ⟨((j + 1, ps ++ [y]), sp'), by show j + 1 ≤ A.length; omega, by show (ps ++ [y]).length = j + 1; rw [List.length_append, List.length_singleton, hpl]⟩ (by show A.length - (j + 1) < A.length - j; omega) ⟨[], by simp [hsG_app, hsG]⟩ (by simp [WL, leG_self, leG_any, leG_int])
        · have d2 : ((j : Int) < (A.length : Int)) = False := eq_false (by omega)
          by_cases q0 : q = 0
          · subst q0
            simp +contextual -implicitDefEqProofs (maxSteps := 2000000) (disch := omega) only [drawC, drawK, keepT, ↓lenV, binV, optV, ↓loadV, ↓storeV, ↓fieldAddrV, ↓indexAddrV, ↓allocV, ↓boxV, ↓buildV, ↓buildSliceV, ↓sliceV, ↓appendV, ↓srcV, ↓minV, bound, cutTag, hiTag, fillG, fillE, place, GVal.cells, grp, GVal.ofConst, ↓resV, resG, List.map, List.headD, List.take, List.drop, ↓reduceIte, Nat.reduceEqDiff, Nat.reduceAdd, Nat.reduceSub, Nat.reduceLeDiff, reduceCtorEq, implies_true, ne_eq, ↓asrcV, aggV, Tag.cap, List.replicate, allSolid, GVal.solid, Nat.reduceBEq, Nat.reduceMul, Nat.reduceLT, List.length_map, List.length_range, splice, vcA, ↓vcB, vcC, fbFe, e7, dropZ, List.append_nil, take32a, drop32a, drop33a, take33a, len33, solid33, solidH, len32, take32, drop32y, hsG_len, csG_len, rawsG_len, ints_len, all_hsG, all_csG, all_ints, if32, one32, set33, k10, k20, k21, false_imp_iff, true_imp_iff, not_false_eq_true, not_true_eq_false, true_and, and_true, setO_6, setO_7, d2]
            refine cQ.then ?_ (by rfl)
            simp +contextual -implicitDefEqProofs (maxSteps := 2000000) (disch := omega) only [drawC, drawK, keepT, ↓lenV, binV, optV, ↓loadV, ↓storeV, ↓fieldAddrV, ↓indexAddrV, ↓allocV, ↓boxV, ↓buildV, ↓buildSliceV, ↓sliceV, ↓appendV, ↓srcV, ↓minV, bound, cutTag, hiTag, fillG, fillE, place, GVal.cells, grp, GVal.ofConst, ↓resV, resG, List.map, List.headD, List.take, List.drop, ↓reduceIte, Nat.reduceEqDiff, Nat.reduceAdd, Nat.reduceSub, Nat.reduceLeDiff, reduceCtorEq, implies_true, ne_eq, ↓asrcV, aggV, Tag.cap, List.replicate, allSolid, GVal.solid, Nat.reduceBEq, Nat.reduceMul, Nat.reduceLT, List.length_map, List.length_range, splice, vcA, ↓vcB, vcC, fbFe, e7, dropZ, List.append_nil, take32a, drop32a, drop33a, take33a, len33, solid33, solidH, len32, take32, drop32y, hsG_len, csG_len, rawsG_len, ints_len, all_hsG, all_csG, all_ints, if32, one32, set33, k10, k20, k21, false_imp_iff, true_imp_iff, not_false_eq_true, not_true_eq_false, true_and, and_true, setO_6, setO_7]
            refine vcSLoop_by (ι := { p : (Nat × List Hs) × Nat // p.1.1 ≤ rp.length ∧ p.1.1 ≤ 6 ∧ p.1.2.length ≤ 2 + p.1.1 }) (fun p => ⟨[.any, .ref (rrG x), .ptr 0 s2 0 0, .ptr 1 s3 0 0, .int .i64 (i : Nat), .ptr 3 u 0 0, .int .i64 n, .ptr 4 v 0 0, .any, .any, .int .i64 (p.1.1.1 : Nat)] ++ List.replicate 236 .any, [.row s2 3 [rqZ], .row s3 3 [[.slice (csG cs) (.tok 2 sc), .slice [] .nil, .int .i64 gr]], .tok sc 33, .row u 3 [[.int .i64 rn, .int .i64 rh, .slice (ints rp) .none]], .row v 33 [bytesG h.1 ++ [.slice (hsG p.1.1.2) (.tok 5 p.1.2)]], .tok p.1.2 32]⟩) (fun p => 6 - p.1.1.1) ?_ ?_
            · exact Into.first ⟨((0, ps), sp), Nat.zero_le _, Nat.zero_le _, by show ps.length ≤ 2 + 0; omega⟩ ⟨[], by simp⟩ (by simp [WL, leG_self, leG_any])
            · rintro ⟨⟨⟨k, ps⟩, sp⟩, hk, hk6, hpl⟩
              change k ≤ rp.length at hk
              change k ≤ 6 at hk6
              change ps.length ≤ 2 + k at hpl
              by_cases hk' : k < rp.length ∧ k < 6
              · have d3 : ((k : Int) < (rp.length : Int)) = True := eq_true (by omega)
                have d4 : ((k : Int) < 6) = True := eq_true (by omega)
                have eB := ints_at rp k hk'.1
                generalize rp.getD k 0 = a at *
                have cHa := hHashF a
                obtain ⟨y, hy⟩ : ∃ y, hashF a = y := ⟨_, rfl⟩
                rw [hy] at cHa
                simp +contextual -implicitDefEqProofs (maxSteps := 2000000) (disch := omega) only [drawC, drawK, keepT, ↓lenV, binV, optV, ↓loadV, ↓storeV, ↓fieldAddrV, ↓indexAddrV, ↓allocV, ↓boxV, ↓buildV, ↓buildSliceV, ↓sliceV, ↓appendV, ↓srcV, ↓minV, bound, cutTag, hiTag, fillG, fillE, place, GVal.cells, grp, GVal.ofConst, ↓resV, resG, List.map, List.headD, List.take, List.drop, ↓reduceIte, Nat.reduceEqDiff, Nat.reduceAdd, Nat.reduceSub, Nat.reduceLeDiff, reduceCtorEq, implies_true, ne_eq, ↓asrcV, aggV, Tag.cap, List.replicate, allSolid, GVal.solid, Nat.reduceBEq, Nat.reduceMul, Nat.reduceLT, List.length_map, List.length_range, splice, vcA, ↓vcB, vcC, fbFe, e7, dropZ, List.append_nil, take32a, drop32a, drop33a, take33a, len33, solid33, solidH, len32, take32, drop32y, hsG_len, csG_len, rawsG_len, ints_len, all_hsG, all_csG, all_ints, if32, one32, set33, k10, k20, k21, false_imp_iff, true_imp_iff, not_false_eq_true, not_true_eq_false, true_and, and_true, setO_6, setO_7, d3, d4, eB]
                refine ⟨by omega, ?_⟩
                refine cHa.then ?_ (by rfl)
                simp +contextual -implicitDefEqProofs (maxSteps := 2000000) (disch := omega) only [drawC, drawK, keepT, ↓lenV, binV, optV, ↓loadV, ↓storeV, ↓fieldAddrV, ↓indexAddrV, ↓allocV, ↓boxV, ↓buildV, ↓buildSliceV, ↓sliceV, ↓appendV, ↓srcV, ↓minV, bound, cutTag, hiTag, fillG, fillE, place, GVal.cells, grp, GVal.ofConst, ↓resV, resG, List.map, List.headD, List.take, List.drop, ↓reduceIte, Nat.reduceEqDiff, Nat.reduceAdd, Nat.reduceSub, Nat.reduceLeDiff, reduceCtorEq, implies_true, ne_eq, ↓asrcV, aggV, Tag.cap, List.replicate, allSolid, GVal.solid, Nat.reduceBEq, Nat.reduceMul, Nat.reduceLT, List.length_map, List.length_range, splice, vcA, ↓vcB, vcC, fbFe, e7, dropZ, List.append_nil, take32a, drop32a, drop33a, take33a, len33, solid33, solidH, len32, take32, drop32y, hsG_len, csG_len, rawsG_len, ints_len, all_hsG, all_csG, all_ints, if32, one32, set33, k10, k20, k21, false_imp_iff, true_imp_iff, not_false_eq_true, not_true_eq_false, true_and, and_true, setO_6, setO_7]
                refine ⟨⟨[], by simp⟩, by omega, by omega, fun sp' => ?_⟩
                exact Into.at ⟨((k + 1, ps ++ [y]), sp'), by show k + 1 ≤ rp.length; omega, by show k + 1 ≤ 6; omega, by show (ps ++ [y]).length ≤ 2 + (k + 1); rw [List.length_append, List.length_singleton]; omega⟩ (by show 6 - (k + 1) < 6 - k; omega) ⟨[], by simp [hsG_app, hsG]⟩ (by simp [WL, leG_self, leG_any, leG_int])
              · by_cases hk1 : k < rp.length
                · have d3 : ((k : Int) < (rp.length : Int)) = True := eq_true (by omega)
                  have d4 : ((k : Int) < 6) = False := eq_false (by omega)
                  simp +contextual -implicitDefEqProofs (maxSteps := 2000000) (disch := omega) only [drawC, drawK, keepT, ↓lenV, binV, optV, ↓loadV, ↓storeV, ↓fieldAddrV, ↓indexAddrV, ↓allocV, ↓boxV, ↓buildV, ↓buildSliceV, ↓sliceV, ↓appendV, ↓srcV, ↓minV, bound, cutTag, hiTag, fillG, fillE, place, GVal.cells, grp, GVal.ofConst, ↓resV, resG, List.map, List.headD, List.take, List.drop, ↓reduceIte, Nat.reduceEqDiff, Nat.reduceAdd, Nat.reduceSub, Nat.reduceLeDiff, reduceCtorEq, implies_true, ne_eq, ↓asrcV, aggV, Tag.cap, List.replicate, allSolid, GVal.solid, Nat.reduceBEq, Nat.reduceMul, Nat.reduceLT, List.length_map, List.length_range, splice, vcA, ↓vcB, vcC, fbFe, e7, dropZ, List.append_nil, take32a, drop32a, drop33a, take33a, len33, solid33, solidH, len32, take32, drop32y, hsG_len, csG_len, rawsG_len, ints_len, all_hsG, all_csG, all_ints, if32, one32, set33, k10, k20, k21, false_imp_iff, true_imp_iff, not_false_eq_true, not_true_eq_false, true_and, and_true, setO_6, setO_7, d3, d4]
                  refine ⟨by omega, by omega, fun st => ?_⟩
                  refine Into.rowLe (t := s3) (sz := 3) 1 [[.slice (csG cs ++ [bytesG h.1 ++ [.slice (hsG (ps)) (.tok 5 sp)]]) (.tok 2 st), .slice [] .nil, .int .i64 gr]] [[.slice (csG (cs ++ [(h, ps)])) (.tok 2 st), .slice [] .nil, .int .i64 gr]] (by simp [hsG_app, hsG]) ⟨⟨GLe.slice (by rw [csG_app]; exact GLess.app (GLess.refl _) ⟨GLes_com _ _ _, trivial⟩), GLe.refl _, GLe.refl _, trivial⟩, trivial⟩ ?_
                  refine Into.at ⟨((i + 1, cs ++ [(h, ps)]), st), by show i + 1 ≤ x.l.length; omega, by show i + 1 ≤ 12; omega, by show (cs ++ [(h, ps)]).length ≤ i + 1; rw [List.length_append, List.length_singleton]; omega, fun c hc => ?_⟩ (by show 12 - (i + 1) < 12 - i; omega) ⟨[.row u 3 [[.int .i64 rn, .int .i64 rh, .slice (ints rp) .none]], .row v 33 [bytesG h.1 ++ [.slice (hsG ps) (.tok 5 sp)]], .tok sp 32], rfl⟩ (by simp [WL, leG_self, leG_any, leG_int])
                  rcases List.mem_append.1 hc with q | q
                  · exact hcp c q
                  · rw [List.mem_singleton.1 q]; show ps.length ≤ 8; omega
                · have d3 : ((k : Int) < (rp.length : Int)) = False := eq_false (by omega)
                  simp +contextual -implicitDefEqProofs (maxSteps := 2000000) (disch := omega) only [drawC, drawK, keepT, ↓lenV, binV, optV, ↓loadV, ↓storeV, ↓fieldAddrV, ↓indexAddrV, ↓allocV, ↓boxV, ↓buildV, ↓buildSliceV, ↓sliceV, ↓appendV, ↓srcV, ↓minV, bound, cutTag, hiTag, fillG, fillE, place, GVal.cells, grp, GVal.ofConst, ↓resV, resG, List.map, List.headD, List.take, List.drop, ↓reduceIte, Nat.reduceEqDiff, Nat.reduceAdd, Nat.reduceSub, Nat.reduceLeDiff, reduceCtorEq, implies_true, ne_eq, ↓asrcV, aggV, Tag.cap, List.replicate, allSolid, GVal.solid, Nat.reduceBEq, Nat.reduceMul, Nat.reduceLT, List.length_map, List.length_range, splice, vcA, ↓vcB, vcC, fbFe, e7, dropZ, List.append_nil, take32a, drop32a, drop33a, take33a, len33, solid33, solidH, len32, take32, drop32y, hsG_len, csG_len, rawsG_len, ints_len, all_hsG, all_csG, all_ints, if32, one32, set33, k10, k20, k21, false_imp_iff, true_imp_iff, not_false_eq_true, not_true_eq_false, true_and, and_true, setO_6, setO_7, d3]
                  refine ⟨by omega, by omega, fun st => ?_⟩
                  refine Into.rowLe (t := s3) (sz := 3) 1 [[.slice (csG cs ++ [bytesG h.1 ++ [.slice (hsG (ps)) (.tok 5 sp)]]) (.tok 2 st), .slice [] .nil, .int .i64 gr]] [[.slice (csG (cs ++ [(h, ps)])) (.tok 2 st), .slice [] .nil, .int .i64 gr]] (by simp [hsG_app, hsG]) ⟨⟨GLe.slice (by rw [csG_app]; exact GLess.app (GLess.refl _) ⟨GLes_com _ _ _, trivial⟩), GLe.refl _, GLe.refl _, trivial⟩, trivial⟩ ?_
                  refine Into.at ⟨((i + 1, cs ++ [(h, ps)]), st), by show i + 1 ≤ x.l.length; omega, by show i + 1 ≤ 12; omega, by show (cs ++ [(h, ps)]).length ≤ i + 1; rw [List.length_append, List.length_singleton]; omega, fun c hc => ?_⟩ (by show 12 - (i + 1) < 12 - i; omega) ⟨[.row u 3 [[.int .i64 rn, .int .i64 rh, .slice (ints rp) .none]], .row v 33 [bytesG h.1 ++ [.slice (hsG ps) (.tok 5 sp)]], .tok sp 32], rfl⟩ (by simp [WL, leG_self, leG_any, leG_int])
                  rcases List.mem_append.1 hc with q | q
                  · exact hcp c q
                  · rw [List.mem_singleton.1 q]; show ps.length ≤ 8; omega
          · have e0 : (q = 0) = False := eq_false q0
            by_cases q1 : q = 1
            · subst q1
              match ps, hpl with
              | [], hpl =>
                simp +contextual -implicitDefEqProofs (maxSteps := 2000000) (disch := omega) only [drawC, drawK, keepT, ↓lenV, binV, optV, ↓loadV, ↓storeV, ↓fieldAddrV, ↓indexAddrV, ↓allocV, ↓boxV, ↓buildV, ↓buildSliceV, ↓sliceV, ↓appendV, ↓srcV, ↓minV, bound, cutTag, hiTag, fillG, fillE, place, GVal.cells, grp, GVal.ofConst, ↓resV, resG, List.map, List.headD, List.take, List.drop, ↓reduceIte, Nat.reduceEqDiff, Nat.reduceAdd, Nat.reduceSub, Nat.reduceLeDiff, reduceCtorEq, implies_true, ne_eq, ↓asrcV, aggV, Tag.cap, List.replicate, allSolid, GVal.solid, Nat.reduceBEq, Nat.reduceMul, Nat.reduceLT, List.length_map, List.length_range, splice, vcA, ↓vcB, vcC, fbFe, e7, dropZ, List.append_nil, take32a, drop32a, drop33a, take33a, len33, solid33, solidH, len32, take32, drop32y, hsG_len, csG_len, rawsG_len, ints_len, all_hsG, all_csG, all_ints, if32, one32, set33, k10, k20, k21, false_imp_iff, true_imp_iff, not_false_eq_true, not_true_eq_false, true_and, and_true, setO_6, setO_7, d2]
                refine cQ.then ?_ (by rfl)
                simp +contextual -implicitDefEqProofs (maxSteps := 2000000) (disch := omega) only [drawC, drawK, keepT, ↓lenV, binV, optV, ↓loadV, ↓storeV, ↓fieldAddrV, ↓indexAddrV, ↓allocV, ↓boxV, ↓buildV, ↓buildSliceV, ↓sliceV, ↓appendV, ↓srcV, ↓minV, bound, cutTag, hiTag, fillG, fillE, place, GVal.cells, grp, GVal.ofConst, ↓resV, resG, List.map, List.headD, List.take, List.drop, ↓reduceIte, Nat.reduceEqDiff, Nat.reduceAdd, Nat.reduceSub, Nat.reduceLeDiff, reduceCtorEq, implies_true, ne_eq, ↓asrcV, aggV, Tag.cap, List.replicate, allSolid, GVal.solid, Nat.reduceBEq, Nat.reduceMul, Nat.reduceLT, List.length_map, List.length_range, splice, vcA, ↓vcB, vcC, fbFe, e7, dropZ, List.append_nil, take32a, drop32a, drop33a, take33a, len33, solid33, solidH, len32, take32, drop32y, hsG_len, csG_len, rawsG_len, ints_len, all_hsG, all_csG, all_ints, if32, one32, set33, k10, k20, k21, false_imp_iff, true_imp_iff, not_false_eq_true, not_true_eq_false, true_and, and_true, setO_6, setO_7, List.length_nil, Int.natCast_zero, Int.lt_irrefl]
                refine ⟨by omega, by omega, fun st => ?_⟩
                refine Into.rowLe (t := s3) (sz := 3) 1 [[.slice (csG cs ++ [bytesG h.1 ++ [.slice (hsG (([] : List Hs))) (.tok 5 sp)]]) (.tok 2 st), .slice [] .nil, .int .i64 gr]] [[.slice (csG (cs ++ [(h, ([] : List Hs))])) (.tok 2 st), .slice [] .nil, .int .i64 gr]] (by simp [hsG_app, hsG]) ⟨⟨GLe.slice (by rw [csG_app]; exact GLess.app (GLess.refl _) ⟨GLes_com _ _ _, trivial⟩), GLe.refl _, GLe.refl _, trivial⟩, trivial⟩ ?_
                refine Into.at ⟨((i + 1, cs ++ [(h, ([] : List Hs))]), st), by show i + 1 ≤ x.l.length; omega, by show i + 1 ≤ 12; omega, by show (cs ++ [(h, ([] : List Hs))]).length ≤ i + 1; rw [List.length_append, List.length_singleton]; omega, fun c hc => ?_⟩ (by show 12 - (i + 1) < 12 - i; omega) ⟨[.row u 3 [[.int .i64 rn, .int .i64 rh, .slice (ints rp) .none]], .row v 33 [bytesG h.1 ++ [.slice (hsG []) (.tok 5 sp)]], .tok sp 32], rfl⟩ (by simp [WL, leG_self, leG_any, leG_int])
                rcases List.mem_append.1 hc with q | q
                · exact hcp c q
                · rw [List.mem_singleton.1 q]; show 0 ≤ 8; omega
              | y :: pr, hpl =>
                have d3 : ((0 : Int) < ((y :: pr).length : Int)) = True := eq_true (by simp)
                have d4 : ((0 : Int) < (pr.length : Int) + 1) = True := eq_true (by omega)
                have eY : (hsG (y :: pr)).getD 0 [] = bytesG y.1 := rfl
                have hpr : pr.length ≤ 1 := by simp at hpl; omega
                simp +contextual -implicitDefEqProofs (maxSteps := 2000000) (disch := omega) only [drawC, drawK, keepT, ↓lenV, binV, optV, ↓loadV, ↓storeV, ↓fieldAddrV, ↓indexAddrV, ↓allocV, ↓boxV, ↓buildV, ↓buildSliceV, ↓sliceV, ↓appendV, ↓srcV, ↓minV, bound, cutTag, hiTag, fillG, fillE, place, GVal.cells, grp, GVal.ofConst, ↓resV, resG, List.map, List.headD, List.take, List.drop, ↓reduceIte, Nat.reduceEqDiff, Nat.reduceAdd, Nat.reduceSub, Nat.reduceLeDiff, reduceCtorEq, implies_true, ne_eq, ↓asrcV, aggV, Tag.cap, List.replicate, allSolid, GVal.solid, Nat.reduceBEq, Nat.reduceMul, Nat.reduceLT, List.length_map, List.length_range, splice, vcA, ↓vcB, vcC, fbFe, e7, dropZ, List.append_nil, take32a, drop32a, drop33a, take33a, len33, solid33, solidH, len32, take32, drop32y, hsG_len, csG_len, rawsG_len, ints_len, all_hsG, all_csG, all_ints, if32, one32, set33, k10, k20, k21, false_imp_iff, true_imp_iff, not_false_eq_true, not_true_eq_false, true_and, and_true, setO_6, setO_7, d2]
                refine cQ.then ?_ (by rfl)
                simp +contextual -implicitDefEqProofs (maxSteps := 2000000) (disch := omega) only [drawC, drawK, keepT, ↓lenV, binV, optV, ↓loadV, ↓storeV, ↓fieldAddrV, ↓indexAddrV, ↓allocV, ↓boxV, ↓buildV, ↓buildSliceV, ↓sliceV, ↓appendV, ↓srcV, ↓minV, bound, cutTag, hiTag, fillG, fillE, place, GVal.cells, grp, GVal.ofConst, ↓resV, resG, List.map, List.headD, List.take, List.drop, ↓reduceIte, Nat.reduceEqDiff, Nat.reduceAdd, Nat.reduceSub, Nat.reduceLeDiff, reduceCtorEq, implies_true, ne_eq, ↓asrcV, aggV, Tag.cap, List.replicate, allSolid, GVal.solid, Nat.reduceBEq, Nat.reduceMul, Nat.reduceLT, List.length_map, List.length_range, splice, vcA, ↓vcB, vcC, fbFe, e7, dropZ, List.append_nil, take32a, drop32a, drop33a, take33a, len33, solid33, solidH, len32, take32, drop32y, hsG_len, csG_len, rawsG_len, ints_len, all_hsG, all_csG, all_ints, if32, one32, set33, k10, k20, k21, false_imp_iff, true_imp_iff, not_false_eq_true, not_true_eq_false, true_and, and_true, setO_6, setO_7, d3, d4, eY, toNat0, List.length_cons]
                refine ⟨by omega, by omega, by omega, fun sp' => ?_⟩
                refine ⟨by omega, by omega, fun st => ?_⟩
                refine Into.rowLe (t := s3) (sz := 3) 1 [[.slice (csG cs ++ [bytesG h.1 ++ [.slice (hsG ((y :: pr) ++ [y])) (.tok 5 sp')]]) (.tok 2 st), .slice [] .nil, .int .i64 gr]] [[.slice (csG (cs ++ [(h, (y :: pr) ++ [y])])) (.tok 2 st), .slice [] .nil, .int .i64 gr]] (by simp [hsG_app, hsG]) ⟨⟨GLe.slice (by rw [csG_app]; exact GLess.app (GLess.refl _) ⟨GLes_com _ _ _, trivial⟩), GLe.refl _, GLe.refl _, trivial⟩, trivial⟩ ?_
                refine Into.at ⟨((i + 1, cs ++ [(h, (y :: pr) ++ [y])]), st), by show i + 1 ≤ x.l.length; omega, by show i + 1 ≤ 12; omega, by show (cs ++ [(h, (y :: pr) ++ [y])]).length ≤ i + 1; rw [List.length_append, List.length_singleton]; omega, fun c hc => ?_⟩ (by show 12 - (i + 1) < 12 - i; omega) ⟨[.row u 3 [[.int .i64 rn, .int .i64 rh, .slice (ints rp) .none]], .row v 33 [bytesG h.1 ++ [.slice (hsG (y :: pr) ++ [bytesG y.1]) (.tok 5 sp')]], .tok sp' 32], rfl⟩ (by simp [WL, leG_self, leG_any, leG_int])
                rcases List.mem_append.1 hc with q | q
                · exact hcp c q
                · rw [List.mem_singleton.1 q]; show ((y :: pr) ++ [y]).length ≤ 8; simp; omega
            · have e1 : (q = 1) = False := eq_false q1
              by_cases q2 : q = 2
              · subst q2
                simp +contextual -implicitDefEqProofs (maxSteps := 2000000) (disch := omega) only [drawC, drawK, keepT, ↓lenV, binV, optV, ↓loadV, ↓storeV, ↓fieldAddrV, ↓indexAddrV, ↓allocV, ↓boxV, ↓buildV, ↓buildSliceV, ↓sliceV, ↓appendV, ↓srcV, ↓minV, bound, cutTag, hiTag, fillG, fillE, place, GVal.cells, grp, GVal.ofConst, ↓resV, resG, List.map, List.headD, List.take, List.drop, ↓reduceIte, Nat.reduceEqDiff, Nat.reduceAdd, Nat.reduceSub, Nat.reduceLeDiff, reduceCtorEq, implies_true, ne_eq, ↓asrcV, aggV, Tag.cap, List.replicate, allSolid, GVal.solid, Nat.reduceBEq, Nat.reduceMul, Nat.reduceLT, List.length_map, List.length_range, splice, vcA, ↓vcB, vcC, fbFe, e7, dropZ, List.append_nil, take32a, drop32a, drop33a, take33a, len33, solid33, solidH, len32, take32, drop32y, hsG_len, csG_len, rawsG_len, ints_len, all_hsG, all_csG, all_ints, if32, one32, set33, k10, k20, k21, false_imp_iff, true_imp_iff, not_false_eq_true, not_true_eq_false, true_and, and_true, setO_6, setO_7, d2]
                refine cQ.then ?_ (by rfl)
                simp +contextual -implicitDefEqProofs (maxSteps := 2000000) (disch := omega) only [drawC, drawK, keepT, ↓lenV, binV, optV, ↓loadV, ↓storeV, ↓fieldAddrV, ↓indexAddrV, ↓allocV, ↓boxV, ↓buildV, ↓buildSliceV, ↓sliceV, ↓appendV, ↓srcV, ↓minV, bound, cutTag, hiTag, fillG, fillE, place, GVal.cells, grp, GVal.ofConst, ↓resV, resG, List.map, List.headD, List.take, List.drop, ↓reduceIte, Nat.reduceEqDiff, Nat.reduceAdd, Nat.reduceSub, Nat.reduceLeDiff, reduceCtorEq, implies_true, ne_eq, ↓asrcV, aggV, Tag.cap, List.replicate, allSolid, GVal.solid, Nat.reduceBEq, Nat.reduceMul, Nat.reduceLT, List.length_map, List.length_range, splice, vcA, ↓vcB, vcC, fbFe, e7, dropZ, List.append_nil, take32a, drop32a, drop33a, take33a, len33, solid33, solidH, len32, take32, drop32y, hsG_len, csG_len, rawsG_len, ints_len, all_hsG, all_csG, all_ints, if32, one32, set33, k10, k20, k21, false_imp_iff, true_imp_iff, not_false_eq_true, not_true_eq_false, true_and, and_true, setO_6, setO_7]
                have cH2 := hHashF (n + 1)
                obtain ⟨z, hz⟩ : ∃ z, hashF (n + 1) = z := ⟨_, rfl⟩
                rw [hz] at cH2
                refine cH2.then ?_ (by rfl)
                simp +contextual -implicitDefEqProofs (maxSteps := 2000000) (disch := omega) only [drawC, drawK, keepT, ↓lenV, binV, optV, ↓loadV, ↓storeV, ↓fieldAddrV, ↓indexAddrV, ↓allocV, ↓boxV, ↓buildV, ↓buildSliceV, ↓sliceV, ↓appendV, ↓srcV, ↓minV, bound, cutTag, hiTag, fillG, fillE, place, GVal.cells, grp, GVal.ofConst, ↓resV, resG, List.map, List.headD, List.take, List.drop, ↓reduceIte, Nat.reduceEqDiff, Nat.reduceAdd, Nat.reduceSub, Nat.reduceLeDiff, reduceCtorEq, implies_true, ne_eq, ↓asrcV, aggV, Tag.cap, List.replicate, allSolid, GVal.solid, Nat.reduceBEq, Nat.reduceMul, Nat.reduceLT, List.length_map, List.length_range, splice, vcA, ↓vcB, vcC, fbFe, e7, dropZ, List.append_nil, take32a, drop32a, drop33a, take33a, len33, solid33, solidH, len32, take32, drop32y, hsG_len, csG_len, rawsG_len, ints_len, all_hsG, all_csG, all_ints, if32, one32, set33, k10, k20, k21, false_imp_iff, true_imp_iff, not_false_eq_true, not_true_eq_false, true_and, and_true, setO_6, setO_7]
                refine ⟨by omega, by omega, fun st => ?_⟩
                refine Into.rowLe (t := s3) (sz := 3) 1 [[.slice (csG cs ++ [bytesG h.1 ++ [.slice (hsG ([z])) .full]]) (.tok 2 st), .slice [] .nil, .int .i64 gr]] [[.slice (csG (cs ++ [(h, [z])])) (.tok 2 st), .slice [] .nil, .int .i64 gr]] (by simp [hsG_app, hsG]) ⟨⟨GLe.slice (by rw [csG_app]; exact GLess.app (GLess.refl _) ⟨GLes_com _ _ _, trivial⟩), GLe.refl _, GLe.refl _, trivial⟩, trivial⟩ ?_
                refine Into.at ⟨((i + 1, cs ++ [(h, [z])]), st), by show i + 1 ≤ x.l.length; omega, by show i + 1 ≤ 12; omega, by show (cs ++ [(h, [z])]).length ≤ i + 1; rw [List.length_append, List.length_singleton]; omega, fun c hc => ?_⟩ (by show 12 - (i + 1) < 12 - i; omega) ⟨[.row u 3 [[.int .i64 rn, .int .i64 rh, .slice (ints rp) .none]], .row v 33 [bytesG h.1 ++ [.slice [bytesG z.1] .full]], .tok sp 32], rfl⟩ (by simp [WL, leG_self, leG_any, leG_int])
                rcases List.mem_append.1 hc with q | q
                · exact hcp c q
                · rw [List.mem_singleton.1 q]; show 1 ≤ 8; omega
              · have e2 : (q = 2) = False := eq_false q2
                simp +contextual -implicitDefEqProofs (maxSteps := 2000000) (disch := omega) only [drawC, drawK, keepT, ↓lenV, binV, optV, ↓loadV, ↓storeV, ↓fieldAddrV, ↓indexAddrV, ↓allocV, ↓boxV, ↓buildV, ↓buildSliceV, ↓sliceV, ↓appendV, ↓srcV, ↓minV, bound, cutTag, hiTag, fillG, fillE, place, GVal.cells, grp, GVal.ofConst, ↓resV, resG, List.map, List.headD, List.take, List.drop, ↓reduceIte, Nat.reduceEqDiff, Nat.reduceAdd, Nat.reduceSub, Nat.reduceLeDiff, reduceCtorEq, implies_true, ne_eq, ↓asrcV, aggV, Tag.cap, List.replicate, allSolid, GVal.solid, Nat.reduceBEq, Nat.reduceMul, Nat.reduceLT, List.length_map, List.length_range, splice, vcA, ↓vcB, vcC, fbFe, e7, dropZ, List.append_nil, take32a, drop32a, drop33a, take33a, len33, solid33, solidH, len32, take32, drop32y, hsG_len, csG_len, rawsG_len, ints_len, all_hsG, all_csG, all_ints, if32, one32, set33, k10, k20, k21, false_imp_iff, true_imp_iff, not_false_eq_true, not_true_eq_false, true_and, and_true, setO_6, setO_7, d2]
                refine cQ.then ?_ (by rfl)
                simp +contextual -implicitDefEqProofs (maxSteps := 2000000) (disch := omega) only [drawC, drawK, keepT, ↓lenV, binV, optV, ↓loadV, ↓storeV, ↓fieldAddrV, ↓indexAddrV, ↓allocV, ↓boxV, ↓buildV, ↓buildSliceV, ↓sliceV, ↓appendV, ↓srcV, ↓minV, bound, cutTag, hiTag, fillG, fillE, place, GVal.cells, grp, GVal.ofConst, ↓resV, resG, List.map, List.headD, List.take, List.drop, ↓reduceIte, Nat.reduceEqDiff, Nat.reduceAdd, Nat.reduceSub, Nat.reduceLeDiff, reduceCtorEq, implies_true, ne_eq, ↓asrcV, aggV, Tag.cap, List.replicate, allSolid, GVal.solid, Nat.reduceBEq, Nat.reduceMul, Nat.reduceLT, List.length_map, List.length_range, splice, vcA, ↓vcB, vcC, fbFe, e7, dropZ, List.append_nil, take32a, drop32a, drop33a, take33a, len33, solid33, solidH, len32, take32, drop32y, hsG_len, csG_len, rawsG_len, ints_len, all_hsG, all_csG, all_ints, if32, one32, set33, k10, k20, k21, false_imp_iff, true_imp_iff, not_false_eq_true, not_true_eq_false, true_and, and_true, setO_6, setO_7, e0, e1, e2]
                refine ⟨by omega, by omega, fun st => ?_⟩
                refine Into.rowLe (t := s3) (sz := 3) 1 [[.slice (csG cs ++ [bytesG h.1 ++ [.slice (hsG (ps)) (.tok 5 sp)]]) (.tok 2 st), .slice [] .nil, .int .i64 gr]] [[.slice (csG (cs ++ [(h, ps)])) (.tok 2 st), .slice [] .nil, .int .i64 gr]] (by simp [hsG_app, hsG]) ⟨⟨GLe.slice (by rw [csG_app]; exact GLess.app (GLess.refl _) ⟨GLes_com _ _ _, trivial⟩), GLe.refl _, GLe.refl _, trivial⟩, trivial⟩ ?_
                refine Into.at ⟨((i + 1, cs ++ [(h, ps)]), st), by show i + 1 ≤ x.l.length; omega, by show i + 1 ≤ 12; omega, by show (cs ++ [(h, ps)]).length ≤ i + 1; rw [List.length_append, List.length_singleton]; omega, fun c hc => ?_⟩ (by show 12 - (i + 1) < 12 - i; omega) ⟨[.row u 3 [[.int .i64 rn, .int .i64 rh, .slice (ints rp) .none]], .row v 33 [bytesG h.1 ++ [.slice (hsG ps) (.tok 5 sp)]], .tok sp 32], rfl⟩ (by simp [WL, leG_self, leG_any, leG_int])
                rcases List.mem_append.1 hc with q | q
                · exact hcp c q
                · rw [List.mem_singleton.1 q]; show ps.length ≤ 8; omega
    · have hstop : True := trivial
      have w1 := Int.emod_nonneg x.how (by decide : (50 : Int) ≠ 0)
      have w2 := Int.emod_lt_of_pos x.how (by decide : (0 : Int) < 50)
      have cV := sPick x.how 50 (by omega) (by omega)
      have m1 := Int.emod_nonneg (norm .i64 (x.how.tdiv 50)) (by decide : (4 : Int) ≠ 0)
      have m2 := Int.emod_lt_of_pos (norm .i64 (x.how.tdiv 50)) (by decide : (0 : Int) < 4)
      have cM := sPick (norm .i64 (x.how.tdiv 50)) 4 (by omega) (by omega)
      obtain ⟨w, hw⟩ : ∃ w, x.how % 50 = w := ⟨_, rfl⟩
      obtain ⟨q, hqv⟩ : ∃ q, norm .i64 (x.how.tdiv 50) % 4 = q := ⟨_, rfl⟩
      rw [hw] at cV w1 w2
      rw [hqv] at cM m1 m2
      have k10 : ((1 : Int) = 0) = False := eq_false (by decide)
      have k20 : ((2 : Int) = 0) = False := eq_false (by decide)
      have k21 : ((2 : Int) = 1) = False := eq_false (by decide)
      have h12 : cs.length ≤ 12 := by omega
      have hcase : (∀ k : Nat, k ≤ x.l.length → k ≤ 12 → ¬ (k < x.l.length ∧ k < 12) → ((k : Int) < (x.l.length : Int)) = True ∧ ((k : Int) < 12) = False) ∨ (∀ k : Nat, k ≤ x.l.length → k ≤ 12 → ¬ (k < x.l.length ∧ k < 12) → ((k : Int) < (x.l.length : Int)) = False ∧ (True = True)) := by
        by_cases hh : x.l.length ≤ 12
        · exact .inr fun k h1 h2 h3 => ⟨eq_false (by omega), rfl⟩
        · exact .inl fun k h1 h2 h3 => ⟨eq_true (by omega), eq_false (by omega)⟩
      rcases hcase with hexit | hexit
      all_goals
        obtain ⟨d0, d1⟩ := hexit i hil hi h
        simp +contextual -implicitDefEqProofs (maxSteps := 2000000) (disch := omega) only [drawC, drawK, keepT, ↓lenV, binV, optV, ↓loadV, ↓storeV, ↓fieldAddrV, ↓indexAddrV, ↓allocV, ↓boxV, ↓buildV, ↓buildSliceV, ↓sliceV, ↓appendV, ↓srcV, ↓minV, bound, cutTag, hiTag, fillG, fillE, place, GVal.cells, grp, GVal.ofConst, ↓resV, resG, List.map, List.headD, List.take, List.drop, ↓reduceIte, Nat.reduceEqDiff, Nat.reduceAdd, Nat.reduceSub, Nat.reduceLeDiff, reduceCtorEq, implies_true, ne_eq, ↓asrcV, aggV, Tag.cap, List.replicate, allSolid, GVal.solid, Nat.reduceBEq, Nat.reduceMul, Nat.reduceLT, List.length_map, List.length_range, splice, vcA, ↓vcB, vcC, fbFe, e7, d0, d1, dropZ, List.append_nil, take32a, drop32a, drop33a, take33a, len33, solid33, solidH, len32, take32, drop32y, hsG_len, csG_len, rawsG_len, ints_len, all_hsG, all_csG, all_ints, if32, one32, set33, k10, k20, k21, false_imp_iff, true_imp_iff, not_false_eq_true, not_true_eq_false, true_and, and_true, setO_6, setO_7]
        refine vcSLoop_by (ι := { p : (Nat × List Hs) × Nat // p.1.1 ≤ x.hs.length ∧ p.1.1 ≤ 4 ∧ p.1.2.length = p.1.1 }) (fun p => ⟨[.any, .ref (rrG x), .ptr 0 s2 0 0, .ptr 1 s3 0 0] ++ List.replicate 7 .any ++ [.int .i64 (p.1.1.1 : Nat)] ++ List.replicate 235 .any, [.row s2 3 [rqZ], .row s3 3 [[.slice (csG cs) (.tok 2 sc), .slice (hsG p.1.1.2) (.tok 3 p.1.2), .int .i64 gr]], .tok sc 33, .tok p.1.2 32]⟩) (fun p => 4 - p.1.1.1) ?_ ?_
        · refine Into.cellTok 1 1 32 [] rfl rfl rfl rfl ?_
          simp +contextual -implicitDefEqProofs (maxSteps := 2000000) (disch := omega) only [drawC, drawK, keepT, ↓lenV, binV, optV, ↓loadV, ↓storeV, ↓fieldAddrV, ↓indexAddrV, ↓allocV, ↓boxV, ↓buildV, ↓buildSliceV, ↓sliceV, ↓appendV, ↓srcV, ↓minV, bound, cutTag, hiTag, fillG, fillE, place, GVal.cells, grp, GVal.ofConst, ↓resV, resG, List.map, List.headD, List.take, List.drop, ↓reduceIte, Nat.reduceEqDiff, Nat.reduceAdd, Nat.reduceSub, Nat.reduceLeDiff, reduceCtorEq, implies_true, ne_eq, ↓asrcV, aggV, Tag.cap, List.replicate, allSolid, GVal.solid, Nat.reduceBEq, Nat.reduceMul, Nat.reduceLT, List.length_map, List.length_range, splice, vcA, ↓vcB, vcC, fbFe, e7]
          intro sh
          exact Into.first ⟨((0, []), sh), Nat.zero_le _, Nat.zero_le _, rfl⟩ ⟨[], rfl⟩ (by simp [WL, leG_self, leG_any])
        · rintro ⟨⟨⟨j, hs⟩, sh⟩, hj, hj4, hhl⟩
          change j ≤ x.hs.length at hj
          change j ≤ 4 at hj4
          change hs.length = j at hhl
          by_cases h' : j < x.hs.length ∧ j < 4
          · have d2 : ((j : Int) < (x.hs.length : Int)) = True := eq_true (by omega)
            have d3 : ((j : Int) < 4) = True := eq_true (by omega)
            have eA := ints_at x.hs j h'.1
            generalize x.hs.getD j 0 = a at *
            have cHa := hHashF a
            obtain ⟨y, hy⟩ : ∃ y, hashF a = y := ⟨_, rfl⟩
            rw [hy] at cHa
            simp +contextual -implicitDefEqProofs (maxSteps := 2000000) (disch := omega) only [drawC, drawK, keepT, ↓lenV, binV, optV, ↓loadV, ↓storeV, ↓fieldAddrV, ↓indexAddrV, ↓allocV, ↓boxV, ↓buildV, ↓buildSliceV, ↓sliceV, ↓appendV, ↓srcV, ↓minV, bound, cutTag, hiTag, fillG, fillE, place, GVal.cells, grp, GVal.ofConst, ↓resV, resG, List.map, List.headD, List.take, List.drop, ↓reduceIte, Nat.reduceEqDiff, Nat.reduceAdd, Nat.reduceSub, Nat.reduceLeDiff, reduceCtorEq, implies_true, ne_eq, ↓asrcV, aggV, Tag.cap, List.replicate, allSolid, GVal.solid, Nat.reduceBEq, Nat.reduceMul, Nat.reduceLT, List.length_map, List.length_range, splice, vcA, ↓vcB, vcC, fbFe, e7, dropZ, List.append_nil, take32a, drop32a, drop33a, take33a, len33, solid33, solidH, len32, take32, drop32y, hsG_len, csG_len, rawsG_len, ints_len, all_hsG, all_csG, all_ints, if32, one32, set33, k10, k20, k21, false_imp_iff, true_imp_iff, not_false_eq_true, not_true_eq_false, true_and, and_true, setO_6, setO_7, d2, d3, eA]
            refine ⟨by omega, ?_⟩
            refine cHa.then ?_ (by rfl)
            simp +contextual -implicitDefEqProofs (maxSteps := 2000000) (disch := omega) only [drawC, drawK, keepT, ↓lenV, binV, optV, ↓loadV, ↓storeV, ↓fieldAddrV, ↓indexAddrV, ↓allocV, ↓boxV, ↓buildV, ↓buildSliceV, ↓sliceV, ↓appendV, ↓srcV, ↓minV, bound, cutTag, hiTag, fillG, fillE, place, GVal.cells, grp, GVal.ofConst, ↓resV, resG, List.map, List.headD, List.take, List.drop, ↓reduceIte, Nat.reduceEqDiff, Nat.reduceAdd, Nat.reduceSub, Nat.reduceLeDiff, reduceCtorEq, implies_true, ne_eq, ↓asrcV, aggV, Tag.cap, List.replicate, allSolid, GVal.solid, Nat.reduceBEq, Nat.reduceMul, Nat.reduceLT, List.length_map, List.length_range, splice, vcA, ↓vcB, vcC, fbFe, e7, dropZ, List.append_nil, take32a, drop32a, drop33a, take33a, len33, solid33, solidH, len32, take32, drop32y, hsG_len, csG_len, rawsG_len, ints_len, all_hsG, all_csG, all_ints, if32, one32, set33, k10, k20, k21, false_imp_iff, true_imp_iff, not_false_eq_true, not_true_eq_false, true_and, and_true, setO_6, setO_7]
            refine ⟨⟨[], by simp⟩, by omega, by omega, fun sh' => ?_⟩
            exact Into.at ⟨((j + 1, hs ++ [y]), sh'), by show j + 1 ≤ x.hs.length; omega, by show j + 1 ≤ 4; omega, by show (hs ++ [y]).length = j + 1; rw [List.length_append, List.length_singleton, hhl]⟩ (by show 4 - (j + 1) < 4 - j; omega) ⟨[], by simp [hsG_app, hsG]⟩ (by simp [WL, leG_self, leG_any, leG_int])
          · have hh5 : hs.length ≤ 4 := by omega
            have hcase : (((j : Int) < (x.hs.length : Int)) = True ∧ ((j : Int) < 4) = False) ∨ (((j : Int) < (x.hs.length : Int)) = False ∧ (True = True)) := by
              by_cases hh : j < x.hs.length
              · exact .inl ⟨eq_true (by omega), eq_false (by omega)⟩
              · exact .inr ⟨eq_false (by omega), rfl⟩
            rcases hcase with ⟨d2, d3⟩ | ⟨d2, d3⟩
            all_goals
              simp +contextual -implicitDefEqProofs (maxSteps := 2000000) (disch := omega) only [drawC, drawK, keepT, ↓lenV, binV, optV, ↓loadV, ↓storeV, ↓fieldAddrV, ↓indexAddrV, ↓allocV, ↓boxV, ↓buildV, ↓buildSliceV, ↓sliceV, ↓appendV, ↓srcV, ↓minV, bound, cutTag, hiTag, fillG, fillE, place, GVal.cells, grp, GVal.ofConst, ↓resV, resG, List.map, List.headD, List.take, List.drop, ↓reduceIte, Nat.reduceEqDiff, Nat.reduceAdd, Nat.reduceSub, Nat.reduceLeDiff, reduceCtorEq, implies_true, ne_eq, ↓asrcV, aggV, Tag.cap, List.replicate, allSolid, GVal.solid, Nat.reduceBEq, Nat.reduceMul, Nat.reduceLT, List.length_map, List.length_range, splice, vcA, ↓vcB, vcC, fbFe, e7, dropZ, List.append_nil, take32a, drop32a, drop33a, take33a, len33, solid33, solidH, len32, take32, drop32y, hsG_len, csG_len, rawsG_len, ints_len, all_hsG, all_csG, all_ints, if32, one32, set33, k10, k20, k21, false_imp_iff, true_imp_iff, not_false_eq_true, not_true_eq_false, true_and, and_true, setO_6, setO_7, d2, d3]
              refine ⟨by decide, ?_⟩
              refine cM.then ?_ (by rfl)
              by_cases hq0 : 0 < q
              · have dq : ((0 : Int) < q) = True := eq_true hq0
                have eMin : (min (x.hs.length : Int) 4).toNat = min x.hs.length 4 := by omega
                have lT : (x.hs.take (min x.hs.length 4)).length ≤ 4 := by rw [List.length_take]; omega
                simp +contextual -implicitDefEqProofs (maxSteps := 2000000) (disch := omega) only [drawC, drawK, keepT, ↓lenV, binV, optV, ↓loadV, ↓storeV, ↓fieldAddrV, ↓indexAddrV, ↓allocV, ↓boxV, ↓buildV, ↓buildSliceV, ↓sliceV, ↓appendV, ↓srcV, ↓minV, bound, cutTag, hiTag, fillG, fillE, place, GVal.cells, grp, GVal.ofConst, ↓resV, resG, List.map, List.headD, List.take, List.drop, ↓reduceIte, Nat.reduceEqDiff, Nat.reduceAdd, Nat.reduceSub, Nat.reduceLeDiff, reduceCtorEq, implies_true, ne_eq, ↓asrcV, aggV, Tag.cap, List.replicate, allSolid, GVal.solid, Nat.reduceBEq, Nat.reduceMul, Nat.reduceLT, List.length_map, List.length_range, splice, vcA, ↓vcB, vcC, fbFe, e7, dropZ, List.append_nil, take32a, drop32a, drop33a, take33a, len33, solid33, solidH, len32, take32, drop32y, hsG_len, csG_len, rawsG_len, ints_len, all_hsG, all_csG, all_ints, if32, one32, set33, k10, k20, k21, false_imp_iff, true_imp_iff, not_false_eq_true, not_true_eq_false, true_and, and_true, setO_6, setO_7, dq, eMin, take_ints, toNat0, List.drop_zero]
                refine fun sb => ⟨by omega, by omega, by omega, ?_⟩
                obtain ⟨T0, hT0⟩ : ∃ T, x.hs.take (min x.hs.length 4) = T := ⟨_, rfl⟩
                rw [hT0] at lT ⊢
                refine vcSLoop_by (ι := { p : Nat × (List Bool × List Int) // p.1 ≤ x.l.length ∧ p.1 ≤ 12 ∧ p.2.1.length = 60 ∧ p.2.2.length ≤ 4 + 2 * p.1 }) (fun p => ⟨[.any, .ref (rrG x), .ptr 0 s2 0 0, .ptr 1 s3 0 0] ++ List.replicate 8 .any ++ [.ptr 4 sb 0 0, .slice (ints p.1.2.2) .none, .int .i64 (p.1.1 : Nat)] ++ List.replicate 232 .any, [.row s2 3 [rqZ], .row s3 3 [[.slice (csG cs) (.tok 2 sc), .slice (hsG hs) (.tok 3 sh), .int .i64 gr]], .tok sc 33, .tok sh 32, .row sb 60 [bls p.1.2.1]]⟩) (fun p => 12 - p.1.1) ?_ ?_
                · exact Into.first ⟨(0, (List.replicate 60 false, T0)), Nat.zero_le _, Nat.zero_le _, by simp, by show T0.length ≤ 4 + 2 * 0; omega⟩ ⟨[], rfl⟩ (by simp [WL, leG_self, leG_any])
                · rintro ⟨⟨k, ⟨B, T⟩⟩, hkl, hk, hB, hT⟩
                  change k ≤ x.l.length at hkl
                  change k ≤ 12 at hk
                  have hB : B.length = 60 := hB
                  change T.length ≤ 4 + 2 * k at hT
                  by_cases hk' : k < x.l.length ∧ k < 12
                  · have d4 : ((k : Int) < (x.l.length : Int)) = True := eq_true (by omega)
                    have d5 : ((k : Int) < 12) = True := eq_true (by omega)
                    have eR := rawsG_at x.l k hk'.1
                    generalize x.l.getD k default = r at *
                    obtain ⟨rn, rh, rp⟩ := r
                    have n1 := Int.emod_nonneg rn (by decide : (60 : Int) ≠ 0)
                    have n2 := Int.emod_lt_of_pos rn (by decide : (0 : Int) < 60)
                    have cN := sPick rn 60 (by omega) (by omega)
                    obtain ⟨n, hn⟩ : ∃ n, rn % 60 = n := ⟨_, rfl⟩
                    rw [hn] at cN n1 n2
                    have cA := gAhead n n1 n2
                    have lA := aheadL_len n
                    obtain ⟨A, hA⟩ : ∃ A, aheadL n = A := ⟨_, rfl⟩
                    rw [hA] at cA lA
                    simp +contextual -implicitDefEqProofs (maxSteps := 2000000) (disch := omega) only [drawC, drawK, keepT, ↓lenV, binV, optV, ↓loadV, ↓storeV, ↓fieldAddrV, ↓indexAddrV, ↓allocV, ↓boxV, ↓buildV, ↓buildSliceV, ↓sliceV, ↓appendV, ↓srcV, ↓minV, bound, cutTag, hiTag, fillG, fillE, place, GVal.cells, grp, GVal.ofConst, ↓resV, resG, List.map, List.headD, List.take, List.drop, ↓reduceIte, Nat.reduceEqDiff, Nat.reduceAdd, Nat.reduceSub, Nat.reduceLeDiff, reduceCtorEq, implies_true, ne_eq, ↓asrcV, aggV, Tag.cap, List.replicate, allSolid, GVal.solid, Nat.reduceBEq, Nat.reduceMul, Nat.reduceLT, List.length_map, List.length_range, splice, vcA, ↓vcB, vcC, fbFe, e7, dropZ, List.append_nil, take32a, drop32a, drop33a, take33a, len33, solid33, solidH, len32, take32, drop32y, hsG_len, csG_len, rawsG_len, ints_len, all_hsG, all_csG, all_ints, if32, one32, set33, k10, k20, k21, false_imp_iff, true_imp_iff, not_false_eq_true, not_true_eq_false, true_and, and_true, setO_6, setO_7, d4, d5, eR, rawC]
                    refine ⟨by omega, ?_⟩
                    refine cN.then ?_ (by rfl)
                    obtain ⟨m, hm⟩ : ∃ m, n.toNat = m := ⟨_, rfl⟩
                    have hm60 : m < 60 := by omega
                    have eB := bls_put B m (by omega)
                    simp +contextual -implicitDefEqProofs (maxSteps := 2000000) (disch := omega) only [drawC, drawK, keepT, ↓lenV, binV, optV, ↓loadV, ↓storeV, ↓fieldAddrV, ↓indexAddrV, ↓allocV, ↓boxV, ↓buildV, ↓buildSliceV, ↓sliceV, ↓appendV, ↓srcV, ↓minV, bound, cutTag, hiTag, fillG, fillE, place, GVal.cells, grp, GVal.ofConst, ↓resV, resG, List.map, List.headD, List.take, List.drop, ↓reduceIte, Nat.reduceEqDiff, Nat.reduceAdd, Nat.reduceSub, Nat.reduceLeDiff, reduceCtorEq, implies_true, ne_eq, ↓asrcV, aggV, Tag.cap, List.replicate, allSolid, GVal.solid, Nat.reduceBEq, Nat.reduceMul, Nat.reduceLT, List.length_map, List.length_range, splice, vcA, ↓vcB, vcC, fbFe, e7, dropZ, List.append_nil, take32a, drop32a, drop33a, take33a, len33, solid33, solidH, len32, take32, drop32y, hsG_len, csG_len, rawsG_len, ints_len, all_hsG, all_csG, all_ints, if32, one32, set33, k10, k20, k21, false_imp_iff, true_imp_iff, not_false_eq_true, not_true_eq_false, true_and, and_true, setO_6, setO_7, eR, rawC, hm, eB]
                    refine ⟨by omega, by omega, by rw [bls_len]; omega, by omega, by omega, by omega, by omega, fun st => ⟨⟨[_], rfl⟩, ?_⟩⟩
                    refine cN.then ?_ (by rfl)
                    simp +contextual -implicitDefEqProofs (maxSteps := 2000000) (disch := omega) only [drawC, drawK, keepT, ↓lenV, binV, optV, ↓loadV, ↓storeV, ↓fieldAddrV, ↓indexAddrV, ↓allocV, ↓boxV, ↓buildV, ↓buildSliceV, ↓sliceV, ↓appendV, ↓srcV, ↓minV, bound, cutTag, hiTag, fillG, fillE, place, GVal.cells, grp, GVal.ofConst, ↓resV, resG, List.map, List.headD, List.take, List.drop, ↓reduceIte, Nat.reduceEqDiff, Nat.reduceAdd, Nat.reduceSub, Nat.reduceLeDiff, reduceCtorEq, implies_true, ne_eq, ↓asrcV, aggV, Tag.cap, List.replicate, allSolid, GVal.solid, Nat.reduceBEq, Nat.reduceMul, Nat.reduceLT, List.length_map, List.length_range, splice, vcA, ↓vcB, vcC, fbFe, e7, dropZ, List.append_nil, take32a, drop32a, drop33a, take33a, len33, solid33, solidH, len32, take32, drop32y, hsG_len, csG_len, rawsG_len, ints_len, all_hsG, all_csG, all_ints, if32, one32, set33, k10, k20, k21, false_imp_iff, true_imp_iff, not_false_eq_true, not_true_eq_false, true_and, and_true, setO_6, setO_7]
                    refine cA.then ?_ (by rfl)
                    simp +contextual -implicitDefEqProofs (maxSteps := 2000000) (disch := omega) only [drawC, drawK, keepT, ↓lenV, binV, optV, ↓loadV, ↓storeV, ↓fieldAddrV, ↓indexAddrV, ↓allocV, ↓boxV, ↓buildV, ↓buildSliceV, ↓sliceV, ↓appendV, ↓srcV, ↓minV, bound, cutTag, hiTag, fillG, fillE, place, GVal.cells, grp, GVal.ofConst, ↓resV, resG, List.map, List.headD, List.take, List.drop, ↓reduceIte, Nat.reduceEqDiff, Nat.reduceAdd, Nat.reduceSub, Nat.reduceLeDiff, reduceCtorEq, implies_true, ne_eq, ↓asrcV, aggV, Tag.cap, List.replicate, allSolid, GVal.solid, Nat.reduceBEq, Nat.reduceMul, Nat.reduceLT, List.length_map, List.length_range, splice, vcA, ↓vcB, vcC, fbFe, e7, dropZ, List.append_nil, take32a, drop32a, drop33a, take33a, len33, solid33, solidH, len32, take32, drop32y, hsG_len, csG_len, rawsG_len, ints_len, all_hsG, all_csG, all_ints, if32, one32, set33, k10, k20, k21, false_imp_iff, true_imp_iff, not_false_eq_true, not_true_eq_false, true_and, and_true, setO_6, setO_7]
                    refine ⟨by omega, by omega, fun st2 => ?_⟩
                    exact Into.at ⟨(k + 1, (B.set m true, T ++ A)), by show k + 1 ≤ x.l.length; omega, by show k + 1 ≤ 12; omega, by show (B.set m true).length = 60; rw [List.length_set]; exact hB, by show (T ++ A).length ≤ 4 + 2 * (k + 1); rw [List.length_append]; omega⟩ (by show 12 - (k + 1) < 12 - k; omega) ⟨[.tok st2 1], by simp⟩ (by simp [WL, leG_self, leG_any, leG_none, leG_int, ints])
                  · obtain ⟨d4, d5⟩ := hexit k hkl hk hk'
                    simp +contextual -implicitDefEqProofs (maxSteps := 2000000) (disch := omega) only [drawC, drawK, keepT, ↓lenV, binV, optV, ↓loadV, ↓storeV, ↓fieldAddrV, ↓indexAddrV, ↓allocV, ↓boxV, ↓buildV, ↓buildSliceV, ↓sliceV, ↓appendV, ↓srcV, ↓minV, bound, cutTag, hiTag, fillG, fillE, place, GVal.cells, grp, GVal.ofConst, ↓resV, resG, List.map, List.headD, List.take, List.drop, ↓reduceIte, Nat.reduceEqDiff, Nat.reduceAdd, Nat.reduceSub, Nat.reduceLeDiff, reduceCtorEq, implies_true, ne_eq, ↓asrcV, aggV, Tag.cap, List.replicate, allSolid, GVal.solid, Nat.reduceBEq, Nat.reduceMul, Nat.reduceLT, List.length_map, List.length_range, splice, vcA, ↓vcB, vcC, fbFe, e7, dropZ, List.append_nil, take32a, drop32a, drop33a, take33a, len33, solid33, solidH, len32, take32, drop32y, hsG_len, csG_len, rawsG_len, ints_len, all_hsG, all_csG, all_ints, if32, one32, set33, k10, k20, k21, false_imp_iff, true_imp_iff, not_false_eq_true, not_true_eq_false, true_and, and_true, setO_6, setO_7, d4, d5]
                    refine vcSLoop_by (ι := { p : (List Cm × Nat) × (List Bool × List Int) // p.2.1.length = 60 ∧ p.1.1.length + p.2.1.count false ≤ 72 ∧ (∀ c ∈ p.1.1, c.2.length ≤ 8) ∧ p.2.2.length + 2 * p.2.1.count false ≤ 200 }) (fun p => ⟨[.any, .ref (rrG x), .ptr 0 s2 0 0, .ptr 1 s3 0 0] ++ List.replicate 8 .any ++ [.ptr 4 sb 0 0, .slice (ints p.1.2.2) .none] ++ List.replicate 233 .any, [.row s2 3 [rqZ], .row s3 3 [[.slice (csG p.1.1.1) (.tok 2 p.1.1.2), .slice (hsG hs) (.tok 3 sh), .int .i64 gr]], .tok p.1.1.2 33, .tok sh 32, .row sb 60 [bls p.1.2.1]]⟩) (fun p => 3 * p.1.2.1.count false + p.1.2.2.length) ?_ ?_
                    · have hcB : B.count false ≤ 60 := by have := List.count_le_length (a := false) (l := B); omega
                      exact Into.first ⟨((cs, sc), (B, T)), hB, by show cs.length + B.count false ≤ 72; omega, hcp, by show T.length + 2 * B.count false ≤ 200; omega⟩ ⟨[], by simp⟩ (by simp [WL, leG_self, leG_any])
                    · clear hk' hT hB d4 d5 hkl hk h12 hcp hcl
                      rintro ⟨⟨⟨cs, sc⟩, ⟨B, T⟩⟩, hB, hcl, hcp, hT⟩
                      have hB : B.length = 60 := hB
                      change cs.length + B.count false ≤ 72 at hcl
                      have hcp : ∀ c ∈ cs, c.2.length ≤ 8 := hcp
                      change T.length + 2 * B.count false ≤ 200 at hT
                      match T, hT with
                      | [], hT =>
                        simp +contextual -implicitDefEqProofs (maxSteps := 2000000) (disch := omega) only [drawC, drawK, keepT, ↓lenV, binV, optV, ↓loadV, ↓storeV, ↓fieldAddrV, ↓indexAddrV, ↓allocV, ↓boxV, ↓buildV, ↓buildSliceV, ↓sliceV, ↓appendV, ↓srcV, ↓minV, bound, cutTag, hiTag, fillG, fillE, place, GVal.cells, grp, GVal.ofConst, ↓resV, resG, List.map, List.headD, List.take, List.drop, ↓reduceIte, Nat.reduceEqDiff, Nat.reduceAdd, Nat.reduceSub, Nat.reduceLeDiff, reduceCtorEq, implies_true, ne_eq, ↓asrcV, aggV, Tag.cap, List.replicate, allSolid, GVal.solid, Nat.reduceBEq, Nat.reduceMul, Nat.reduceLT, List.length_map, List.length_range, splice, vcA, ↓vcB, vcC, fbFe, e7, dropZ, List.append_nil, take32a, drop32a, drop33a, take33a, len33, solid33, solidH, len32, take32, drop32y, hsG_len, csG_len, rawsG_len, ints_len, all_hsG, all_csG, all_ints, if32, one32, set33, k10, k20, k21, false_imp_iff, true_imp_iff, not_false_eq_true, not_true_eq_false, true_and, and_true, setO_6, setO_7, List.length_nil, Int.natCast_zero, Int.lt_irrefl]
                        refine cV.then ?_ (by rfl)
                        by_cases v0 : w = 0
                        · subst v0
                          simp +contextual -implicitDefEqProofs (maxSteps := 2000000) (disch := omega) only [drawC, drawK, keepT, ↓lenV, binV, optV, ↓loadV, ↓storeV, ↓fieldAddrV, ↓indexAddrV, ↓allocV, ↓boxV, ↓buildV, ↓buildSliceV, ↓sliceV, ↓appendV, ↓srcV, ↓minV, bound, cutTag, hiTag, fillG, fillE, place, GVal.cells, grp, GVal.ofConst, ↓resV, resG, List.map, List.headD, List.take, List.drop, ↓reduceIte, Nat.reduceEqDiff, Nat.reduceAdd, Nat.reduceSub, Nat.reduceLeDiff, reduceCtorEq, implies_true, ne_eq, ↓asrcV, aggV, Tag.cap, List.replicate, allSolid, GVal.solid, Nat.reduceBEq, Nat.reduceMul, Nat.reduceLT, List.length_map, List.length_range, splice, vcA, ↓vcB, vcC, fbFe, e7, dropZ, List.append_nil, take32a, drop32a, drop33a, take33a, len33, solid33, solidH, len32, take32, drop32y, hsG_len, csG_len, rawsG_len, ints_len, all_hsG, all_csG, all_ints, if32, one32, set33, k10, k20, k21, false_imp_iff, true_imp_iff, not_false_eq_true, not_true_eq_false, true_and, and_true, setO_6, setO_7]
                          exact ⟨.agg (reqG cs hs .none x.g), [], _, rfl, fin_le _ _ _ _ _, cs, hs, x.g, ⟨by omega, hcp, by omega⟩, rfl, rfl⟩
                        · by_cases v1 : w = 1
                          · subst v1
                            simp +contextual -implicitDefEqProofs (maxSteps := 2000000) (disch := omega) only [drawC, drawK, keepT, ↓lenV, binV, optV, ↓loadV, ↓storeV, ↓fieldAddrV, ↓indexAddrV, ↓allocV, ↓boxV, ↓buildV, ↓buildSliceV, ↓sliceV, ↓appendV, ↓srcV, ↓minV, bound, cutTag, hiTag, fillG, fillE, place, GVal.cells, grp, GVal.ofConst, ↓resV, resG, List.map, List.headD, List.take, List.drop, ↓reduceIte, Nat.reduceEqDiff, Nat.reduceAdd, Nat.reduceSub, Nat.reduceLeDiff, reduceCtorEq, implies_true, ne_eq, ↓asrcV, aggV, Tag.cap, List.replicate, allSolid, GVal.solid, Nat.reduceBEq, Nat.reduceMul, Nat.reduceLT, List.length_map, List.length_range, splice, vcA, ↓vcB, vcC, fbFe, e7, dropZ, List.append_nil, take32a, drop32a, drop33a, take33a, len33, solid33, solidH, len32, take32, drop32y, hsG_len, csG_len, rawsG_len, ints_len, all_hsG, all_csG, all_ints, if32, one32, set33, k10, k20, k21, false_imp_iff, true_imp_iff, not_false_eq_true, not_true_eq_false, true_and, and_true, setO_6, setO_7, nineH]
                            refine ⟨by omega, by omega, fun st => ?_⟩
                            exact ⟨.agg (reqG cs (hs ++ [hq 9 0 0]) .none gr), [], _, rfl, by rw [nine_snoc]; exact fin_le _ _ _ _ _, cs, hs ++ [hq 9 0 0], gr, ⟨by omega, hcp, by rw [List.length_append, List.length_singleton]; omega⟩, rfl, rfl⟩
                          · have e0 : (w = 0) = False := eq_false v0
                            have e1 : (w = 1) = False := eq_false v1
                            simp +contextual -implicitDefEqProofs (maxSteps := 2000000) (disch := omega) only [drawC, drawK, keepT, ↓lenV, binV, optV, ↓loadV, ↓storeV, ↓fieldAddrV, ↓indexAddrV, ↓allocV, ↓boxV, ↓buildV, ↓buildSliceV, ↓sliceV, ↓appendV, ↓srcV, ↓minV, bound, cutTag, hiTag, fillG, fillE, place, GVal.cells, grp, GVal.ofConst, ↓resV, resG, List.map, List.headD, List.take, List.drop, ↓reduceIte, Nat.reduceEqDiff, Nat.reduceAdd, Nat.reduceSub, Nat.reduceLeDiff, reduceCtorEq, implies_true, ne_eq, ↓asrcV, aggV, Tag.cap, List.replicate, allSolid, GVal.solid, Nat.reduceBEq, Nat.reduceMul, Nat.reduceLT, List.length_map, List.length_range, splice, vcA, ↓vcB, vcC, fbFe, e7, dropZ, List.append_nil, take32a, drop32a, drop33a, take33a, len33, solid33, solidH, len32, take32, drop32y, hsG_len, csG_len, rawsG_len, ints_len, all_hsG, all_csG, all_ints, if32, one32, set33, k10, k20, k21, false_imp_iff, true_imp_iff, not_false_eq_true, not_true_eq_false, true_and, and_true, setO_6, setO_7, e0, e1]
                            exact ⟨.agg (reqG cs hs .none gr), [], _, rfl, fin_le _ _ _ _ _, cs, hs, gr, ⟨by omega, hcp, by omega⟩, rfl, rfl⟩

                      | a :: T', hT =>
                        have hT' : T'.length + 1 + 2 * B.count false ≤ 200 := by simpa using hT
                        have dT : ((0 : Int) < (T'.length : Int) + 1) = True := eq_true (by omega)
                        have n1 := Int.emod_nonneg a (by decide : (60 : Int) ≠ 0)
                        have n2 := Int.emod_lt_of_pos a (by decide : (0 : Int) < 60)
                        have cN := sPick a 60 (by omega) (by omega)
                        obtain ⟨n, hn⟩ : ∃ n, a % 60 = n := ⟨_, rfl⟩
                        rw [hn] at cN n1 n2
                        have cA := gAhead n n1 n2
                        have lA := aheadL_len n
                        obtain ⟨A, hA⟩ : ∃ A, aheadL n = A := ⟨_, rfl⟩
                        rw [hA] at cA lA
                        obtain ⟨h, hh⟩ : ∃ h, hashF n = h := ⟨_, rfl⟩
                        have cHn := hHashF n
                        rw [hh] at cHn
                        obtain ⟨m, hm⟩ : ∃ m, n.toNat = m := ⟨_, rfl⟩
                        have hm60 : m < 60 := by omega
                        have eB := bls_put B m (by omega)
                        have eG := bls_at B m (by omega)
                        have eT0 : (ints (a :: T')).getD 0 [] = [.int .i64 a] := rfl
                        have eT1 : (ints (a :: T')).drop 1 = ints T' := rfl
                        have tn1 : (Int.toNat 1) = 1 := rfl
                        have eTt : List.take ((T'.length : Int) + 1).toNat (ints (a :: T')) = ints (a :: T') := List.take_of_length_le (by rw [ints_len]; simp)
                        simp +contextual -implicitDefEqProofs (maxSteps := 2000000) (disch := omega) only [drawC, drawK, keepT, ↓lenV, binV, optV, ↓loadV, ↓storeV, ↓fieldAddrV, ↓indexAddrV, ↓allocV, ↓boxV, ↓buildV, ↓buildSliceV, ↓sliceV, ↓appendV, ↓srcV, ↓minV, bound, cutTag, hiTag, fillG, fillE, place, GVal.cells, grp, GVal.ofConst, ↓resV, resG, List.map, List.headD, List.take, List.drop, ↓reduceIte, Nat.reduceEqDiff, Nat.reduceAdd, Nat.reduceSub, Nat.reduceLeDiff, reduceCtorEq, implies_true, ne_eq, ↓asrcV, aggV, Tag.cap, List.replicate, allSolid, GVal.solid, Nat.reduceBEq, Nat.reduceMul, Nat.reduceLT, List.length_map, List.length_range, splice, vcA, ↓vcB, vcC, fbFe, e7, dropZ, List.append_nil, take32a, drop32a, drop33a, take33a, len33, solid33, solidH, len32, take32, drop32y, hsG_len, csG_len, rawsG_len, ints_len, all_hsG, all_csG, all_ints, if32, one32, set33, k10, k20, k21, false_imp_iff, true_imp_iff, not_false_eq_true, not_true_eq_false, true_and, and_true, setO_6, setO_7, dT, eT0, toNat0, List.length_cons]
                        refine ⟨by omega, ?_⟩
                        refine cN.then ?_ (by rfl)
                        cases eb : B.getD m false with
                        | true =>
                          rw [eb] at eG
                          simp +contextual -implicitDefEqProofs (maxSteps := 2000000) (disch := omega) only [drawC, drawK, keepT, ↓lenV, binV, optV, ↓loadV, ↓storeV, ↓fieldAddrV, ↓indexAddrV, ↓allocV, ↓boxV, ↓buildV, ↓buildSliceV, ↓sliceV, ↓appendV, ↓srcV, ↓minV, bound, cutTag, hiTag, fillG, fillE, place, GVal.cells, grp, GVal.ofConst, ↓resV, resG, List.map, List.headD, List.take, List.drop, ↓reduceIte, Nat.reduceEqDiff, Nat.reduceAdd, Nat.reduceSub, Nat.reduceLeDiff, reduceCtorEq, implies_true, ne_eq, ↓asrcV, aggV, Tag.cap, List.replicate, allSolid, GVal.solid, Nat.reduceBEq, Nat.reduceMul, Nat.reduceLT, List.length_map, List.length_range, splice, vcA, ↓vcB, vcC, fbFe, e7, dropZ, List.append_nil, take32a, drop32a, drop33a, take33a, len33, solid33, solidH, len32, take32, drop32y, hsG_len, csG_len, rawsG_len, ints_len, all_hsG, all_csG, all_ints, if32, one32, set33, k10, k20, k21, false_imp_iff, true_imp_iff, not_false_eq_true, not_true_eq_false, true_and, and_true, setO_6, setO_7, hm, eG, eTt, eT1, tn1, List.length_cons]
                          refine ⟨by omega, by omega, by omega, by omega, by omega, by rw [bls_len]; omega, ?_⟩
                          exact Into.at ⟨((cs, sc), (B, T')), hB, hcl, hcp, by show T'.length + 2 * B.count false ≤ 200; omega⟩ (by show 3 * B.count false + T'.length < 3 * B.count false + (T'.length + 1); omega) ⟨[], by simp⟩ (by simp [WL, leG_self, leG_any])
                        | false =>
                          rw [eb] at eG
                          have hcs := count_set B m (by omega) eb
                          simp +contextual -implicitDefEqProofs (maxSteps := 2000000) (disch := omega) only [drawC, drawK, keepT, ↓lenV, binV, optV, ↓loadV, ↓storeV, ↓fieldAddrV, ↓indexAddrV, ↓allocV, ↓boxV, ↓buildV, ↓buildSliceV, ↓sliceV, ↓appendV, ↓srcV, ↓minV, bound, cutTag, hiTag, fillG, fillE, place, GVal.cells, grp, GVal.ofConst, ↓resV, resG, List.map, List.headD, List.take, List.drop, ↓reduceIte, Nat.reduceEqDiff, Nat.reduceAdd, Nat.reduceSub, Nat.reduceLeDiff, reduceCtorEq, implies_true, ne_eq, ↓asrcV, aggV, Tag.cap, List.replicate, allSolid, GVal.solid, Nat.reduceBEq, Nat.reduceMul, Nat.reduceLT, List.length_map, List.length_range, splice, vcA, ↓vcB, vcC, fbFe, e7, dropZ, List.append_nil, take32a, drop32a, drop33a, take33a, len33, solid33, solidH, len32, take32, drop32y, hsG_len, csG_len, rawsG_len, ints_len, all_hsG, all_csG, all_ints, if32, one32, set33, k10, k20, k21, false_imp_iff, true_imp_iff, not_false_eq_true, not_true_eq_false, true_and, and_true, setO_6, setO_7, hm, eG, eB, eTt, eT1, tn1, List.length_cons]
                          refine ⟨by omega, by omega, by omega, by omega, by omega, by rw [bls_len]; omega, by omega, by omega, by rw [bls_len]; omega, ?_⟩
                          obtain ⟨B', hB'⟩ : ∃ B', B.set m true = B' := ⟨_, rfl⟩
                          have hBl' : B'.length = 60 := by rw [← hB', List.length_set]; exact hB
                          rw [hB'] at hcs ⊢
                          refine cHn.then ?_ (by rfl)
                          simp +contextual -implicitDefEqProofs (maxSteps := 2000000) (disch := omega) only [drawC, drawK, keepT, ↓lenV, binV, optV, ↓loadV, ↓storeV, ↓fieldAddrV, ↓indexAddrV, ↓allocV, ↓boxV, ↓buildV, ↓buildSliceV, ↓sliceV, ↓appendV, ↓srcV, ↓minV, bound, cutTag, hiTag, fillG, fillE, place, GVal.cells, grp, GVal.ofConst, ↓resV, resG, List.map, List.headD, List.take, List.drop, ↓reduceIte, Nat.reduceEqDiff, Nat.reduceAdd, Nat.reduceSub, Nat.reduceLeDiff, reduceCtorEq, implies_true, ne_eq, ↓asrcV, aggV, Tag.cap, List.replicate, allSolid, GVal.solid, Nat.reduceBEq, Nat.reduceMul, Nat.reduceLT, List.length_map, List.length_range, splice, vcA, ↓vcB, vcC, fbFe, e7, dropZ, List.append_nil, take32a, drop32a, drop33a, take33a, len33, solid33, solidH, len32, take32, drop32y, hsG_len, csG_len, rawsG_len, ints_len, all_hsG, all_csG, all_ints, if32, one32, set33, k10, k20, k21, false_imp_iff, true_imp_iff, not_false_eq_true, not_true_eq_false, true_and, and_true, setO_6, setO_7]
                          intro v
                          refine cA.then ?_ (by rfl)
                          simp +contextual -implicitDefEqProofs (maxSteps := 2000000) (disch := omega) only [drawC, drawK, keepT, ↓lenV, binV, optV, ↓loadV, ↓storeV, ↓fieldAddrV, ↓indexAddrV, ↓allocV, ↓boxV, ↓buildV, ↓buildSliceV, ↓sliceV, ↓appendV, ↓srcV, ↓minV, bound, cutTag, hiTag, fillG, fillE, place, GVal.cells, grp, GVal.ofConst, ↓resV, resG, List.map, List.headD, List.take, List.drop, ↓reduceIte, Nat.reduceEqDiff, Nat.reduceAdd, Nat.reduceSub, Nat.reduceLeDiff, reduceCtorEq, implies_true, ne_eq, ↓asrcV, aggV, Tag.cap, List.replicate, allSolid, GVal.solid, Nat.reduceBEq, Nat.reduceMul, Nat.reduceLT, List.length_map, List.length_range, splice, vcA, ↓vcB, vcC, fbFe, e7, dropZ, List.append_nil, take32a, drop32a, drop33a, take33a, len33, solid33, solidH, len32, take32, drop32y, hsG_len, csG_len, rawsG_len, ints_len, all_hsG, all_csG, all_ints, if32, one32, set33, k10, k20, k21, false_imp_iff, true_imp_iff, not_false_eq_true, not_true_eq_false, true_and, and_true, setO_6, setO_7]
                          refine vcSLoop_by (ι := { p : (Nat × List Hs) × Nat // p.1.1 ≤ A.length ∧ p.1.2.length = p.1.1 }) (fun p => ⟨[.any, .ref (rrG x), .ptr 0 s2 0 0, .ptr 1 s3 0 0] ++ List.replicate 8 .any ++ [.ptr 4 sb 0 0, .slice (ints T') .none, .any, .int .i64 n, .ptr 5 v 0 0, .slice (ints A) .none, .int .i64 (p.1.1.1 : Nat)] ++ List.replicate 228 .any, [.row s2 3 [rqZ], .row s3 3 [[.slice (csG cs) (.tok 2 sc), .slice (hsG hs) (.tok 3 sh), .int .i64 gr]], .tok sc 33, .tok sh 32, .row sb 60 [bls B'], .row v 33 [bytesG h.1 ++ [.slice (hsG p.1.1.2) (.tok 6 p.1.2)]], .tok p.1.2 32]⟩) (fun p => A.length - p.1.1.1) ?_ ?_
                          · refine Into.cellTok 5 32 32 [] (tg := .nil) rfl (at33 h _) rfl (len33 h _) ?_
                            simp +contextual -implicitDefEqProofs (maxSteps := 2000000) (disch := omega) only [drawC, drawK, keepT, ↓lenV, binV, optV, ↓loadV, ↓storeV, ↓fieldAddrV, ↓indexAddrV, ↓allocV, ↓boxV, ↓buildV, ↓buildSliceV, ↓sliceV, ↓appendV, ↓srcV, ↓minV, bound, cutTag, hiTag, fillG, fillE, place, GVal.cells, grp, GVal.ofConst, ↓resV, resG, List.map, List.headD, List.take, List.drop, ↓reduceIte, Nat.reduceEqDiff, Nat.reduceAdd, Nat.reduceSub, Nat.reduceLeDiff, reduceCtorEq, implies_true, ne_eq, ↓asrcV, aggV, Tag.cap, List.replicate, allSolid, GVal.solid, Nat.reduceBEq, Nat.reduceMul, Nat.reduceLT, List.length_map, List.length_range, splice, vcA, ↓vcB, vcC, fbFe, e7]
                            intro sp
                            exact Into.first ⟨((0, []), sp), Nat.zero_le _, rfl⟩ ⟨[], by simp [set33, hsG]⟩ (by simp [WL, leG_self, leG_any])
                          · rintro ⟨⟨⟨j, ps⟩, sp⟩, hj, hpl⟩
                            change j ≤ A.length at hj
                            change ps.length = j at hpl
                            by_cases h' : j < A.length
                            · have d2 : ((j : Int) < (A.length : Int)) = True := eq_true (by omega)
                              have eA := ints_at A j h'
                              generalize A.getD j 0 = a at *
                              have cHa := hHashF a
                              obtain ⟨y, hy⟩ : ∃ y, hashF a = y := ⟨_, rfl⟩
                              rw [hy] at cHa
                              simp +contextual -implicitDefEqProofs (maxSteps := 2000000) (disch := omega) only [drawC, drawK, keepT, ↓lenV, binV, optV, ↓loadV, ↓storeV, ↓fieldAddrV, ↓indexAddrV, ↓allocV, ↓boxV, ↓buildV, ↓buildSliceV, ↓sliceV, ↓appendV, ↓srcV, ↓minV, bound, cutTag, hiTag, fillG, fillE, place, GVal.cells, grp, GVal.ofConst, ↓resV, resG, List.map, List.headD, List.take, List.drop, ↓reduceIte, Nat.reduceEqDiff, Nat.reduceAdd, Nat.reduceSub, Nat.reduceLeDiff, reduceCtorEq, implies_true, ne_eq, ↓asrcV, aggV, Tag.cap, List.replicate, allSolid, GVal.solid, Nat.reduceBEq, Nat.reduceMul, Nat.reduceLT, List.length_map, List.length_range, splice, vcA, ↓vcB, vcC, fbFe, e7, dropZ, List.append_nil, take32a, drop32a, drop33a, take33a, len33, solid33, solidH, len32, take32, drop32y, hsG_len, csG_len, rawsG_len, ints_len, all_hsG, all_csG, all_ints, if32, one32, set33, k10, k20, k21, false_imp_iff, true_imp_iff, not_false_eq_true, not_true_eq_false, true_and, and_true, setO_6, setO_7, d2, eA]
                              refine ⟨by omega, ?_⟩
                              refine cHa.then ?_ (by rfl)
                              simp +contextual -implicitDefEqProofs (maxSteps := 2000000) (disch := omega) only [drawC, drawK, keepT, ↓lenV, binV, optV, ↓loadV, ↓storeV, ↓fieldAddrV, ↓indexAddrV, ↓allocV, ↓boxV, ↓buildV, ↓buildSliceV, ↓sliceV, ↓appendV, ↓srcV, ↓minV, bound, cutTag, hiTag, fillG, fillE, place, GVal.cells, grp, GVal.ofConst, ↓resV, resG, List.map, List.headD, List.take, List.drop, ↓reduceIte, Nat.reduceEqDiff, Nat.reduceAdd, Nat.reduceSub, Nat.reduceLeDiff, reduceCtorEq, implies_true, ne_eq, ↓asrcV, aggV, Tag.cap, List.replicate, allSolid, GVal.solid, Nat.reduceBEq, Nat.reduceMul, Nat.reduceLT, List.length_map, List.length_range, splice, vcA, ↓vcB, vcC, fbFe, e7, dropZ, List.append_nil, take32a, drop32a, drop33a, take33a, len33, solid33, solidH, len32, take32, drop32y, hsG_len, csG_len, rawsG_len, ints_len, all_hsG, all_csG, all_ints, if32, one32, set33, k10, k20, k21, false_imp_iff, true_imp_iff, not_false_eq_true, not_true_eq_false, true_and, and_true, setO_6, setO_7]
                              refine ⟨⟨[], by simp⟩, by omega, by omega, fun sp' => ?_⟩
                              exact Into.at ⟨((j + 1, ps ++ [y]), sp'), by show j + 1 ≤ A.length; omega, by show (ps ++ [y]).length = j + 1; rw [List.length_append, List.length_singleton, hpl]⟩ (by show A.length - (j + 1) < A.length - j; omega) ⟨[], by simp [hsG_app, hsG]⟩ (by simp [WL, leG_self, leG_any, leG_int])
                            · have d2 : ((j : Int) < (A.length : Int)) = False := eq_false (by omega)
                              simp +contextual -implicitDefEqProofs (maxSteps := 2000000) (disch := omega) only [drawC, drawK, keepT, ↓lenV, binV, optV, ↓loadV, ↓storeV, ↓fieldAddrV, ↓indexAddrV, ↓allocV, ↓boxV, ↓buildV, ↓buildSliceV, ↓sliceV, ↓appendV, ↓srcV, ↓minV, bound, cutTag, hiTag, fillG, fillE, place, GVal.cells, grp, GVal.ofConst, ↓resV, resG, List.map, List.headD, List.take, List.drop, ↓reduceIte, Nat.reduceEqDiff, Nat.reduceAdd, Nat.reduceSub, Nat.reduceLeDiff, reduceCtorEq, implies_true, ne_eq, ↓asrcV, aggV, Tag.cap, List.replicate, allSolid, GVal.solid, Nat.reduceBEq, Nat.reduceMul, Nat.reduceLT, List.length_map, List.length_range, splice, vcA, ↓vcB, vcC, fbFe, e7, dropZ, List.append_nil, take32a, drop32a, drop33a, take33a, len33, solid33, solidH, len32, take32, drop32y, hsG_len, csG_len, rawsG_len, ints_len, all_hsG, all_csG, all_ints, if32, one32, set33, k10, k20, k21, false_imp_iff, true_imp_iff, not_false_eq_true, not_true_eq_false, true_and, and_true, setO_6, setO_7, d2]
                              refine ⟨by omega, by omega, fun st => ⟨by omega, by omega, fun st2 => ⟨by omega, by omega, fun st3 => ?_⟩⟩⟩
                              refine Into.rowLe (t := s3) (sz := 3) 1 [[.slice (csG cs ++ [bytesG h.1 ++ [.slice (hsG ps) (.tok 6 sp)]]) (.tok 2 st), .slice (hsG hs) (.tok 3 sh), .int .i64 gr]] [[.slice (csG (cs ++ [(h, ps)])) (.tok 2 st), .slice (hsG hs) (.tok 3 sh), .int .i64 gr]] (by simp) ⟨⟨GLe.slice (by rw [csG_app]; exact GLess.app (GLess.refl _) ⟨GLes_com _ _ _, trivial⟩), GLe.refl _, GLe.refl _, trivial⟩, trivial⟩ ?_
                              refine Into.at ⟨((cs ++ [(h, ps)], st), (B', T' ++ A)), hBl', by show (cs ++ [(h, ps)]).length + B'.count false ≤ 72; rw [List.length_append, List.length_singleton]; omega, fun c hc => ?_, by show (T' ++ A).length + 2 * B'.count false ≤ 200; rw [List.length_append]; omega⟩ (by show 3 * B'.count false + (T' ++ A).length < 3 * B.count false + (T'.length + 1); rw [List.length_append]; omega) ⟨[.row v 33 [bytesG h.1 ++ [.slice (hsG ps) (.tok 6 sp)]], .tok sp 32, .tok st3 1], by simp⟩ (by simp [WL, leG_self, leG_any, leG_none, ints])
                              rcases List.mem_append.1 hc with q | q
                              · exact hcp c q
                              · rw [List.mem_singleton.1 q]; show ps.length ≤ 8; omega
              · have dq : ((0 : Int) < q) = False := eq_false hq0
                simp +contextual -implicitDefEqProofs (maxSteps := 2000000) (disch := omega) only [drawC, drawK, keepT, ↓lenV, binV, optV, ↓loadV, ↓storeV, ↓fieldAddrV, ↓indexAddrV, ↓allocV, ↓boxV, ↓buildV, ↓buildSliceV, ↓sliceV, ↓appendV, ↓srcV, ↓minV, bound, cutTag, hiTag, fillG, fillE, place, GVal.cells, grp, GVal.ofConst, ↓resV, resG, List.map, List.headD, List.take, List.drop, ↓reduceIte, Nat.reduceEqDiff, Nat.reduceAdd, Nat.reduceSub, Nat.reduceLeDiff, reduceCtorEq, implies_true, ne_eq, ↓asrcV, aggV, Tag.cap, List.replicate, allSolid, GVal.solid, Nat.reduceBEq, Nat.reduceMul, Nat.reduceLT, List.length_map, List.length_range, splice, vcA, ↓vcB, vcC, fbFe, e7, dropZ, List.append_nil, take32a, drop32a, drop33a, take33a, len33, solid33, solidH, len32, take32, drop32y, hsG_len, csG_len, rawsG_len, ints_len, all_hsG, all_csG, all_ints, if32, one32, set33, k10, k20, k21, false_imp_iff, true_imp_iff, not_false_eq_true, not_true_eq_false, true_and, and_true, setO_6, setO_7, dq]
                refine cV.then ?_ (by rfl)
                by_cases v0 : w = 0
                · subst v0
                  simp +contextual -implicitDefEqProofs (maxSteps := 2000000) (disch := omega) only [drawC, drawK, keepT, ↓lenV, binV, optV, ↓loadV, ↓storeV, ↓fieldAddrV, ↓indexAddrV, ↓allocV, ↓boxV, ↓buildV, ↓buildSliceV, ↓sliceV, ↓appendV, ↓srcV, ↓minV, bound, cutTag, hiTag, fillG, fillE, place, GVal.cells, grp, GVal.ofConst, ↓resV, resG, List.map, List.headD, List.take, List.drop, ↓reduceIte, Nat.reduceEqDiff, Nat.reduceAdd, Nat.reduceSub, Nat.reduceLeDiff, reduceCtorEq, implies_true, ne_eq, ↓asrcV, aggV, Tag.cap, List.replicate, allSolid, GVal.solid, Nat.reduceBEq, Nat.reduceMul, Nat.reduceLT, List.length_map, List.length_range, splice, vcA, ↓vcB, vcC, fbFe, e7, dropZ, List.append_nil, take32a, drop32a, drop33a, take33a, len33, solid33, solidH, len32, take32, drop32y, hsG_len, csG_len, rawsG_len, ints_len, all_hsG, all_csG, all_ints, if32, one32, set33, k10, k20, k21, false_imp_iff, true_imp_iff, not_false_eq_true, not_true_eq_false, true_and, and_true, setO_6, setO_7]
                  exact ⟨.agg (reqG cs hs .none x.g), [], _, rfl, fin_le _ _ _ _ _, cs, hs, x.g, ⟨by omega, hcp, by omega⟩, rfl, rfl⟩
                · by_cases v1 : w = 1
                  · subst v1
                    simp +contextual -implicitDefEqProofs (maxSteps := 2000000) (disch := omega) only [drawC, drawK, keepT, ↓lenV, binV, optV, ↓loadV, ↓storeV, ↓fieldAddrV, ↓indexAddrV, ↓allocV, ↓boxV, ↓buildV, ↓buildSliceV, ↓sliceV, ↓appendV, ↓srcV, ↓minV, bound, cutTag, hiTag, fillG, fillE, place, GVal.cells, grp, GVal.ofConst, ↓resV, resG, List.map, List.headD, List.take, List.drop, ↓reduceIte, Nat.reduceEqDiff, Nat.reduceAdd, Nat.reduceSub, Nat.reduceLeDiff, reduceCtorEq, implies_true, ne_eq, ↓asrcV, aggV, Tag.cap, List.replicate, allSolid, GVal.solid, Nat.reduceBEq, Nat.reduceMul, Nat.reduceLT, List.length_map, List.length_range, splice, vcA, ↓vcB, vcC, fbFe, e7, dropZ, List.append_nil, take32a, drop32a, drop33a, take33a, len33, solid33, solidH, len32, take32, drop32y, hsG_len, csG_len, rawsG_len, ints_len, all_hsG, all_csG, all_ints, if32, one32, set33, k10, k20, k21, false_imp_iff, true_imp_iff, not_false_eq_true, not_true_eq_false, true_and, and_true, setO_6, setO_7, nineH]
                    refine ⟨by omega, by omega, fun st => ?_⟩
                    exact ⟨.agg (reqG cs (hs ++ [hq 9 0 0]) .none gr), [], _, rfl, by rw [nine_snoc]; exact fin_le _ _ _ _ _, cs, hs ++ [hq 9 0 0], gr, ⟨by omega, hcp, by rw [List.length_append, List.length_singleton]; omega⟩, rfl, rfl⟩
                  · have e0 : (w = 0) = False := eq_false v0
                    have e1 : (w = 1) = False := eq_false v1
                    simp +contextual -implicitDefEqProofs (maxSteps := 2000000) (disch := omega) only [drawC, drawK, keepT, ↓lenV, binV, optV, ↓loadV, ↓storeV, ↓fieldAddrV, ↓indexAddrV, ↓allocV, ↓boxV, ↓buildV, ↓buildSliceV, ↓sliceV, ↓appendV, ↓srcV, ↓minV, bound, cutTag, hiTag, fillG, fillE, place, GVal.cells, grp, GVal.ofConst, ↓resV, resG, List.map, List.headD, List.take, List.drop, ↓reduceIte, Nat.reduceEqDiff, Nat.reduceAdd, Nat.reduceSub, Nat.reduceLeDiff, reduceCtorEq, implies_true, ne_eq, ↓asrcV, aggV, Tag.cap, List.replicate, allSolid, GVal.solid, Nat.reduceBEq, Nat.reduceMul, Nat.reduceLT, List.length_map, List.length_range, splice, vcA, ↓vcB, vcC, fbFe, e7, dropZ, List.append_nil, take32a, drop32a, drop33a, take33a, len33, solid33, solidH, len32, take32, drop32y, hsG_len, csG_len, rawsG_len, ints_len, all_hsG, all_csG, all_ints, if32, one32, set33, k10, k20, k21, false_imp_iff, true_imp_iff, not_false_eq_true, not_true_eq_false, true_and, and_true, setO_6, setO_7, e0, e1]
                    exact ⟨.agg (reqG cs hs .none gr), [], _, rfl, fin_le _ _ _ _ _, cs, hs, gr, ⟨by omega, hcp, by omega⟩, rfl, rfl⟩

end Gv.Try
/- A raw request among a caller's objects; a list of raw requests. -/
set_option linter.unusedVariables false
set_option linter.unusedSimpArgs false
set_option maxRecDepth 20000
set_option maxHeartbeats 8000000
namespace Gv.Try
open Go Gv Go.Proofs
theorem GCalls.lift0 {P : Program} {f : FuncId} {args : List GVal} {R : GVal → Prop} (h : GCalls P f args [] (fun g O' => R g ∧ O' = [])) (O : List GObj) (hc : clockOf O = none) : GCalls P f args O (fun g O' => R g ∧ O' = O) := by
  refine GCalls.frame h [] trivial (by simp) (GLes.refl _) rfl hc ?_
  rintro g O' ⟨hr, rfl⟩
  refine ⟨g, O, (List.range O.length).map (fun k => (true, k)), ⟨hr, rfl⟩, GLe.refl g, Comes.of (by simp) fun k z s hz hs => ?_, ?_, hc⟩
  · have hk : k < O.length := (List.getElem?_eq_some_iff.1 hz).1
    simp only [List.getElem?_map, List.getElem?_range hk, Option.map_some, Option.some.injEq] at hs
    subst hs
    exact ⟨by simp, z, hz, .refl _⟩
  · rw [List.nodup_iff_pairwise_ne, List.pairwise_map]
    refine List.Pairwise.imp ?_ (List.pairwise_lt_range (n := O.length))
    intro a b hab
    simp; omega
def rrsG (l : List RR) : List (List GVal) := l.map rrG
instance : Inhabited RR := ⟨⟨[], [], 0, 0⟩⟩
theorem rrsG_len (l : List RR) : (rrsG l).length = l.length := by simp [rrsG]
theorem rrsG_at (l : List RR) (i : Nat) (h : i < l.length) : (rrsG l).getD i [] = rrG (l.getD i default) := by simp [rrsG, List.getD, h]
theorem gRequestO (x : RR) (O : List GObj) (hc : clockOf O = none) : GCalls Try.prog 7 [.agg (rrG x)] O (fun g O' => ∃ cs hs gr, ReqOK cs hs ∧ g = .agg (reqG cs hs .none gr) ∧ O' = O) := by
  refine (GCalls.lift0 (R := fun g => ∃ cs hs gr, ReqOK cs hs ∧ g = .agg (reqG cs hs .none gr)) ((gRequest x).mono ?_) O hc).mono ?_
  · rintro g O' ⟨cs, hs, gr, h1, h2, h3⟩
    exact ⟨⟨cs, hs, gr, h1, h2⟩, h3⟩
  · rintro g O' ⟨⟨cs, hs, gr, h1, h2⟩, h3⟩
    exact ⟨cs, hs, gr, h1, h2, h3⟩
end Gv.Try
/- IdsRise: the plain law of a round. -/
set_option linter.unusedVariables false
set_option linter.unusedSimpArgs false
set_option maxRecDepth 20000
set_option maxHeartbeats 4000000
namespace Gv.Try
open Go Gv Go.Proofs
theorem num_len {m : GM} {M O : List Hs} (h : NumOK m M O) (hk : (m.map (·.1)).Nodup) : (M ++ O).length = m.length := by
  have := same_len h.nd hk fun x => (h.all x).trans ⟨look_key, key_look⟩
  rw [List.length_map] at this
  exact this
theorem joined_len {gr : Int} {m m1 : GM} {cs : List Cm} {hs : List Hs} (hm : Good m) (hj : joinedP gr m cs hs = .ok m1) : m1.length ≤ m.length + cs.length := by
  obtain ⟨e1, e2, e3, e4, e5⟩ := joined_ok hj
  obtain ⟨k1, k2, k3, k4⟩ := join_spec e2 hm.keys
  have := nodup_lenH (m1.map (·.1)) (m.map (·.1) ++ cs.map (·.1)) k1 fun x hx => by
    obtain ⟨l, hl⟩ := Option.isSome_iff_exists.1 (key_look hx)
    rcases k4 x l hl with q | q
    · exact List.mem_append_left _ (look_key (by rw [q]; rfl))
    · exact List.mem_append_right _ (List.mem_map.2 ⟨_, q, rfl⟩)
  rw [List.length_map, List.length_append, List.length_map, List.length_map] at this
  exact this
theorem riseStep {m : GM} {M O ms : List Hs} {k : Nat} (hm : Good m) (hN : NumOK m M O) (hml : m.length ≤ 72 * k) (hk : k < 8) (hms : ∀ x, x ∈ M ↔ x ∈ ancL m ms) (hmt : ∀ x ∈ ms, (look m x).isSome = true) {gr : Int} {cs : List Cm} {hs : List Hs} {m1 : GM} (hcl : cs.length ≤ 72) (hj : joinedP gr m cs hs = .ok m1) :
    ∃ M1 O1 T2, ((gr ≠ 1 ∧ M1 = M ∧ O1 = O) ∨ (gr = 1 ∧ ∃ T1 : WSt, VisL m1 (masterB (ofM M O)) hs ([], []) T1 ∧ M1 = M ++ T1.2 ∧ O1 = woL O T1.2 ∧ (M.length : Int) + T1.2.length ≤ 600 ∧ T1.2.length ≤ 100000)) ∧
      VisL m1 (fun h => (look (ofM M1 O1) h).isSome) (hs ++ cs.map (·.1)) ([], []) T2 ∧ Good m1 ∧ NumOK m1 M1 (O1 ++ T2.2) ∧ m1.length ≤ 72 * (k + 1) ∧ M.length ≤ 1000 ∧ O.length ≤ 1000 ∧ M1.length ≤ 1000 ∧ O1.length + T2.2.length ≤ 1000 ∧
      (∀ x, x ∈ M1 ↔ x ∈ ancL m1 (if gr = 1 then ms ++ hs else ms)) ∧ ∀ x ∈ (if gr = 1 then ms ++ hs else ms), (look m1 x).isSome = true := by
  obtain ⟨e1, e2, e3, e4, e5⟩ := joined_ok hj
  obtain ⟨j1, j2, j3, j4⟩ := join_spec e2 hm.keys
  obtain ⟨_, lh⟩ := lack_none e3
  have hg1 := joined_good hm hj
  have hl1 := joined_len hm hj
  have hMO := num_len hN hm.keys
  rw [List.length_append] at hMO
  have hext : ∀ x l, look m x = some l → look m1 x = some l := j2
  have hcs : ∀ x, (look m1 x).isSome = true → (look m x).isSome = true ∨ x ∈ cs.map (·.1) := fun x hx => by
    obtain ⟨l, hl⟩ := Option.isSome_iff_exists.1 hx
    rcases j4 x l hl with q | q
    · exact .inl (by rw [q]; rfl)
    · exact .inr (List.mem_map.2 ⟨_, q, rfl⟩)
  have key : ∃ M1 O1, ((gr ≠ 1 ∧ M1 = M ∧ O1 = O) ∨ (gr = 1 ∧ ∃ T1 : WSt, VisL m1 (masterB (ofM M O)) hs ([], []) T1 ∧ M1 = M ++ T1.2 ∧ O1 = woL O T1.2)) := by
    by_cases hg : gr = 1
    · obtain ⟨T1, h1, _⟩ := visL_ex m1 (masterB (ofM M O)) (m1.length + 1) hs [] [] List.nodup_nil (by simp) (by simp)
      exact ⟨_, _, .inr ⟨hg, T1, h1, rfl, rfl⟩⟩
    · exact ⟨M, O, .inl ⟨hg, rfl, rfl⟩⟩
  obtain ⟨M1, O1, hcase⟩ := key
  obtain ⟨T2, hT2, _⟩ := visL_ex m1 (fun h => (look (ofM M1 O1) h).isSome) (m1.length + 1) (hs ++ cs.map (·.1)) [] [] List.nodup_nil (by simp) (by simp)
  obtain ⟨hN1, hM1⟩ := num_step hN hg1 hext hcs (by omega) hcase hT2
  have hMO1 := num_len hN1 hg1.keys
  rw [List.length_append, List.length_append] at hMO1
  refine ⟨M1, O1, T2, ?_, hT2, hg1, hN1, by omega, by omega, by omega, by omega, by omega, fun x => ?_, fun x hx => ?_⟩
  · rcases hcase with q | ⟨q, T1, h1, h2, h3⟩
    · exact .inl q
    · have : M1.length = M.length + T1.2.length := by rw [h2, List.length_append]
      exact .inr ⟨q, T1, h1, h2, h3, by omega, by omega⟩
  · rw [hM1, hms, ancL_mem, ancL_mem]
    by_cases hg : gr = 1
    · rw [if_pos hg, reach_app, reach_ext hm hext hmt]
      simp [hg]
    · rw [if_neg hg, reach_ext hm hext hmt]
      simp [hg]
  · have hold : ∀ x ∈ ms, (look m1 x).isSome = true := fun x hx => by
      obtain ⟨l, hl⟩ := Option.isSome_iff_exists.1 (hmt x hx)
      rw [hext x l hl]; rfl
    by_cases hg : gr = 1
    · rw [if_pos hg] at hx
      rcases List.mem_append.1 hx with q | q
      · exact hold x q
      · exact lh x q
    · rw [if_neg hg] at hx
      exact hold x hx
theorem id_facts {m : GM} {M O : List Hs} (h : NumOK m M O) (hM : M.length ≤ 1000) (hO : O.length ≤ 1000) {x : Hs} (hx : (look m x).isSome = true) :
    ∃ a : Int, 0 ≤ a ∧ a ≤ 1099511700000 ∧ idV (ofM M O) x = .tuple [.int .i64 a, .bool true] ∧ (∀ ti so n, GCalls Try.prog 16 [.ptr 0 ti 0 0, .int .i64 a] (idO ti so n M O) (fun g O' => g = .tuple [.agg (bytesG x.1), .bool true] ∧ O' = idO ti so n M O)) ∧
      decide (a < 1099511627776) = decide (x ∈ M) ∧ ∀ p ∈ parsM m x, ∃ b : Int, idV (ofM M O) p = .tuple [.int .i64 b, .bool true] ∧ b < a := by
  have idm : ∀ {j : Nat} {y : Hs}, M[j]? = some y → idV (ofM M O) y = .tuple [.int .i64 (j : Int), .bool true] := fun hy => by unfold idV; rw [id_m h.nd hy]; rfl
  have ido : ∀ {j : Nat} {y : Hs}, O[j]? = some y → idV (ofM M O) y = .tuple [.int .i64 (1099511627776 + (j : Int)), .bool true] := fun hy => by unfold idV; rw [id_o h.nd hy]; rfl
  obtain ⟨_, _, hMO⟩ := List.nodup_append.1 h.nd
  rcases List.mem_append.1 ((h.all x).2 hx) with q | q
  · obtain ⟨j, hj⟩ := List.getElem?_of_mem q
    have hjl := (List.getElem?_eq_some_iff.1 hj).1
    refine ⟨j, by omega, by omega, idm hj, fun ti so n => ?_, ?_, fun p hp => ?_⟩
    · have := iHashM ti so n M O j (by omega) (by omega)
      rw [decide_eq_true hjl, getD_at hj] at this
      exact this
    · rw [decide_eq_true q]; exact decide_eq_true (by omega)
    · have := h.up.at_ j x (by rw [List.getElem?_append_left hjl]; exact hj) p hp
      rw [List.nil_append, List.take_append_of_le_length (by omega)] at this
      obtain ⟨i, hi, e⟩ := List.mem_take_iff_getElem.1 this
      exact ⟨i, idm (by rw [List.getElem?_eq_getElem (by omega), e]), by omega⟩
  · obtain ⟨j, hj⟩ := List.getElem?_of_mem q
    have hjl := (List.getElem?_eq_some_iff.1 hj).1
    refine ⟨1099511627776 + (j : Int), by omega, by omega, ido hj, fun ti so n => ?_, ?_, fun p hp => ?_⟩
    · have := iHashO ti so n M O j (by omega) (by omega)
      rw [decide_eq_true hjl, getD_at hj] at this
      exact this
    · rw [decide_eq_false (fun r => hMO x r x q rfl)]; exact decide_eq_false (by omega)
    · have := h.up.at_ (M.length + j) x (by rw [List.getElem?_append_right (by omega), Nat.add_sub_cancel_left]; exact hj) p hp
      rw [List.nil_append, List.take_append, List.take_of_length_le (by omega), Nat.add_sub_cancel_left] at this
      rcases List.mem_append.1 this with r | r
      · obtain ⟨i, hi⟩ := List.getElem?_of_mem r
        have := (List.getElem?_eq_some_iff.1 hi).1
        exact ⟨i, idm hi, by omega⟩
      · obtain ⟨i, hi, e⟩ := List.mem_take_iff_getElem.1 r
        exact ⟨1099511627776 + (i : Int), ido (by rw [List.getElem?_eq_getElem (by omega), e]), by omega⟩
end Gv.Try
