/- Contracts: taproothand's Request: some request, within bounds. -/
import Derived.Test.YtgkglnjmiobdmaaDoorP10
import Derived.Test.YtgkglnjmiobdmaaDoorP6
set_option linter.unusedVariables false
set_option linter.unusedSimpArgs false
set_option maxRecDepth 200000
set_option maxHeartbeats 8000000
namespace Gv.Tryd
open Go Gv Go.Proofs
abbrev RC := Int × Int × List Int
def rawC (r : RC) : List GVal := [.int .i64 r.1, .int .i64 r.2.1, .slice (ints r.2.2) .none]
def rawsG (l : List RC) : List (List GVal) := l.map rawC
instance : Inhabited RC := ⟨(0, 0, [])⟩
theorem rawsG_len (l : List RC) : (rawsG l).length = l.length := by simp [rawsG]
theorem rawsG_at (l : List RC) (i : Nat) (h : i < l.length) : (rawsG l).getD i [] = rawC (l.getD i default) := by simp [rawsG, List.getD, h]
structure RR where
  l : List RC
  hs : List Int
  g : Int
  how : Int
abbrev rrG (x : RR) : List GVal := [.slice (rawsG x.l) .none, .slice (ints x.hs) .none, .int .i64 x.g, .int .i64 x.how]
structure ReqOK (cs : List Cm) (hs : List Hs) : Prop where
  len : cs.length ≤ 72
  par : ∀ c ∈ cs, c.2.length ≤ 8
  hd : hs.length ≤ 5
theorem dropZ (y : GVal) : List.drop 33 ([.int .u8 0, .int .u8 0, .int .u8 0, .int .u8 0, .int .u8 0, .int .u8 0, .int .u8 0, .int .u8 0, .int .u8 0, .int .u8 0, .int .u8 0, .int .u8 0, .int .u8 0, .int .u8 0, .int .u8 0, .int .u8 0, .int .u8 0, .int .u8 0, .int .u8 0, .int .u8 0, .int .u8 0, .int .u8 0, .int .u8 0, .int .u8 0, .int .u8 0, .int .u8 0, .int .u8 0, .int .u8 0, .int .u8 0, .int .u8 0, .int .u8 0, .int .u8 0, y] : List GVal) = [] := rfl
theorem at33 (h : Hs) (y : GVal) : (bytesG h.1 ++ [y])[32]? = some y := by rw [List.getElem?_append_right (by rw [len32]; omega), len32]; rfl
theorem set33 (h : Hs) (y z : GVal) : (bytesG h.1 ++ [y]).set 32 z = bytesG h.1 ++ [z] := by rw [List.set_append_right _ _ (by rw [len32]; omega), len32]; rfl
theorem nineH : ([.int .u8 9, .int .u8 0, .int .u8 0, .int .u8 0, .int .u8 0, .int .u8 0, .int .u8 0, .int .u8 0, .int .u8 0, .int .u8 0, .int .u8 0, .int .u8 0, .int .u8 0, .int .u8 0, .int .u8 0, .int .u8 0, .int .u8 0, .int .u8 0, .int .u8 0, .int .u8 0, .int .u8 0, .int .u8 0, .int .u8 0, .int .u8 0, .int .u8 0, .int .u8 0, .int .u8 0, .int .u8 0, .int .u8 0, .int .u8 0, .int .u8 0, .int .u8 0] : List GVal) = bytesG (hq 9 0 0).1 := rfl
theorem nine_snoc (hs : List Hs) : hsG hs ++ [bytesG (hq 9 0 0).1] = hsG (hs ++ [hq 9 0 0]) := by simp [hsG]
theorem fin_le (cs : List Cm) (hs : List Hs) (a b : Tag) (gr : Int) : leA (.agg [.slice (csG cs) a, .slice (hsG hs) b, .int .i64 gr]) (.agg (reqG cs hs .none gr)) := by
  simp [leA, WL, leG_self, leG_none]
def bls (B : List Bool) : List GVal := B.map .bool
theorem bls_len (B : List Bool) : (bls B).length = B.length := by simp [bls]
theorem bls_set (B : List Bool) (k : Nat) (b : Bool) : (bls B).set k (.bool b) = bls (B.set k b) := by simp [bls, List.map_set]
theorem bls_at (B : List Bool) (k : Nat) (h : k < B.length) : List.take 1 (List.drop (k * 1) (bls B)) = [.bool (B.getD k false)] := by
  rw [Nat.mul_one]
  have e : (bls B).drop k = .bool (B.getD k false) :: (bls B).drop (k + 1) := by
    rw [List.drop_eq_getElem_cons (by rw [bls_len]; exact h)]; simp [bls, List.getD, h]
  rw [e]; rfl
theorem bls_put (B : List Bool) (m : Nat) (h : m < B.length) : List.take (m * 1) (bls B) ++ [.bool true] ++ List.drop (m * 1 + 1) (bls B) = bls (B.set m true) := by
  rw [Nat.mul_one, ← bls_set, List.set_eq_take_append_cons_drop, if_pos (by rw [bls_len]; exact h)]; simp
theorem count_set : ∀ (B : List Bool) (m : Nat), m < B.length → B.getD m false = false → (B.set m true).count false + 1 = B.count false
  | [], m, h, _ => by simp at h
  | b :: r, 0, h, e => by
    have : b = false := by simpa using e
    subst this; simp
  | b :: r, m + 1, h, e => by
    have := count_set r m (by simpa using h) (by simpa using e)
    rw [List.set_cons_succ, List.count_cons, List.count_cons]; omega
theorem take_ints (l : List Int) (n : Nat) : (ints l).take n = ints (l.take n) := by simp [ints, List.map_take]
abbrev rqZ : List GVal := [.slice [] .nil, .slice [] .nil, .int .i64 0]
theorem gRequest (x : RR) : GCalls Tryd.prog 9 [.agg (rrG x)] [] (fun g O' => ∃ cs hs gr, ReqOK cs hs ∧ g = .agg (reqG cs hs .none gr) ∧ O' = []) := by
  have g1 := Int.emod_nonneg x.g (by decide : (2 : Int) ≠ 0)
  have g2 := Int.emod_lt_of_pos x.g (by decide : (0 : Int) < 2)
  have cG := sPick x.g 2 (by omega) (by omega)
  refine GCalls.dropTo ?_
  refine h9.calls mixS (by simp) ?_
  simp only [gstart, s9, List.cons_append, List.nil_append, List.length_cons, List.length_nil, Nat.reduceAdd, Nat.reduceSub, List.replicate_succ, List.replicate_zero]
  simp +contextual -implicitDefEqProofs (maxSteps := 2000000) (disch := omega) only [drawC, drawK, keepT, ↓lenV, binV, optV, ↓loadV, ↓storeV, ↓fieldAddrV, ↓indexAddrV, ↓allocV, ↓boxV, ↓buildV, ↓buildSliceV, ↓sliceV, ↓appendV, ↓srcV, ↓minV, bound, cutTag, hiTag, fillG, fillE, place, GVal.cells, grp, GVal.ofConst, ↓resV, resG, List.map, List.headD, List.take, List.drop, ↓reduceIte, Nat.reduceEqDiff, Nat.reduceAdd, Nat.reduceSub, Nat.reduceLeDiff, reduceCtorEq, implies_true, ne_eq, ↓asrcV, aggV, Tag.cap, List.replicate, allSolid, GVal.solid, Nat.reduceBEq, Nat.reduceMul, Nat.reduceLT, List.length_map, List.length_range, splice, vcA, ↓vcB, vcC, fbFu, e9]
  intro s2
  refine cG.then ?_ (by rfl)
  simp +contextual -implicitDefEqProofs (maxSteps := 2000000) (disch := omega) only [drawC, drawK, keepT, ↓lenV, binV, optV, ↓loadV, ↓storeV, ↓fieldAddrV, ↓indexAddrV, ↓allocV, ↓boxV, ↓buildV, ↓buildSliceV, ↓sliceV, ↓appendV, ↓srcV, ↓minV, bound, cutTag, hiTag, fillG, fillE, place, GVal.cells, grp, GVal.ofConst, ↓resV, resG, List.map, List.headD, List.take, List.drop, ↓reduceIte, Nat.reduceEqDiff, Nat.reduceAdd, Nat.reduceSub, Nat.reduceLeDiff, reduceCtorEq, implies_true, ne_eq, ↓asrcV, aggV, Tag.cap, List.replicate, allSolid, GVal.solid, Nat.reduceBEq, Nat.reduceMul, Nat.reduceLT, List.length_map, List.length_range, splice, vcA, ↓vcB, vcC, fbFu, e9]
  intro s3
  obtain ⟨gr, hgr⟩ : ∃ gr, 1 + x.g % 2 = gr := ⟨_, rfl⟩
  rw [hgr]
  refine vcSLoop_by (ι := { p : (Nat × List Cm) × Nat // p.1.1 ≤ x.l.length ∧ p.1.1 ≤ 12 ∧ p.1.2.length ≤ p.1.1 ∧ ∀ c ∈ p.1.2, c.2.length ≤ 8 }) (fun p => ⟨[.any, .ref (rrG x), .ptr 0 s2 0 0, .ptr 1 s3 0 0, .int .i64 (p.1.1.1 : Nat)] ++ List.replicate 242 .any, [.row s2 3 [rqZ], .row s3 3 [[.slice (csG p.1.1.2) (.tok 2 p.1.2), .slice [] .nil, .int .i64 gr]], .tok p.1.2 33]⟩) (fun p => 12 - p.1.1.1) ?_ ?_
  · refine Into.cellTok 1 0 33 [] rfl rfl rfl rfl ?_
    simp +contextual -implicitDefEqProofs (maxSteps := 2000000) (disch := omega) only [drawC, drawK, keepT, ↓lenV, binV, optV, ↓loadV, ↓storeV, ↓fieldAddrV, ↓indexAddrV, ↓allocV, ↓boxV, ↓buildV, ↓buildSliceV, ↓sliceV, ↓appendV, ↓srcV, ↓minV, bound, cutTag, hiTag, fillG, fillE, place, GVal.cells, grp, GVal.ofConst, ↓resV, resG, List.map, List.headD, List.take, List.drop, ↓reduceIte, Nat.reduceEqDiff, Nat.reduceAdd, Nat.reduceSub, Nat.reduceLeDiff, reduceCtorEq, implies_true, ne_eq, ↓asrcV, aggV, Tag.cap, List.replicate, allSolid, GVal.solid, Nat.reduceBEq, Nat.reduceMul, Nat.reduceLT, List.length_map, List.length_range, splice, vcA, ↓vcB, vcC, fbFu, e9]
    intro sc
    exact Into.first ⟨((0, []), sc), Nat.zero_le _, by show 0 ≤ 12; omega, by simp, by simp⟩ ⟨[], rfl⟩ (by simp [WL, leG_self, leG_any])
  · rintro ⟨⟨⟨i, cs⟩, sc⟩, hil, hi, hcl, hcp⟩
    change i ≤ x.l.length at hil
    change i ≤ 12 at hi
    change cs.length ≤ i at hcl
    have hcp : ∀ c ∈ cs, c.2.length ≤ 8 := hcp
    by_cases h : i < x.l.length ∧ i < 12
    · have hx12 := h
      have d0 : ((i : Int) < (x.l.length : Int)) = True := eq_true (by omega)
      have d1 : ((i : Int) < 12) = True := eq_true (by omega)
      have eR := rawsG_at x.l i h.1
      generalize x.l.getD i default = r at *
      obtain ⟨rn, rh, rp⟩ := r
      have n1 := Int.emod_nonneg rn (by decide : (60 : Int) ≠ 0)
      have n2 := Int.emod_lt_of_pos rn (by decide : (0 : Int) < 60)
      have cN := sPick rn 60 (by omega) (by omega)
      obtain ⟨n, hn⟩ : ∃ n, rn % 60 = n := ⟨_, rfl⟩
      rw [hn] at cN n1 n2
      have cA := gAhead n n1 n2
      have lA := aheadL_len n
      obtain ⟨A, hA⟩ : ∃ A, aheadL n = A := ⟨_, rfl⟩
      rw [hA] at cA lA
      obtain ⟨h, hh⟩ : ∃ h, hashF n = h := ⟨_, rfl⟩
      have cHn := hHashF n
      rw [hh] at cHn
      simp +contextual -implicitDefEqProofs (maxSteps := 2000000) (disch := omega) only [drawC, drawK, keepT, ↓lenV, binV, optV, ↓loadV, ↓storeV, ↓fieldAddrV, ↓indexAddrV, ↓allocV, ↓boxV, ↓buildV, ↓buildSliceV, ↓sliceV, ↓appendV, ↓srcV, ↓minV, bound, cutTag, hiTag, fillG, fillE, place, GVal.cells, grp, GVal.ofConst, ↓resV, resG, List.map, List.headD, List.take, List.drop, ↓reduceIte, Nat.reduceEqDiff, Nat.reduceAdd, Nat.reduceSub, Nat.reduceLeDiff, reduceCtorEq, implies_true, ne_eq, ↓asrcV, aggV, Tag.cap, List.replicate, allSolid, GVal.solid, Nat.reduceBEq, Nat.reduceMul, Nat.reduceLT, List.length_map, List.length_range, splice, vcA, ↓vcB, vcC, fbFu, e9, d0, d1, eR, rawC, rawsG_len]
      have k10 : ((1 : Int) = 0) = False := eq_false (by decide)
      have k20 : ((2 : Int) = 0) = False := eq_false (by decide)
      have k21 : ((2 : Int) = 1) = False := eq_false (by decide)
      refine ⟨by omega, fun u => ?_⟩
      refine cN.then ?_ (by rfl)
      simp +contextual -implicitDefEqProofs (maxSteps := 2000000) (disch := omega) only [drawC, drawK, keepT, ↓lenV, binV, optV, ↓loadV, ↓storeV, ↓fieldAddrV, ↓indexAddrV, ↓allocV, ↓boxV, ↓buildV, ↓buildSliceV, ↓sliceV, ↓appendV, ↓srcV, ↓minV, bound, cutTag, hiTag, fillG, fillE, place, GVal.cells, grp, GVal.ofConst, ↓resV, resG, List.map, List.headD, List.take, List.drop, ↓reduceIte, Nat.reduceEqDiff, Nat.reduceAdd, Nat.reduceSub, Nat.reduceLeDiff, reduceCtorEq, implies_true, ne_eq, ↓asrcV, aggV, Tag.cap, List.replicate, allSolid, GVal.solid, Nat.reduceBEq, Nat.reduceMul, Nat.reduceLT, List.length_map, List.length_range, splice, vcA, ↓vcB, vcC, fbFu, e9]
      refine cHn.then ?_ (by rfl)
      have q1' := Int.emod_nonneg rh (by decide : (60 : Int) ≠ 0)
      have q2' := Int.emod_lt_of_pos rh (by decide : (0 : Int) < 60)
      have cQ := sPick rh 60 (by omega) (by omega)
      obtain ⟨q, hq⟩ : ∃ q, rh % 60 = q := ⟨_, rfl⟩
      rw [hq] at cQ q1' q2'
      simp +contextual -implicitDefEqProofs (maxSteps := 2000000) (disch := omega) only [drawC, drawK, keepT, ↓lenV, binV, optV, ↓loadV, ↓storeV, ↓fieldAddrV, ↓indexAddrV, ↓allocV, ↓boxV, ↓buildV, ↓buildSliceV, ↓sliceV, ↓appendV, ↓srcV, ↓minV, bound, cutTag, hiTag, fillG, fillE, place, GVal.cells, grp, GVal.ofConst, ↓resV, resG, List.map, List.headD, List.take, List.drop, ↓reduceIte, Nat.reduceEqDiff, Nat.reduceAdd, Nat.reduceSub, Nat.reduceLeDiff, reduceCtorEq, implies_true, ne_eq, ↓asrcV, aggV, Tag.cap, List.replicate, allSolid, GVal.solid, Nat.reduceBEq, Nat.reduceMul, Nat.reduceLT, List.length_map, List.length_range, splice, vcA, ↓vcB, vcC, fbFu, e9, dropZ, List.append_nil, take32a, drop32a, drop33a, take33a, len33, solid33, solidH, len32, take32, drop32y, hsG_len, csG_len, rawsG_len, ints_len, all_hsG, all_csG, all_ints, if32, one32, set33, k10, k20, k21, false_imp_iff, true_imp_iff, not_false_eq_true, not_true_eq_false, true_and, and_true, setO_6, setO_7]
      intro v
      refine cA.then ?_ (by rfl)
      simp +contextual -implicitDefEqProofs (maxSteps := 2000000) (disch := omega) only [drawC, drawK, keepT, ↓lenV, binV, optV, ↓loadV, ↓storeV, ↓fieldAddrV, ↓indexAddrV, ↓allocV, ↓boxV, ↓buildV, ↓buildSliceV, ↓sliceV, ↓appendV, ↓srcV, ↓minV, bound, cutTag, hiTag, fillG, fillE, place, GVal.cells, grp, GVal.ofConst, ↓resV, resG, List.map, List.headD, List.take, List.drop, ↓reduceIte, Nat.reduceEqDiff, Nat.reduceAdd, Nat.reduceSub, Nat.reduceLeDiff, reduceCtorEq, implies_true, ne_eq, ↓asrcV, aggV, Tag.cap, List.replicate, allSolid, GVal.solid, Nat.reduceBEq, Nat.reduceMul, Nat.reduceLT, List.length_map, List.length_range, splice, vcA, ↓vcB, vcC, fbFu, e9, dropZ, List.append_nil, take32a, drop32a, drop33a, take33a, len33, solid33, solidH, len32, take32, drop32y, hsG_len, csG_len, rawsG_len, ints_len, all_hsG, all_csG, all_ints, if32, one32, set33, k10, k20, k21, false_imp_iff, true_imp_iff, not_false_eq_true, not_true_eq_false, true_and, and_true, setO_6, setO_7]
      refine vcSLoop_by (ι := { p : (Nat × List Hs) × Nat // p.1.1 ≤ A.length ∧ p.1.2.length = p.1.1 }) (fun p => ⟨[.any, .ref (rrG x), .ptr 0 s2 0 0, .ptr 1 s3 0 0, .int .i64 (i : Nat), .ptr 3 u 0 0, .int .i64 n, .ptr 4 v 0 0, .slice (ints A) .none, .int .i64 (p.1.1.1 : Nat)] ++ List.replicate 237 .any, [.row s2 3 [rqZ], .row s3 3 [[.slice (csG cs) (.tok 2 sc), .slice [] .nil, .int .i64 gr]], .tok sc 33, .row u 3 [[.int .i64 rn, .int .i64 rh, .slice (ints rp) .none]], .row v 33 [bytesG h.1 ++ [.slice (hsG p.1.1.2) (.tok 5 p.1.2)]], .tok p.1.2 32]⟩) (fun p => A.length - p.1.1.1) ?_ ?_
      · refine Into.cellTok 4 32 32 [] (tg := .nil) rfl (at33 h _) rfl (len33 h _) ?_
        simp +contextual -implicitDefEqProofs (maxSteps := 2000000) (disch := omega) only [drawC, drawK, keepT, ↓lenV, binV, optV, ↓loadV, ↓storeV, ↓fieldAddrV, ↓indexAddrV, ↓allocV, ↓boxV, ↓buildV, ↓buildSliceV, ↓sliceV, ↓appendV, ↓srcV, ↓minV, bound, cutTag, hiTag, fillG, fillE, place, GVal.cells, grp, GVal.ofConst, ↓resV, resG, List.map, List.headD, List.take, List.drop, ↓reduceIte, Nat.reduceEqDiff, Nat.reduceAdd, Nat.reduceSub, Nat.reduceLeDiff, reduceCtorEq, implies_true, ne_eq, ↓asrcV, aggV, Tag.cap, List.replicate, allSolid, GVal.solid, Nat.reduceBEq, Nat.reduceMul, Nat.reduceLT, List.length_map, List.length_range, splice, vcA, ↓vcB, vcC, fbFu, e9]
        intro sp
        exact Into.first ⟨((0, []), sp), Nat.zero_le _, rfl⟩ ⟨[], by simp [set33, hsG]⟩ (by simp [WL, leG_self, leG_any])
      · rintro ⟨⟨⟨j, ps⟩, sp⟩, hj, hpl⟩
        change j ≤ A.length at hj
        change ps.length = j at hpl
        by_cases h' : j < A.length
        · have d2 : ((j : Int) < (A.length : Int)) = True := eq_true (by omega)
          have eA := ints_at A j h'
          generalize A.getD j 0 = a at *
          have cHa := hHashF a
          obtain ⟨y, hy⟩ : ∃ y, hashF a = y := ⟨_, rfl⟩
          rw [hy] at cHa
          simp +contextual -implicitDefEqProofs (maxSteps := 2000000) (disch := omega) only [drawC, drawK, keepT, ↓lenV, binV, optV, ↓loadV, ↓storeV, ↓fieldAddrV, ↓indexAddrV, ↓allocV, ↓boxV, ↓buildV, ↓buildSliceV, ↓sliceV, ↓appendV, ↓srcV, ↓minV, bound, cutTag, hiTag, fillG, fillE, place, GVal.cells, grp, GVal.ofConst, ↓resV, resG, List.map, List.headD, List.take, List.drop, ↓reduceIte, Nat.reduceEqDiff, Nat.reduceAdd, Nat.reduceSub, Nat.reduceLeDiff, reduceCtorEq, implies_true, ne_eq, ↓asrcV, aggV, Tag.cap, List.replicate, allSolid, GVal.solid, Nat.reduceBEq, Nat.reduceMul, Nat.reduceLT, List.length_map, List.length_range, splice, vcA, ↓vcB, vcC, fbFu, e9, dropZ, List.append_nil, take32a, drop32a, drop33a, take33a, len33, solid33, solidH, len32, take32, drop32y, hsG_len, csG_len, rawsG_len, ints_len, all_hsG, all_csG, all_ints, if32, one32, set33, k10, k20, k21, false_imp_iff, true_imp_iff, not_false_eq_true, not_true_eq_false, true_and, and_true, setO_6, setO_7, d2, eA]
          refine ⟨by omega, ?_⟩
          refine cHa.then ?_ (by rfl)
          simp +contextual -implicitDefEqProofs (maxSteps := 2000000) (disch := omega) only [drawC, drawK, keepT, ↓lenV, binV, optV, ↓loadV, ↓storeV, ↓fieldAddrV, ↓indexAddrV, ↓allocV, ↓boxV, ↓buildV, ↓buildSliceV, ↓sliceV, ↓appendV, ↓srcV, ↓minV, bound, cutTag, hiTag, fillG, fillE, place, GVal.cells, grp, GVal.ofConst, ↓resV, resG, List.map, List.headD, List.take, List.drop, ↓reduceIte, Nat.reduceEqDiff, Nat.reduceAdd, Nat.reduceSub, Nat.reduceLeDiff, reduceCtorEq, implies_true, ne_eq, ↓asrcV, aggV, Tag.cap, List.replicate, allSolid, GVal.solid, Nat.reduceBEq, Nat.reduceMul, Nat.reduceLT, List.length_map, List.length_range, splice, vcA, ↓vcB, vcC, fbFu, e9, dropZ, List.append_nil, take32a, drop32a, drop33a, take33a, len33, solid33, solidH, len32, take32, drop32y, hsG_len, csG_len, rawsG_len, ints_len, all_hsG, all_csG, all_ints, if32, one32, set33, k10, k20, k21, false_imp_iff, true_imp_iff, not_false_eq_true, not_true_eq_false, true_and, and_true, setO_6, setO_7]
          refine ⟨⟨[], by simp⟩, by omega, by omega, fun sp' => ?_⟩
          exact Into.at ⟨((j + 1, ps ++ [y]), sp'), by show j + 1 ≤ A.length; omega, by show (ps ++ [y]).length = j + 1; rw [List.length_append, List.length_singleton, hpl]⟩ (by show A.length - (j + 1) < A.length - j; omega) ⟨[], by simp [hsG_app, hsG]⟩ (by simp [WL, leG_self, leG_any, leG_int])
        · have d2 : ((j : Int) < (A.length : Int)) = False := eq_false (by omega)
          by_cases q0 : q = 0
          · subst q0
            simp +contextual -implicitDefEqProofs (maxSteps := 2000000) (disch := omega) only [drawC, drawK, keepT, ↓lenV, binV, optV, ↓loadV, ↓storeV, ↓fieldAddrV, ↓indexAddrV, ↓allocV, ↓boxV, ↓buildV, ↓buildSliceV, ↓sliceV, ↓appendV, ↓srcV, ↓minV, bound, cutTag, hiTag, fillG, fillE, place, GVal.cells, grp, GVal.ofConst, ↓resV, resG, List.map, List.headD, List.take, List.drop, ↓reduceIte, Nat.reduceEqDiff, Nat.reduceAdd, Nat.reduceSub, Nat.reduceLeDiff, reduceCtorEq, implies_true, ne_eq, ↓asrcV, aggV, Tag.cap, List.replicate, allSolid, GVal.solid, Nat.reduceBEq, Nat.reduceMul, Nat.reduceLT, List.length_map, List.length_range, splice, vcA, ↓vcB, vcC, fbFu, e9, dropZ, List.append_nil, take32a, drop32a, drop33a, take33a, len33, solid33, solidH, len32, take32, drop32y, hsG_len, csG_len, rawsG_len, ints_len, all_hsG, all_csG, all_ints, if32, one32, set33, k10, k20, k21, false_imp_iff, true_imp_iff, not_false_eq_true, not_true_eq_false, true_and, and_true, setO_6, setO_7, d2]
            refine cQ.then ?_ (by rfl)
            simp +contextual -implicitDefEqProofs (maxSteps := 2000000) (disch := omega) only [drawC, drawK, keepT, ↓lenV, binV, optV, ↓loadV, ↓storeV, ↓fieldAddrV, ↓indexAddrV, ↓allocV, ↓boxV, ↓buildV, ↓buildSliceV, ↓sliceV, ↓appendV, ↓srcV, ↓minV, bound, cutTag, hiTag, fillG, fillE, place, GVal.cells, grp, GVal.ofConst, ↓resV, resG, List.map, List.headD, List.take, List.drop, ↓reduceIte, Nat.reduceEqDiff, Nat.reduceAdd, Nat.reduceSub, Nat.reduceLeDiff, reduceCtorEq, implies_true, ne_eq, ↓asrcV, aggV, Tag.cap, List.replicate, allSolid, GVal.solid, Nat.reduceBEq, Nat.reduceMul, Nat.reduceLT, List.length_map, List.length_range, splice, vcA, ↓vcB, vcC, fbFu, e9, dropZ, List.append_nil, take32a, drop32a, drop33a, take33a, len33, solid33, solidH, len32, take32, drop32y, hsG_len, csG_len, rawsG_len, ints_len, all_hsG, all_csG, all_ints, if32, one32, set33, k10, k20, k21, false_imp_iff, true_imp_iff, not_false_eq_true, not_true_eq_false, true_and, and_true, setO_6, setO_7]
            refine vcSLoop_by (ι := { p : (Nat × List Hs) × Nat // p.1.1 ≤ rp.length ∧ p.1.1 ≤ 6 ∧ p.1.2.length ≤ 2 + p.1.1 }) (fun p => ⟨[.any, .ref (rrG x), .ptr 0 s2 0 0, .ptr 1 s3 0 0, .int .i64 (i : Nat), .ptr 3 u 0 0, .int .i64 n, .ptr 4 v 0 0, .any, .any, .int .i64 (p.1.1.1 : Nat)] ++ List.replicate 236 .any, [.row s2 3 [rqZ], .row s3 3 [[.slice (csG cs) (.tok 2 sc), .slice [] .nil, .int .i64 gr]], .tok sc 33, .row u 3 [[.int .i64 rn, .int .i64 rh, .slice (ints rp) .none]], .row v 33 [bytesG h.1 ++ [.slice (hsG p.1.1.2) (.tok 5 p.1.2)]], .tok p.1.2 32]⟩) (fun p => 6 - p.1.1.1) ?_ ?_
            · exact Into.first ⟨((0, ps), sp), Nat.zero_le _, Nat.zero_le _, by show ps.length ≤ 2 + 0; omega⟩ ⟨[], by simp⟩ (by simp [WL, leG_self, leG_any])
            · rintro ⟨⟨⟨k, ps⟩, sp⟩, hk, hk6, hpl⟩
              change k ≤ rp.length at hk
              change k ≤ 6 at hk6
              change ps.length ≤ 2 + k at hpl
              by_cases hk' : k < rp.length ∧ k < 6
              · have d3 : ((k : Int) < (rp.length : Int)) = True := eq_true (by omega)
                have d4 : ((k : Int) < 6) = True := eq_true (by omega)
                have eB := ints_at rp k hk'.1
                generalize rp.getD k 0 = a at *
                have cHa := hHashF a
                obtain ⟨y, hy⟩ : ∃ y, hashF a = y := ⟨_, rfl⟩
                rw [hy] at cHa
                simp +contextual -implicitDefEqProofs (maxSteps := 2000000) (disch := omega) only [drawC, drawK, keepT, ↓lenV, binV, optV, ↓loadV, ↓storeV, ↓fieldAddrV, ↓indexAddrV, ↓allocV, ↓boxV, ↓buildV, ↓buildSliceV, ↓sliceV, ↓appendV, ↓srcV, ↓minV, bound, cutTag, hiTag, fillG, fillE, place, GVal.cells, grp, GVal.ofConst, ↓resV, resG, List.map, List.headD, List.take, List.drop, ↓reduceIte, Nat.reduceEqDiff, Nat.reduceAdd, Nat.reduceSub, Nat.reduceLeDiff, reduceCtorEq, implies_true, ne_eq, ↓asrcV, aggV, Tag.cap, List.replicate, allSolid, GVal.solid, Nat.reduceBEq, Nat.reduceMul, Nat.reduceLT, List.length_map, List.length_range, splice, vcA, ↓vcB, vcC, fbFu, e9, dropZ, List.append_nil, take32a, drop32a, drop33a, take33a, len33, solid33, solidH, len32, take32, drop32y, hsG_len, csG_len, rawsG_len, ints_len, all_hsG, all_csG, all_ints, if32, one32, set33, k10, k20, k21, false_imp_iff, true_imp_iff, not_false_eq_true, not_true_eq_false, true_and, and_true, setO_6, setO_7, d3, d4, eB]
                refine ⟨by omega, ?_⟩
                refine cHa.then ?_ (by rfl)
                simp +contextual -implicitDefEqProofs (maxSteps := 2000000) (disch := omega) only [drawC, drawK, keepT, ↓lenV, binV, optV, ↓loadV, ↓storeV, ↓fieldAddrV, ↓indexAddrV, ↓allocV, ↓boxV, ↓buildV, ↓buildSliceV, ↓sliceV, ↓appendV, ↓srcV, ↓minV, bound, cutTag, hiTag, fillG, fillE, place, GVal.cells, grp, GVal.ofConst, ↓resV, resG, List.map, List.headD, List.take, List.drop, ↓reduceIte, Nat.reduceEqDiff, Nat.reduceAdd, Nat.reduceSub, Nat.reduceLeDiff, reduceCtorEq, implies_true, ne_eq, ↓asrcV, aggV, Tag.cap, List.replicate, allSolid, GVal.solid, Nat.reduceBEq, Nat.reduceMul, Nat.reduceLT, List.length_map, List.length_range, splice, vcA, ↓vcB, vcC, fbFu, e9, dropZ, List.append_nil, take32a, drop32a, drop33a, take33a, len33, solid33, solidH, len32, take32, drop32y, hsG_len, csG_len, rawsG_len, ints_len, all_hsG, all_csG, all_ints, if32, one32, set33, k10, k20, k21, false_imp_iff, true_imp_iff, not_false_eq_true, not_true_eq_false, true_and, and_true, setO_6, setO_7]
                refine ⟨⟨[], by simp⟩, by omega, by omega, fun sp' => ?_⟩
                exact Into.at ⟨((k + 1, ps ++ [y]), sp'), by show k + 1 ≤ rp.length; omega, by show k + 1 ≤ 6; omega, by show (ps ++ [y]).length ≤ 2 + (k + 1); rw [List.length_append, List.length_singleton]; omega⟩ (by show 6 - (k + 1) < 6 - k; omega) ⟨[], by simp [hsG_app, hsG]⟩ (by simp [WL, leG_self, leG_any, leG_int])
              · by_cases hk1 : k < rp.length
                · have d3 : ((k : Int) < (rp.length : Int)) = True := eq_true (by omega)
                  have d4 : ((k : Int) < 6) = False := eq_false (by omega)
                  simp +contextual -implicitDefEqProofs (maxSteps := 2000000) (disch := omega) only [drawC, drawK, keepT, ↓lenV, binV, optV, ↓loadV, ↓storeV, ↓fieldAddrV, ↓indexAddrV, ↓allocV, ↓boxV, ↓buildV, ↓buildSliceV, ↓sliceV, ↓appendV, ↓srcV, ↓minV, bound, cutTag, hiTag, fillG, fillE, place, GVal.cells, grp, GVal.ofConst, ↓resV, resG, List.map, List.headD, List.take, List.drop, ↓reduceIte, Nat.reduceEqDiff, Nat.reduceAdd, Nat.reduceSub, Nat.reduceLeDiff, reduceCtorEq, implies_true, ne_eq, ↓asrcV, aggV, Tag.cap, List.replicate, allSolid, GVal.solid, Nat.reduceBEq, Nat.reduceMul, Nat.reduceLT, List.length_map, List.length_range, splice, vcA, ↓vcB, vcC, fbFu, e9, dropZ, List.append_nil, take32a, drop32a, drop33a, take33a, len33, solid33, solidH, len32, take32, drop32y, hsG_len, csG_len, rawsG_len, ints_len, all_hsG, all_csG, all_ints, if32, one32, set33, k10, k20, k21, false_imp_iff, true_imp_iff, not_false_eq_true, not_true_eq_false, true_and, and_true, setO_6, setO_7, d3, d4]
                  refine ⟨by omega, by omega, fun st => ?_⟩
                  refine Into.rowLe (t := s3) (sz := 3) 1 [[.slice (csG cs ++ [bytesG h.1 ++ [.slice (hsG (ps)) (.tok 5 sp)]]) (.tok 2 st), .slice [] .nil, .int .i64 gr]] [[.slice (csG (cs ++ [(h, ps)])) (.tok 2 st), .slice [] .nil, .int .i64 gr]] (by simp [hsG_app, hsG]) ⟨⟨GLe.slice (by rw [csG_app]; exact GLess.app (GLess.refl _) ⟨GLes_com _ _ _, trivial⟩), GLe.refl _, GLe.refl _, trivial⟩, trivial⟩ ?_
                  refine Into.at ⟨((i + 1, cs ++ [(h, ps)]), st), by show i + 1 ≤ x.l.length; omega, by show i + 1 ≤ 12; omega, by show (cs ++ [(h, ps)]).length ≤ i + 1; rw [List.length_append, List.length_singleton]; omega, fun c hc => ?_⟩ (by show 12 - (i + 1) < 12 - i; omega) ⟨[.row u 3 [[.int .i64 rn, .int .i64 rh, .slice (ints rp) .none]], .row v 33 [bytesG h.1 ++ [.slice (hsG ps) (.tok 5 sp)]], .tok sp 32], rfl⟩ (by simp [WL, leG_self, leG_any, leG_int])
                  rcases List.mem_append.1 hc with q | q
                  · exact hcp c q
                  · rw [List.mem_singleton.1 q]; show ps.length ≤ 8; omega
                · have d3 : ((k : Int) < (rp.length : Int)) = False := eq_false (by omega)
                  simp +contextual -implicitDefEqProofs (maxSteps := 2000000) (disch := omega) only [drawC, drawK, keepT, ↓lenV, binV, optV, ↓loadV, ↓storeV, ↓fieldAddrV, ↓indexAddrV, ↓allocV, ↓boxV, ↓buildV, ↓buildSliceV, ↓sliceV, ↓appendV, ↓srcV, ↓minV, bound, cutTag, hiTag, fillG, fillE, place, GVal.cells, grp, GVal.ofConst, ↓resV, resG, List.map, List.headD, List.take, List.drop, ↓reduceIte, Nat.reduceEqDiff, Nat.reduceAdd, Nat.reduceSub, Nat.reduceLeDiff, reduceCtorEq, implies_true, ne_eq, ↓asrcV, aggV, Tag.cap, List.replicate, allSolid, GVal.solid, Nat.reduceBEq, Nat.reduceMul, Nat.reduceLT, List.length_map, List.length_range, splice, vcA, ↓vcB, vcC, fbFu, e9, dropZ, List.append_nil, take32a, drop32a, drop33a, take33a, len33, solid33, solidH, len32, take32, drop32y, hsG_len, csG_len, rawsG_len, ints_len, all_hsG, all_csG, all_ints, if32, one32, set33, k10, k20, k21, false_imp_iff, true_imp_iff, not_false_eq_true, not_true_eq_false, true_and, and_true, setO_6, setO_7, d3]
                  refine ⟨by omega, by omega, fun st => ?_⟩
                  refine Into.rowLe (t := s3) (sz := 3) 1 [[.slice (csG cs ++ [bytesG h.1 ++ [.slice (hsG (ps)) (.tok 5 sp)]]) (.tok 2 st), .slice [] .nil, .int .i64 gr]] [[.slice (csG (cs ++ [(h, ps)])) (.tok 2 st), .slice [] .nil, .int .i64 gr]] (by simp [hsG_app, hsG]) ⟨⟨GLe.slice (by rw [csG_app]; exact GLess.app (GLess.refl _) ⟨GLes_com _ _ _, trivial⟩), GLe.refl _, GLe.refl _, trivial⟩, trivial⟩ ?_
                  refine Into.at ⟨((i + 1, cs ++ [(h, ps)]), st), by show i + 1 ≤ x.l.length; omega, by show i + 1 ≤ 12; omega, by show (cs ++ [(h, ps)]).length ≤ i + 1; rw [List.length_append, List.length_singleton]; omega, fun c hc => ?_⟩ (by show 12 - (i + 1) < 12 - i; omega) ⟨[.row u 3 [[.int .i64 rn, .int .i64 rh, .slice (ints rp) .none]], .row v 33 [bytesG h.1 ++ [.slice (hsG ps) (.tok 5 sp)]], .tok sp 32], rfl⟩ (by simp [WL, leG_self, leG_any, leG_int])
                  rcases List.mem_append.1 hc with q | q
                  · exact hcp c q
                  · rw [List.mem_singleton.1 q]; show ps.length ≤ 8; omega
          · have e0 : (q = 0) = False := eq_false q0
            by_cases q1 : q = 1
            · subst q1
              match ps, hpl with
              | [], hpl =>
                simp +contextual -implicitDefEqProofs (maxSteps := 2000000) (disch := omega) only [drawC, drawK, keepT, ↓lenV, binV, optV, ↓loadV, ↓storeV, ↓fieldAddrV, ↓indexAddrV, ↓allocV, ↓boxV, ↓buildV, ↓buildSliceV, ↓sliceV, ↓appendV, ↓srcV, ↓minV, bound, cutTag, hiTag, fillG, fillE, place, GVal.cells, grp, GVal.ofConst, ↓resV, resG, List.map, List.headD, List.take, List.drop, ↓reduceIte, Nat.reduceEqDiff, Nat.reduceAdd, Nat.reduceSub, Nat.reduceLeDiff, reduceCtorEq, implies_true, ne_eq, ↓asrcV, aggV, Tag.cap, List.replicate, allSolid, GVal.solid, Nat.reduceBEq, Nat.reduceMul, Nat.reduceLT, List.length_map, List.length_range, splice, vcA, ↓vcB, vcC, fbFu, e9, dropZ, List.append_nil, take32a, drop32a, drop33a, take33a, len33, solid33, solidH, len32, take32, drop32y, hsG_len, csG_len, rawsG_len, ints_len, all_hsG, all_csG, all_ints, if32, one32, set33, k10, k20, k21, false_imp_iff, true_imp_iff, not_false_eq_true, not_true_eq_false, true_and, and_true, setO_6, setO_7, d2]
                refine cQ.then ?_ (by rfl)
                simp +contextual -implicitDefEqProofs (maxSteps := 2000000) (disch := omega) only [drawC, drawK, keepT, ↓lenV, binV, optV, ↓loadV, ↓storeV, ↓fieldAddrV, ↓indexAddrV, ↓allocV, ↓boxV, ↓buildV, ↓buildSliceV, ↓sliceV, ↓appendV, ↓srcV, ↓minV, bound, cutTag, hiTag, fillG, fillE, place, GVal.cells, grp, GVal.ofConst, ↓resV, resG, List.map, List.headD, List.take, List.drop, ↓reduceIte, Nat.reduceEqDiff, Nat.reduceAdd, Nat.reduceSub, Nat.reduceLeDiff, reduceCtorEq, implies_true, ne_eq, ↓asrcV, aggV, Tag.cap, List.replicate, allSolid, GVal.solid, Nat.reduceBEq, Nat.reduceMul, Nat.reduceLT, List.length_map, List.length_range, splice, vcA, ↓vcB, vcC, fbFu, e9, dropZ, List.append_nil, take32a, drop32a, drop33a, take33a, len33, solid33, solidH, len32, take32, drop32y, hsG_len, csG_len, rawsG_len, ints_len, all_hsG, all_csG, all_ints, if32, one32, set33, k10, k20, k21, false_imp_iff, true_imp_iff, not_false_eq_true, not_true_eq_false, true_and, and_true, setO_6, setO_7, List.length_nil, Int.natCast_zero, Int.lt_irrefl]
                refine ⟨by omega, by omega, fun st => ?_⟩
                refine Into.rowLe (t := s3) (sz := 3) 1 [[.slice (csG cs ++ [bytesG h.1 ++ [.slice (hsG (([] : List Hs))) (.tok 5 sp)]]) (.tok 2 st), .slice [] .nil, .int .i64 gr]] [[.slice (csG (cs ++ [(h, ([] : List Hs))])) (.tok 2 st), .slice [] .nil, .int .i64 gr]] (by simp [hsG_app, hsG]) ⟨⟨GLe.slice (by rw [csG_app]; exact GLess.app (GLess.refl _) ⟨GLes_com _ _ _, trivial⟩), GLe.refl _, GLe.refl _, trivial⟩, trivial⟩ ?_
                refine Into.at ⟨((i + 1, cs ++ [(h, ([] : List Hs))]), st), by show i + 1 ≤ x.l.length; omega, by show i + 1 ≤ 12; omega, by show (cs ++ [(h, ([] : List Hs))]).length ≤ i + 1; rw [List.length_append, List.length_singleton]; omega, fun c hc => ?_⟩ (by show 12 - (i + 1) < 12 - i; omega) ⟨[.row u 3 [[.int .i64 rn, .int .i64 rh, .slice (ints rp) .none]], .row v 33 [bytesG h.1 ++ [.slice (hsG []) (.tok 5 sp)]], .tok sp 32], rfl⟩ (by simp [WL, leG_self, leG_any, leG_int])
                rcases List.mem_append.1 hc with q | q
                · exact hcp c q
                · rw [List.mem_singleton.1 q]; show 0 ≤ 8; omega
              | y :: pr, hpl =>
                have d3 : ((0 : Int) < ((y :: pr).length : Int)) = True := eq_true (by simp)
                have d4 : ((0 : Int) < (pr.length : Int) + 1) = True := eq_true (by omega)
                have eY : (hsG (y :: pr)).getD 0 [] = bytesG y.1 := rfl
                have hpr : pr.length ≤ 1 := by simp at hpl; omega
                simp +contextual -implicitDefEqProofs (maxSteps := 2000000) (disch := omega) only [drawC, drawK, keepT, ↓lenV, binV, optV, ↓loadV, ↓storeV, ↓fieldAddrV, ↓indexAddrV, ↓allocV, ↓boxV, ↓buildV, ↓buildSliceV, ↓sliceV, ↓appendV, ↓srcV, ↓minV, bound, cutTag, hiTag, fillG, fillE, place, GVal.cells, grp, GVal.ofConst, ↓resV, resG, List.map, List.headD, List.take, List.drop, ↓reduceIte, Nat.reduceEqDiff, Nat.reduceAdd, Nat.reduceSub, Nat.reduceLeDiff, reduceCtorEq, implies_true, ne_eq, ↓asrcV, aggV, Tag.cap, List.replicate, allSolid, GVal.solid, Nat.reduceBEq, Nat.reduceMul, Nat.reduceLT, List.length_map, List.length_range, splice, vcA, ↓vcB, vcC, fbFu, e9, dropZ, List.append_nil, take32a, drop32a, drop33a, take33a, len33, solid33, solidH, len32, take32, drop32y, hsG_len, csG_len, rawsG_len, ints_len, all_hsG, all_csG, all_ints, if32, one32, set33, k10, k20, k21, false_imp_iff, true_imp_iff, not_false_eq_true, not_true_eq_false, true_and, and_true, setO_6, setO_7, d2]
                refine cQ.then ?_ (by rfl)
                simp +contextual -implicitDefEqProofs (maxSteps := 2000000) (disch := omega) only [drawC, drawK, keepT, ↓lenV, binV, optV, ↓loadV, ↓storeV, ↓fieldAddrV, ↓indexAddrV, ↓allocV, ↓boxV, ↓buildV, ↓buildSliceV, ↓sliceV, ↓appendV, ↓srcV, ↓minV, bound, cutTag, hiTag, fillG, fillE, place, GVal.cells, grp, GVal.ofConst, ↓resV, resG, List.map, List.headD, List.take, List.drop, ↓reduceIte, Nat.reduceEqDiff, Nat.reduceAdd, Nat.reduceSub, Nat.reduceLeDiff, reduceCtorEq, implies_true, ne_eq, ↓asrcV, aggV, Tag.cap, List.replicate, allSolid, GVal.solid, Nat.reduceBEq, Nat.reduceMul, Nat.reduceLT, List.length_map, List.length_range, splice, vcA, ↓vcB, vcC, fbFu, e9, dropZ, List.append_nil, take32a, drop32a, drop33a, take33a, len33, solid33, solidH, len32, take32, drop32y, hsG_len, csG_len, rawsG_len, ints_len, all_hsG, all_csG, all_ints, if32, one32, set33, k10, k20, k21, false_imp_iff, true_imp_iff, not_false_eq_true, not_true_eq_false, true_and, and_true, setO_6, setO_7, d3, d4, eY, toNat0, List.length_cons]
                refine ⟨by omega, by omega, by omega, fun sp' => ?_⟩
                refine ⟨by omega, by omega, fun st => ?_⟩
                refine Into.rowLe (t := s3) (sz := 3) 1 [[.slice (csG cs ++ [bytesG h.1 ++ [.slice (hsG ((y :: pr) ++ [y])) (.tok 5 sp')]]) (.tok 2 st), .slice [] .nil, .int .i64 gr]] [[.slice (csG (cs ++ [(h, (y :: pr) ++ [y])])) (.tok 2 st), .slice [] .nil, .int .i64 gr]] (by simp [hsG_app, hsG]) ⟨⟨GLe.slice (by rw [csG_app]; exact GLess.app (GLess.refl _) ⟨GLes_com _ _ _, trivial⟩), GLe.refl _, GLe.refl _, trivial⟩, trivial⟩ ?_
                refine Into.at ⟨((i + 1, cs ++ [(h, (y :: pr) ++ [y])]), st), by show i + 1 ≤ x.l.length; omega, by show i + 1 ≤ 12; omega, by show (cs ++ [(h, (y :: pr) ++ [y])]).length ≤ i + 1; rw [List.length_append, List.length_singleton]; omega, fun c hc => ?_⟩ (by show 12 - (i + 1) < 12 - i; omega) ⟨[.row u 3 [[.int .i64 rn, .int .i64 rh, .slice (ints rp) .none]], .row v 33 [bytesG h.1 ++ [.slice (hsG (y :: pr) ++ [bytesG y.1]) (.tok 5 sp')]], .tok sp' 32], rfl⟩ (by simp [WL, leG_self, leG_any, leG_int])
                rcases List.mem_append.1 hc with q | q
                · exact hcp c q
                · rw [List.mem_singleton.1 q]; show ((y :: pr) ++ [y]).length ≤ 8; simp; omega
            · have e1 : (q = 1) = False := eq_false q1
              by_cases q2 : q = 2
              · subst q2
                simp +contextual -implicitDefEqProofs (maxSteps := 2000000) (disch := omega) only [drawC, drawK, keepT, ↓lenV, binV, optV, ↓loadV, ↓storeV, ↓fieldAddrV, ↓indexAddrV, ↓allocV, ↓boxV, ↓buildV, ↓buildSliceV, ↓sliceV, ↓appendV, ↓srcV, ↓minV, bound, cutTag, hiTag, fillG, fillE, place, GVal.cells, grp, GVal.ofConst, ↓resV, resG, List.map, List.headD, List.take, List.drop, ↓reduceIte, Nat.reduceEqDiff, Nat.reduceAdd, Nat.reduceSub, Nat.reduceLeDiff, reduceCtorEq, implies_true, ne_eq, ↓asrcV, aggV, Tag.cap, List.replicate, allSolid, GVal.solid, Nat.reduceBEq, Nat.reduceMul, Nat.reduceLT, List.length_map, List.length_range, splice, vcA, ↓vcB, vcC, fbFu, e9, dropZ, List.append_nil, take32a, drop32a, drop33a, take33a, len33, solid33, solidH, len32, take32, drop32y, hsG_len, csG_len, rawsG_len, ints_len, all_hsG, all_csG, all_ints, if32, one32, set33, k10, k20, k21, false_imp_iff, true_imp_iff, not_false_eq_true, not_true_eq_false, true_and, and_true, setO_6, setO_7, d2]
                refine cQ.then ?_ (by rfl)
                simp +contextual -implicitDefEqProofs (maxSteps := 2000000) (disch := omega) only [drawC, drawK, keepT, ↓lenV, binV, optV, ↓loadV, ↓storeV, ↓fieldAddrV, ↓indexAddrV, ↓allocV, ↓boxV, ↓buildV, ↓buildSliceV, ↓sliceV, ↓appendV, ↓srcV, ↓minV, bound, cutTag, hiTag, fillG, fillE, place, GVal.cells, grp, GVal.ofConst, ↓resV, resG, List.map, List.headD, List.take, List.drop, ↓reduceIte, Nat.reduceEqDiff, Nat.reduceAdd, Nat.reduceSub, Nat.reduceLeDiff, reduceCtorEq, implies_true, ne_eq, ↓asrcV, aggV, Tag.cap, List.replicate, allSolid, GVal.solid, Nat.reduceBEq, Nat.reduceMul, Nat.reduceLT, List.length_map, List.length_range, splice, vcA, ↓vcB, vcC, fbFu, e9, dropZ, List.append_nil, take32a, drop32a, drop33a, take33a, len33, solid33, solidH, len32, take32, drop32y, hsG_len, csG_len, rawsG_len, ints_len, all_hsG, all_csG, all_ints, if32, one32, set33, k10, k20, k21, false_imp_iff, true_imp_iff, not_false_eq_true, not_true_eq_false, true_and, and_true, setO_6, setO_7]
                have cH2 := hHashF (n + 1)
                obtain ⟨z, hz⟩ : ∃ z, hashF (n + 1) = z := ⟨_, rfl⟩
                rw [hz] at cH2
                refine cH2.then ?_ (by rfl)
                simp +contextual -implicitDefEqProofs (maxSteps := 2000000) (disch := omega) only [drawC, drawK, keepT, ↓lenV, binV, optV, ↓loadV, ↓storeV, ↓fieldAddrV, ↓indexAddrV, ↓allocV, ↓boxV, ↓buildV, ↓buildSliceV, ↓sliceV, ↓appendV, ↓srcV, ↓minV, bound, cutTag, hiTag, fillG, fillE, place, GVal.cells, grp, GVal.ofConst, ↓resV, resG, List.map, List.headD, List.take, List.drop, ↓reduceIte, Nat.reduceEqDiff, Nat.reduceAdd, Nat.reduceSub, Nat.reduceLeDiff, reduceCtorEq, implies_true, ne_eq, ↓asrcV, aggV, Tag.cap, List.replicate, allSolid, GVal.solid, Nat.reduceBEq, Nat.reduceMul, Nat.reduceLT, List.length_map, List.length_range, splice, vcA, ↓vcB, vcC, fbFu, e9, dropZ, List.append_nil, take32a, drop32a, drop33a, take33a, len33, solid33, solidH, len32, take32, drop32y, hsG_len, csG_len, rawsG_len, ints_len, all_hsG, all_csG, all_ints, if32, one32, set33, k10, k20, k21, false_imp_iff, true_imp_iff, not_false_eq_true, not_true_eq_false, true_and, and_true, setO_6, setO_7]
                refine ⟨by omega, by omega, fun st => ?_⟩
                refine Into.rowLe (t := s3) (sz := 3) 1 [[.slice (csG cs ++ [bytesG h.1 ++ [.slice (hsG ([z])) .full]]) (.tok 2 st), .slice [] .nil, .int .i64 gr]] [[.slice (csG (cs ++ [(h, [z])])) (.tok 2 st), .slice [] .nil, .int .i64 gr]] (by simp [hsG_app, hsG]) ⟨⟨GLe.slice (by rw [csG_app]; exact GLess.app (GLess.refl _) ⟨GLes_com _ _ _, trivial⟩), GLe.refl _, GLe.refl _, trivial⟩, trivial⟩ ?_
                refine Into.at ⟨((i + 1, cs ++ [(h, [z])]), st), by show i + 1 ≤ x.l.length; omega, by show i + 1 ≤ 12; omega, by show (cs ++ [(h, [z])]).length ≤ i + 1; rw [List.length_append, List.length_singleton]; omega, fun c hc => ?_⟩ (by show 12 - (i + 1) < 12 - i; omega) ⟨[.row u 3 [[.int .i64 rn, .int .i64 rh, .slice (ints rp) .none]], .row v 33 [bytesG h.1 ++ [.slice [bytesG z.1] .full]], .tok sp 32], rfl⟩ (by simp [WL, leG_self, leG_any, leG_int])
                rcases List.mem_append.1 hc with q | q
                · exact hcp c q
                · rw [List.mem_singleton.1 q]; show 1 ≤ 8; omega
              · have e2 : (q = 2) = False := eq_false q2
                simp +contextual -implicitDefEqProofs (maxSteps := 2000000) (disch := omega) only [drawC, drawK, keepT, ↓lenV, binV, optV, ↓loadV, ↓storeV, ↓fieldAddrV, ↓indexAddrV, ↓allocV, ↓boxV, ↓buildV, ↓buildSliceV, ↓sliceV, ↓appendV, ↓srcV, ↓minV, bound, cutTag, hiTag, fillG, fillE, place, GVal.cells, grp, GVal.ofConst, ↓resV, resG, List.map, List.headD, List.take, List.drop, ↓reduceIte, Nat.reduceEqDiff, Nat.reduceAdd, Nat.reduceSub, Nat.reduceLeDiff, reduceCtorEq, implies_true, ne_eq, ↓asrcV, aggV, Tag.cap, List.replicate, allSolid, GVal.solid, Nat.reduceBEq, Nat.reduceMul, Nat.reduceLT, List.length_map, List.length_range, splice, vcA, ↓vcB, vcC, fbFu, e9, dropZ, List.append_nil, take32a, drop32a, drop33a, take33a, len33, solid33, solidH, len32, take32, drop32y, hsG_len, csG_len, rawsG_len, ints_len, all_hsG, all_csG, all_ints, if32, one32, set33, k10, k20, k21, false_imp_iff, true_imp_iff, not_false_eq_true, not_true_eq_false, true_and, and_true, setO_6, setO_7, d2]
                refine cQ.then ?_ (by rfl)
                simp +contextual -implicitDefEqProofs (maxSteps := 2000000) (disch := omega) only [drawC, drawK, keepT, ↓lenV, binV, optV, ↓loadV, ↓storeV, ↓fieldAddrV, ↓indexAddrV, ↓allocV, ↓boxV, ↓buildV, ↓buildSliceV, ↓sliceV, ↓appendV, ↓srcV, ↓minV, bound, cutTag, hiTag, fillG, fillE, place, GVal.cells, grp, GVal.ofConst, ↓resV, resG, List.map, List.headD, List.take, List.drop, ↓reduceIte, Nat.reduceEqDiff, Nat.reduceAdd, Nat.reduceSub, Nat.reduceLeDiff, reduceCtorEq, implies_true, ne_eq, ↓asrcV, aggV, Tag.cap, List.replicate, allSolid, GVal.solid, Nat.reduceBEq, Nat.reduceMul, Nat.reduceLT, List.length_map, List.length_range, splice, vcA, ↓vcB, vcC, fbFu, e9, dropZ, List.append_nil, take32a, drop32a, drop33a, take33a, len33, solid33, solidH, len32, take32, drop32y, hsG_len, csG_len, rawsG_len, ints_len, all_hsG, all_csG, all_ints, if32, one32, set33, k10, k20, k21, false_imp_iff, true_imp_iff, not_false_eq_true, not_true_eq_false, true_and, and_true, setO_6, setO_7, e0, e1, e2]
                refine ⟨by omega, by omega, fun st => ?_⟩
                refine Into.rowLe (t := s3) (sz := 3) 1 [[.slice (csG cs ++ [bytesG h.1 ++ [.slice (hsG (ps)) (.tok 5 sp)]]) (.tok 2 st), .slice [] .nil, .int .i64 gr]] [[.slice (csG (cs ++ [(h, ps)])) (.tok 2 st), .slice [] .nil, .int .i64 gr]] (by simp [hsG_app, hsG]) ⟨⟨GLe.slice (by rw [csG_app]; exact GLess.app (GLess.refl _) ⟨GLes_com _ _ _, trivial⟩), GLe.refl _, GLe.refl _, trivial⟩, trivial⟩ ?_
                refine Into.at ⟨((i + 1, cs ++ [(h, ps)]), st), by show i + 1 ≤ x.l.length; omega, by show i + 1 ≤ 12; omega, by show (cs ++ [(h, ps)]).length ≤ i + 1; rw [List.length_append, List.length_singleton]; omega, fun c hc => ?_⟩ (by show 12 - (i + 1) < 12 - i; omega) ⟨[.row u 3 [[.int .i64 rn, .int .i64 rh, .slice (ints rp) .none]], .row v 33 [bytesG h.1 ++ [.slice (hsG ps) (.tok 5 sp)]], .tok sp 32], rfl⟩ (by simp [WL, leG_self, leG_any, leG_int])
                rcases List.mem_append.1 hc with q | q
                · exact hcp c q
                · rw [List.mem_singleton.1 q]; show ps.length ≤ 8; omega
    · have hstop : True := trivial
      have w1 := Int.emod_nonneg x.how (by decide : (50 : Int) ≠ 0)
      have w2 := Int.emod_lt_of_pos x.how (by decide : (0 : Int) < 50)
      have cV := sPick x.how 50 (by omega) (by omega)
      have m1 := Int.emod_nonneg (norm .i64 (x.how.tdiv 50)) (by decide : (4 : Int) ≠ 0)
      have m2 := Int.emod_lt_of_pos (norm .i64 (x.how.tdiv 50)) (by decide : (0 : Int) < 4)
      have cM := sPick (norm .i64 (x.how.tdiv 50)) 4 (by omega) (by omega)
      obtain ⟨w, hw⟩ : ∃ w, x.how % 50 = w := ⟨_, rfl⟩
      obtain ⟨q, hqv⟩ : ∃ q, norm .i64 (x.how.tdiv 50) % 4 = q := ⟨_, rfl⟩
      rw [hw] at cV w1 w2
      rw [hqv] at cM m1 m2
      have k10 : ((1 : Int) = 0) = False := eq_false (by decide)
      have k20 : ((2 : Int) = 0) = False := eq_false (by decide)
      have k21 : ((2 : Int) = 1) = False := eq_false (by decide)
      have h12 : cs.length ≤ 12 := by omega
      have hcase : (∀ k : Nat, k ≤ x.l.length → k ≤ 12 → ¬ (k < x.l.length ∧ k < 12) → ((k : Int) < (x.l.length : Int)) = True ∧ ((k : Int) < 12) = False) ∨ (∀ k : Nat, k ≤ x.l.length → k ≤ 12 → ¬ (k < x.l.length ∧ k < 12) → ((k : Int) < (x.l.length : Int)) = False ∧ (True = True)) := by
        by_cases hh : x.l.length ≤ 12
        · exact .inr fun k h1 h2 h3 => ⟨eq_false (by omega), rfl⟩
        · exact .inl fun k h1 h2 h3 => ⟨eq_true (by omega), eq_false (by omega)⟩
      rcases hcase with hexit | hexit
      all_goals
        obtain ⟨d0, d1⟩ := hexit i hil hi h
        simp +contextual -implicitDefEqProofs (maxSteps := 2000000) (disch := omega) only [drawC, drawK, keepT, ↓lenV, binV, optV, ↓loadV, ↓storeV, ↓fieldAddrV, ↓indexAddrV, ↓allocV, ↓boxV, ↓buildV, ↓buildSliceV, ↓sliceV, ↓appendV, ↓srcV, ↓minV, bound, cutTag, hiTag, fillG, fillE, place, GVal.cells, grp, GVal.ofConst, ↓resV, resG, List.map, List.headD, List.take, List.drop, ↓reduceIte, Nat.reduceEqDiff, Nat.reduceAdd, Nat.reduceSub, Nat.reduceLeDiff, reduceCtorEq, implies_true, ne_eq, ↓asrcV, aggV, Tag.cap, List.replicate, allSolid, GVal.solid, Nat.reduceBEq, Nat.reduceMul, Nat.reduceLT, List.length_map, List.length_range, splice, vcA, ↓vcB, vcC, fbFu, e9, d0, d1, dropZ, List.append_nil, take32a, drop32a, drop33a, take33a, len33, solid33, solidH, len32, take32, drop32y, hsG_len, csG_len, rawsG_len, ints_len, all_hsG, all_csG, all_ints, if32, one32, set33, k10, k20, k21, false_imp_iff, true_imp_iff, not_false_eq_true, not_true_eq_false, true_and, and_true, setO_6, setO_7]
        refine vcSLoop_by (ι := { p : (Nat × List Hs) × Nat // p.1.1 ≤ x.hs.length ∧ p.1.1 ≤ 4 ∧ p.1.2.length = p.1.1 }) (fun p => ⟨[.any, .ref (rrG x), .ptr 0 s2 0 0, .ptr 1 s3 0 0] ++ List.replicate 7 .any ++ [.int .i64 (p.1.1.1 : Nat)] ++ List.replicate 235 .any, [.row s2 3 [rqZ], .row s3 3 [[.slice (csG cs) (.tok 2 sc), .slice (hsG p.1.1.2) (.tok 3 p.1.2), .int .i64 gr]], .tok sc 33, .tok p.1.2 32]⟩) (fun p => 4 - p.1.1.1) ?_ ?_
        · refine Into.cellTok 1 1 32 [] rfl rfl rfl rfl ?_
          simp +contextual -implicitDefEqProofs (maxSteps := 2000000) (disch := omega) only [drawC, drawK, keepT, ↓lenV, binV, optV, ↓loadV, ↓storeV, ↓fieldAddrV, ↓indexAddrV, ↓allocV, ↓boxV, ↓buildV, ↓buildSliceV, ↓sliceV, ↓appendV, ↓srcV, ↓minV, bound, cutTag, hiTag, fillG, fillE, place, GVal.cells, grp, GVal.ofConst, ↓resV, resG, List.map, List.headD, List.take, List.drop, ↓reduceIte, Nat.reduceEqDiff, Nat.reduceAdd, Nat.reduceSub, Nat.reduceLeDiff, reduceCtorEq, implies_true, ne_eq, ↓asrcV, aggV, Tag.cap, List.replicate, allSolid, GVal.solid, Nat.reduceBEq, Nat.reduceMul, Nat.reduceLT, List.length_map, List.length_range, splice, vcA, ↓vcB, vcC, fbFu, e9]
          intro sh
          exact Into.first ⟨((0, []), sh), Nat.zero_le _, Nat.zero_le _, rfl⟩ ⟨[], rfl⟩ (by simp [WL, leG_self, leG_any])
        · rintro ⟨⟨⟨j, hs⟩, sh⟩, hj, hj4, hhl⟩
          change j ≤ x.hs.length at hj
          change j ≤ 4 at hj4
          change hs.length = j at hhl
          by_cases h' : j < x.hs.length ∧ j < 4
          · have d2 : ((j : Int) < (x.hs.length : Int)) = True := eq_true (by omega)
            have d3 : ((j : Int) < 4) = True := eq_true (by omega)
            have eA := ints_at x.hs j h'.1
            generalize x.hs.getD j 0 = a at *
            have cHa := hHashF a
            obtain ⟨y, hy⟩ : ∃ y, hashF a = y := ⟨_, rfl⟩
            rw [hy] at cHa
            simp +contextual -implicitDefEqProofs (maxSteps := 2000000) (disch := omega) only [drawC, drawK, keepT, ↓lenV, binV, optV, ↓loadV, ↓storeV, ↓fieldAddrV, ↓indexAddrV, ↓allocV, ↓boxV, ↓buildV, ↓buildSliceV, ↓sliceV, ↓appendV, ↓srcV, ↓minV, bound, cutTag, hiTag, fillG, fillE, place, GVal.cells, grp, GVal.ofConst, ↓resV, resG, List.map, List.headD, List.take, List.drop, ↓reduceIte, Nat.reduceEqDiff, Nat.reduceAdd, Nat.reduceSub, Nat.reduceLeDiff, reduceCtorEq, implies_true, ne_eq, ↓asrcV, aggV, Tag.cap, List.replicate, allSolid, GVal.solid, Nat.reduceBEq, Nat.reduceMul, Nat.reduceLT, List.length_map, List.length_range, splice, vcA, ↓vcB, vcC, fbFu, e9, dropZ, List.append_nil, take32a, drop32a, drop33a, take33a, len33, solid33, solidH, len32, take32, drop32y, hsG_len, csG_len, rawsG_len, ints_len, all_hsG, all_csG, all_ints, if32, one32, set33, k10, k20, k21, false_imp_iff, true_imp_iff, not_false_eq_true, not_true_eq_false, true_and, and_true, setO_6, setO_7, d2, d3, eA]
            refine ⟨by omega, ?_⟩
            refine cHa.then ?_ (by rfl)
            simp +contextual -implicitDefEqProofs (maxSteps := 2000000) (disch := omega) only [drawC, drawK, keepT, ↓lenV, binV, optV, ↓loadV, ↓storeV, ↓fieldAddrV, ↓indexAddrV, ↓allocV, ↓boxV, ↓buildV, ↓buildSliceV, ↓sliceV, ↓appendV, ↓srcV, ↓minV, bound, cutTag, hiTag, fillG, fillE, place, GVal.cells, grp, GVal.ofConst, ↓resV, resG, List.map, List.headD, List.take, List.drop, ↓reduceIte, Nat.reduceEqDiff, Nat.reduceAdd, Nat.reduceSub, Nat.reduceLeDiff, reduceCtorEq, implies_true, ne_eq, ↓asrcV, aggV, Tag.cap, List.replicate, allSolid, GVal.solid, Nat.reduceBEq, Nat.reduceMul, Nat.reduceLT, List.length_map, List.length_range, splice, vcA, ↓vcB, vcC, fbFu, e9, dropZ, List.append_nil, take32a, drop32a, drop33a, take33a, len33, solid33, solidH, len32, take32, drop32y, hsG_len, csG_len, rawsG_len, ints_len, all_hsG, all_csG, all_ints, if32, one32, set33, k10, k20, k21, false_imp_iff, true_imp_iff, not_false_eq_true, not_true_eq_false, true_and, and_true, setO_6, setO_7]
            refine ⟨⟨[], by simp⟩, by omega, by omega, fun sh' => ?_⟩
            exact Into.at ⟨((j + 1, hs ++ [y]), sh'), by show j + 1 ≤ x.hs.length; omega, by show j + 1 ≤ 4; omega, by show (hs ++ [y]).length = j + 1; rw [List.length_append, List.length_singleton, hhl]⟩ (by show 4 - (j + 1) < 4 - j; omega) ⟨[], by simp [hsG_app, hsG]⟩ (by simp [WL, leG_self, leG_any, leG_int])
          · have hh5 : hs.length ≤ 4 := by omega
            have hcase : (((j : Int) < (x.hs.length : Int)) = True ∧ ((j : Int) < 4) = False) ∨ (((j : Int) < (x.hs.length : Int)) = False ∧ (True = True)) := by
              by_cases hh : j < x.hs.length
              · exact .inl ⟨eq_true (by omega), eq_false (by omega)⟩
              · exact .inr ⟨eq_false (by omega), rfl⟩
            rcases hcase with ⟨d2, d3⟩ | ⟨d2, d3⟩
            all_goals
              simp +contextual -implicitDefEqProofs (maxSteps := 2000000) (disch := omega) only [drawC, drawK, keepT, ↓lenV, binV, optV, ↓loadV, ↓storeV, ↓fieldAddrV, ↓indexAddrV, ↓allocV, ↓boxV, ↓buildV, ↓buildSliceV, ↓sliceV, ↓appendV, ↓srcV, ↓minV, bound, cutTag, hiTag, fillG, fillE, place, GVal.cells, grp, GVal.ofConst, ↓resV, resG, List.map, List.headD, List.take, List.drop, ↓reduceIte, Nat.reduceEqDiff, Nat.reduceAdd, Nat.reduceSub, Nat.reduceLeDiff, reduceCtorEq, implies_true, ne_eq, ↓asrcV, aggV, Tag.cap, List.replicate, allSolid, GVal.solid, Nat.reduceBEq, Nat.reduceMul, Nat.reduceLT, List.length_map, List.length_range, splice, vcA, ↓vcB, vcC, fbFu, e9, dropZ, List.append_nil, take32a, drop32a, drop33a, take33a, len33, solid33, solidH, len32, take32, drop32y, hsG_len, csG_len, rawsG_len, ints_len, all_hsG, all_csG, all_ints, if32, one32, set33, k10, k20, k21, false_imp_iff, true_imp_iff, not_false_eq_true, not_true_eq_false, true_and, and_true, setO_6, setO_7, d2, d3]
              refine ⟨by decide, ?_⟩
              refine cM.then ?_ (by rfl)
              by_cases hq0 : 0 < q
              · have dq : ((0 : Int) < q) = True := eq_true hq0
                have eMin : (min (x.hs.length : Int) 4).toNat = min x.hs.length 4 := by omega
                have lT : (x.hs.take (min x.hs.length 4)).length ≤ 4 := by rw [List.length_take]; omega
                simp +contextual -implicitDefEqProofs (maxSteps := 2000000) (disch := omega) only [drawC, drawK, keepT, ↓lenV, binV, optV, ↓loadV, ↓storeV, ↓fieldAddrV, ↓indexAddrV, ↓allocV, ↓boxV, ↓buildV, ↓buildSliceV, ↓sliceV, ↓appendV, ↓srcV, ↓minV, bound, cutTag, hiTag, fillG, fillE, place, GVal.cells, grp, GVal.ofConst, ↓resV, resG, List.map, List.headD, List.take, List.drop, ↓reduceIte, Nat.reduceEqDiff, Nat.reduceAdd, Nat.reduceSub, Nat.reduceLeDiff, reduceCtorEq, implies_true, ne_eq, ↓asrcV, aggV, Tag.cap, List.replicate, allSolid, GVal.solid, Nat.reduceBEq, Nat.reduceMul, Nat.reduceLT, List.length_map, List.length_range, splice, vcA, ↓vcB, vcC, fbFu, e9, dropZ, List.append_nil, take32a, drop32a, drop33a, take33a, len33, solid33, solidH, len32, take32, drop32y, hsG_len, csG_len, rawsG_len, ints_len, all_hsG, all_csG, all_ints, if32, one32, set33, k10, k20, k21, false_imp_iff, true_imp_iff, not_false_eq_true, not_true_eq_false, true_and, and_true, setO_6, setO_7, dq, eMin, take_ints, toNat0, List.drop_zero]
                refine fun sb => ⟨by omega, by omega, by omega, ?_⟩
                obtain ⟨T0, hT0⟩ : ∃ T, x.hs.take (min x.hs.length 4) = T := ⟨_, rfl⟩
                rw [hT0] at lT ⊢
                refine vcSLoop_by (ι := { p : Nat × (List Bool × List Int) // p.1 ≤ x.l.length ∧ p.1 ≤ 12 ∧ p.2.1.length = 60 ∧ p.2.2.length ≤ 4 + 2 * p.1 }) (fun p => ⟨[.any, .ref (rrG x), .ptr 0 s2 0 0, .ptr 1 s3 0 0] ++ List.replicate 8 .any ++ [.ptr 4 sb 0 0, .slice (ints p.1.2.2) .none, .int .i64 (p.1.1 : Nat)] ++ List.replicate 232 .any, [.row s2 3 [rqZ], .row s3 3 [[.slice (csG cs) (.tok 2 sc), .slice (hsG hs) (.tok 3 sh), .int .i64 gr]], .tok sc 33, .tok sh 32, .row sb 60 [bls p.1.2.1]]⟩) (fun p => 12 - p.1.1) ?_ ?_
                · exact Into.first ⟨(0, (List.replicate 60 false, T0)), Nat.zero_le _, Nat.zero_le _, by simp, by show T0.length ≤ 4 + 2 * 0; omega⟩ ⟨[], rfl⟩ (by simp [WL, leG_self, leG_any])
                · rintro ⟨⟨k, ⟨B, T⟩⟩, hkl, hk, hB, hT⟩
                  change k ≤ x.l.length at hkl
                  change k ≤ 12 at hk
                  have hB : B.length = 60 := hB
                  change T.length ≤ 4 + 2 * k at hT
                  by_cases hk' : k < x.l.length ∧ k < 12
                  · have d4 : ((k : Int) < (x.l.length : Int)) = True := eq_true (by omega)
                    have d5 : ((k : Int) < 12) = True := eq_true (by omega)
                    have eR := rawsG_at x.l k hk'.1
                    generalize x.l.getD k default = r at *
                    obtain ⟨rn, rh, rp⟩ := r
                    have n1 := Int.emod_nonneg rn (by decide : (60 : Int) ≠ 0)
                    have n2 := Int.emod_lt_of_pos rn (by decide : (0 : Int) < 60)
                    have cN := sPick rn 60 (by omega) (by omega)
                    obtain ⟨n, hn⟩ : ∃ n, rn % 60 = n := ⟨_, rfl⟩
                    rw [hn] at cN n1 n2
                    have cA := gAhead n n1 n2
                    have lA := aheadL_len n
                    obtain ⟨A, hA⟩ : ∃ A, aheadL n = A := ⟨_, rfl⟩
                    rw [hA] at cA lA
                    simp +contextual -implicitDefEqProofs (maxSteps := 2000000) (disch := omega) only [drawC, drawK, keepT, ↓lenV, binV, optV, ↓loadV, ↓storeV, ↓fieldAddrV, ↓indexAddrV, ↓allocV, ↓boxV, ↓buildV, ↓buildSliceV, ↓sliceV, ↓appendV, ↓srcV, ↓minV, bound, cutTag, hiTag, fillG, fillE, place, GVal.cells, grp, GVal.ofConst, ↓resV, resG, List.map, List.headD, List.take, List.drop, ↓reduceIte, Nat.reduceEqDiff, Nat.reduceAdd, Nat.reduceSub, Nat.reduceLeDiff, reduceCtorEq, implies_true, ne_eq, ↓asrcV, aggV, Tag.cap, List.replicate, allSolid, GVal.solid, Nat.reduceBEq, Nat.reduceMul, Nat.reduceLT, List.length_map, List.length_range, splice, vcA, ↓vcB, vcC, fbFu, e9, dropZ, List.append_nil, take32a, drop32a, drop33a, take33a, len33, solid33, solidH, len32, take32, drop32y, hsG_len, csG_len, rawsG_len, ints_len, all_hsG, all_csG, all_ints, if32, one32, set33, k10, k20, k21, false_imp_iff, true_imp_iff, not_false_eq_true, not_true_eq_false, true_and, and_true, setO_6, setO_7, d4, d5, eR, rawC]
                    refine ⟨by omega, ?_⟩
                    refine cN.then ?_ (by rfl)
                    obtain ⟨m, hm⟩ : ∃ m, n.toNat = m := ⟨_, rfl⟩
                    have hm60 : m < 60 := by omega
                    have eB := bls_put B m (by omega)
                    simp +contextual -implicitDefEqProofs (maxSteps := 2000000) (disch := omega) only [drawC, drawK, keepT, ↓lenV, binV, optV, ↓loadV, ↓storeV, ↓fieldAddrV, ↓indexAddrV, ↓allocV, ↓boxV, ↓buildV, ↓buildSliceV, ↓sliceV, ↓appendV, ↓srcV, ↓minV, bound, cutTag, hiTag, fillG, fillE, place, GVal.cells, grp, GVal.ofConst, ↓resV, resG, List.map, List.headD, List.take, List.drop, ↓reduceIte, Nat.reduceEqDiff, Nat.reduceAdd, Nat.reduceSub, Nat.reduceLeDiff, reduceCtorEq, implies_true, ne_eq, ↓asrcV, aggV, Tag.cap, List.replicate, allSolid, GVal.solid, Nat.reduceBEq, Nat.reduceMul, Nat.reduceLT, List.length_map, List.length_range, splice, vcA, ↓vcB, vcC, fbFu, e9, dropZ, List.append_nil, take32a, drop32a, drop33a, take33a, len33, solid33, solidH, len32, take32, drop32y, hsG_len, csG_len, rawsG_len, ints_len, all_hsG, all_csG, all_ints, if32, one32, set33, k10, k20, k21, false_imp_iff, true_imp_iff, not_false_eq_true, not_true_eq_false, true_and, and_true, setO_6, setO_7, eR, rawC, hm, eB]
                    refine ⟨by omega, by omega, by rw [bls_len]; omega, by omega, by omega, by omega, by omega, fun st => ⟨⟨[_], rfl⟩, ?_⟩⟩
                    refine cN.then ?_ (by rfl)
                    simp +contextual -implicitDefEqProofs (maxSteps := 2000000) (disch := omega) only [drawC, drawK, keepT, ↓lenV, binV, optV, ↓loadV, ↓storeV, ↓fieldAddrV, ↓indexAddrV, ↓allocV, ↓boxV, ↓buildV, ↓buildSliceV, ↓sliceV, ↓appendV, ↓srcV, ↓minV, bound, cutTag, hiTag, fillG, fillE, place, GVal.cells, grp, GVal.ofConst, ↓resV, resG, List.map, List.headD, List.take, List.drop, ↓reduceIte, Nat.reduceEqDiff, Nat.reduceAdd, Nat.reduceSub, Nat.reduceLeDiff, reduceCtorEq, implies_true, ne_eq, ↓asrcV, aggV, Tag.cap, List.replicate, allSolid, GVal.solid, Nat.reduceBEq, Nat.reduceMul, Nat.reduceLT, List.length_map, List.length_range, splice, vcA, ↓vcB, vcC, fbFu, e9, dropZ, List.append_nil, take32a, drop32a, drop33a, take33a, len33, solid33, solidH, len32, take32, drop32y, hsG_len, csG_len, rawsG_len, ints_len, all_hsG, all_csG, all_ints, if32, one32, set33, k10, k20, k21, false_imp_iff, true_imp_iff, not_false_eq_true, not_true_eq_false, true_and, and_true, setO_6, setO_7]
                    refine cA.then ?_ (by rfl)
                    simp +contextual -implicitDefEqProofs (maxSteps := 2000000) (disch := omega) only [drawC, drawK, keepT, ↓lenV, binV, optV, ↓loadV, ↓storeV, ↓fieldAddrV, ↓indexAddrV, ↓allocV, ↓boxV, ↓buildV, ↓buildSliceV, ↓sliceV, ↓appendV, ↓srcV, ↓minV, bound, cutTag, hiTag, fillG, fillE, place, GVal.cells, grp, GVal.ofConst, ↓resV, resG, List.map, List.headD, List.take, List.drop, ↓reduceIte, Nat.reduceEqDiff, Nat.reduceAdd, Nat.reduceSub, Nat.reduceLeDiff, reduceCtorEq, implies_true, ne_eq, ↓asrcV, aggV, Tag.cap, List.replicate, allSolid, GVal.solid, Nat.reduceBEq, Nat.reduceMul, Nat.reduceLT, List.length_map, List.length_range, splice, vcA, ↓vcB, vcC, fbFu, e9, dropZ, List.append_nil, take32a, drop32a, drop33a, take33a, len33, solid33, solidH, len32, take32, drop32y, hsG_len, csG_len, rawsG_len, ints_len, all_hsG, all_csG, all_ints, if32, one32, set33, k10, k20, k21, false_imp_iff, true_imp_iff, not_false_eq_true, not_true_eq_false, true_and, and_true, setO_6, setO_7]
                    refine ⟨by omega, by omega, fun st2 => ?_⟩
                    exact Into.at ⟨(k + 1, (B.set m true, T ++ A)), by show k + 1 ≤ x.l.length; omega, by show k + 1 ≤ 12; omega, by show (B.set m true).length = 60; rw [List.length_set]; exact hB, by show (T ++ A).length ≤ 4 + 2 * (k + 1); rw [List.length_append]; omega⟩ (by show 12 - (k + 1) < 12 - k; omega) ⟨[.tok st2 1], by simp⟩ (by simp [WL, leG_self, leG_any, leG_none, leG_int, ints])
                  · obtain ⟨d4, d5⟩ := hexit k hkl hk hk'
                    simp +contextual -implicitDefEqProofs (maxSteps := 2000000) (disch := omega) only [drawC, drawK, keepT, ↓lenV, binV, optV, ↓loadV, ↓storeV, ↓fieldAddrV, ↓indexAddrV, ↓allocV, ↓boxV, ↓buildV, ↓buildSliceV, ↓sliceV, ↓appendV, ↓srcV, ↓minV, bound, cutTag, hiTag, fillG, fillE, place, GVal.cells, grp, GVal.ofConst, ↓resV, resG, List.map, List.headD, List.take, List.drop, ↓reduceIte, Nat.reduceEqDiff, Nat.reduceAdd, Nat.reduceSub, Nat.reduceLeDiff, reduceCtorEq, implies_true, ne_eq, ↓asrcV, aggV, Tag.cap, List.replicate, allSolid, GVal.solid, Nat.reduceBEq, Nat.reduceMul, Nat.reduceLT, List.length_map, List.length_range, splice, vcA, ↓vcB, vcC, fbFu, e9, dropZ, List.append_nil, take32a, drop32a, drop33a, take33a, len33, solid33, solidH, len32, take32, drop32y, hsG_len, csG_len, rawsG_len, ints_len, all_hsG, all_csG, all_ints, if32, one32, set33, k10, k20, k21, false_imp_iff, true_imp_iff, not_false_eq_true, not_true_eq_false, true_and, and_true, setO_6, setO_7, d4, d5]
                    refine vcSLoop_by (ι := { p : (List Cm × Nat) × (List Bool × List Int) // p.2.1.length = 60 ∧ p.1.1.length + p.2.1.count false ≤ 72 ∧ (∀ c ∈ p.1.1, c.2.length ≤ 8) ∧ p.2.2.length + 2 * p.2.1.count false ≤ 200 }) (fun p => ⟨[.any, .ref (rrG x), .ptr 0 s2 0 0, .ptr 1 s3 0 0] ++ List.replicate 8 .any ++ [.ptr 4 sb 0 0, .slice (ints p.1.2.2) .none] ++ List.replicate 233 .any, [.row s2 3 [rqZ], .row s3 3 [[.slice (csG p.1.1.1) (.tok 2 p.1.1.2), .slice (hsG hs) (.tok 3 sh), .int .i64 gr]], .tok p.1.1.2 33, .tok sh 32, .row sb 60 [bls p.1.2.1]]⟩) (fun p => 3 * p.1.2.1.count false + p.1.2.2.length) ?_ ?_
                    · have hcB : B.count false ≤ 60 := by have := List.count_le_length (a := false) (l := B); omega
                      exact Into.first ⟨((cs, sc), (B, T)), hB, by show cs.length + B.count false ≤ 72; omega, hcp, by show T.length + 2 * B.count false ≤ 200; omega⟩ ⟨[], by simp⟩ (by simp [WL, leG_self, leG_any])
                    · clear hk' hT hB d4 d5 hkl hk h12 hcp hcl
                      rintro ⟨⟨⟨cs, sc⟩, ⟨B, T⟩⟩, hB, hcl, hcp, hT⟩
                      have hB : B.length = 60 := hB
                      change cs.length + B.count false ≤ 72 at hcl
                      have hcp : ∀ c ∈ cs, c.2.length ≤ 8 := hcp
                      change T.length + 2 * B.count false ≤ 200 at hT
                      match T, hT with
                      | [], hT =>
                        simp +contextual -implicitDefEqProofs (maxSteps := 2000000) (disch := omega) only [drawC, drawK, keepT, ↓lenV, binV, optV, ↓loadV, ↓storeV, ↓fieldAddrV, ↓indexAddrV, ↓allocV, ↓boxV, ↓buildV, ↓buildSliceV, ↓sliceV, ↓appendV, ↓srcV, ↓minV, bound, cutTag, hiTag, fillG, fillE, place, GVal.cells, grp, GVal.ofConst, ↓resV, resG, List.map, List.headD, List.take, List.drop, ↓reduceIte, Nat.reduceEqDiff, Nat.reduceAdd, Nat.reduceSub, Nat.reduceLeDiff, reduceCtorEq, implies_true, ne_eq, ↓asrcV, aggV, Tag.cap, List.replicate, allSolid, GVal.solid, Nat.reduceBEq, Nat.reduceMul, Nat.reduceLT, List.length_map, List.length_range, splice, vcA, ↓vcB, vcC, fbFu, e9, dropZ, List.append_nil, take32a, drop32a, drop33a, take33a, len33, solid33, solidH, len32, take32, drop32y, hsG_len, csG_len, rawsG_len, ints_len, all_hsG, all_csG, all_ints, if32, one32, set33, k10, k20, k21, false_imp_iff, true_imp_iff, not_false_eq_true, not_true_eq_false, true_and, and_true, setO_6, setO_7, List.length_nil, Int.natCast_zero, Int.lt_irrefl]
                        refine cV.then ?_ (by rfl)
                        by_cases v0 : w = 0
                        · subst v0
                          simp +contextual -implicitDefEqProofs (maxSteps := 2000000) (disch := omega) only [drawC, drawK, keepT, ↓lenV, binV, optV, ↓loadV, ↓storeV, ↓fieldAddrV, ↓indexAddrV, ↓allocV, ↓boxV, ↓buildV, ↓buildSliceV, ↓sliceV, ↓appendV, ↓srcV, ↓minV, bound, cutTag, hiTag, fillG, fillE, place, GVal.cells, grp, GVal.ofConst, ↓resV, resG, List.map, List.headD, List.take, List.drop, ↓reduceIte, Nat.reduceEqDiff, Nat.reduceAdd, Nat.reduceSub, Nat.reduceLeDiff, reduceCtorEq, implies_true, ne_eq, ↓asrcV, aggV, Tag.cap, List.replicate, allSolid, GVal.solid, Nat.reduceBEq, Nat.reduceMul, Nat.reduceLT, List.length_map, List.length_range, splice, vcA, ↓vcB, vcC, fbFu, e9, dropZ, List.append_nil, take32a, drop32a, drop33a, take33a, len33, solid33, solidH, len32, take32, drop32y, hsG_len, csG_len, rawsG_len, ints_len, all_hsG, all_csG, all_ints, if32, one32, set33, k10, k20, k21, false_imp_iff, true_imp_iff, not_false_eq_true, not_true_eq_false, true_and, and_true, setO_6, setO_7]
                          exact ⟨.agg (reqG cs hs .none x.g), [], _, rfl, fin_le _ _ _ _ _, cs, hs, x.g, ⟨by omega, hcp, by omega⟩, rfl, rfl⟩
                        · by_cases v1 : w = 1
                          · subst v1
                            simp +contextual -implicitDefEqProofs (maxSteps := 2000000) (disch := omega) only [drawC, drawK, keepT, ↓lenV, binV, optV, ↓loadV, ↓storeV, ↓fieldAddrV, ↓indexAddrV, ↓allocV, ↓boxV, ↓buildV, ↓buildSliceV, ↓sliceV, ↓appendV, ↓srcV, ↓minV, bound, cutTag, hiTag, fillG, fillE, place, GVal.cells, grp, GVal.ofConst, ↓resV, resG, List.map, List.headD, List.take, List.drop, ↓reduceIte, Nat.reduceEqDiff, Nat.reduceAdd, Nat.reduceSub, Nat.reduceLeDiff, reduceCtorEq, implies_true, ne_eq, ↓asrcV, aggV, Tag.cap, List.replicate, allSolid, GVal.solid, Nat.reduceBEq, Nat.reduceMul, Nat.reduceLT, List.length_map, List.length_range, splice, vcA, ↓vcB, vcC, fbFu, e9, dropZ, List.append_nil, take32a, drop32a, drop33a, take33a, len33, solid33, solidH, len32, take32, drop32y, hsG_len, csG_len, rawsG_len, ints_len, all_hsG, all_csG, all_ints, if32, one32, set33, k10, k20, k21, false_imp_iff, true_imp_iff, not_false_eq_true, not_true_eq_false, true_and, and_true, setO_6, setO_7, nineH]
                            refine ⟨by omega, by omega, fun st => ?_⟩
                            exact ⟨.agg (reqG cs (hs ++ [hq 9 0 0]) .none gr), [], _, rfl, by rw [nine_snoc]; exact fin_le _ _ _ _ _, cs, hs ++ [hq 9 0 0], gr, ⟨by omega, hcp, by rw [List.length_append, List.length_singleton]; omega⟩, rfl, rfl⟩
                          · have e0 : (w = 0) = False := eq_false v0
                            have e1 : (w = 1) = False := eq_false v1
                            simp +contextual -implicitDefEqProofs (maxSteps := 2000000) (disch := omega) only [drawC, drawK, keepT, ↓lenV, binV, optV, ↓loadV, ↓storeV, ↓fieldAddrV, ↓indexAddrV, ↓allocV, ↓boxV, ↓buildV, ↓buildSliceV, ↓sliceV, ↓appendV, ↓srcV, ↓minV, bound, cutTag, hiTag, fillG, fillE, place, GVal.cells, grp, GVal.ofConst, ↓resV, resG, List.map, List.headD, List.take, List.drop, ↓reduceIte, Nat.reduceEqDiff, Nat.reduceAdd, Nat.reduceSub, Nat.reduceLeDiff, reduceCtorEq, implies_true, ne_eq, ↓asrcV, aggV, Tag.cap, List.replicate, allSolid, GVal.solid, Nat.reduceBEq, Nat.reduceMul, Nat.reduceLT, List.length_map, List.length_range, splice, vcA, ↓vcB, vcC, fbFu, e9, dropZ, List.append_nil, take32a, drop32a, drop33a, take33a, len33, solid33, solidH, len32, take32, drop32y, hsG_len, csG_len, rawsG_len, ints_len, all_hsG, all_csG, all_ints, if32, one32, set33, k10, k20, k21, false_imp_iff, true_imp_iff, not_false_eq_true, not_true_eq_false, true_and, and_true, setO_6, setO_7, e0, e1]
                            exact ⟨.agg (reqG cs hs .none gr), [], _, rfl, fin_le _ _ _ _ _, cs, hs, gr, ⟨by omega, hcp, by omega⟩, rfl, rfl⟩

                      | a :: T', hT =>
                        have hT' : T'.length + 1 + 2 * B.count false ≤ 200 := by simpa using hT
                        have dT : ((0 : Int) < (T'.length : Int) + 1) = True := eq_true (by omega)
                        have n1 := Int.emod_nonneg a (by decide : (60 : Int) ≠ 0)
                        have n2 := Int.emod_lt_of_pos a (by decide : (0 : Int) < 60)
                        have cN := sPick a 60 (by omega) (by omega)
                        obtain ⟨n, hn⟩ : ∃ n, a % 60 = n := ⟨_, rfl⟩
                        rw [hn] at cN n1 n2
                        have cA := gAhead n n1 n2
                        have lA := aheadL_len n
                        obtain ⟨A, hA⟩ : ∃ A, aheadL n = A := ⟨_, rfl⟩
                        rw [hA] at cA lA
                        obtain ⟨h, hh⟩ : ∃ h, hashF n = h := ⟨_, rfl⟩
                        have cHn := hHashF n
                        rw [hh] at cHn
                        obtain ⟨m, hm⟩ : ∃ m, n.toNat = m := ⟨_, rfl⟩
                        have hm60 : m < 60 := by omega
                        have eB := bls_put B m (by omega)
                        have eG := bls_at B m (by omega)
                        have eT0 : (ints (a :: T')).getD 0 [] = [.int .i64 a] := rfl
                        have eT1 : (ints (a :: T')).drop 1 = ints T' := rfl
                        have tn1 : (Int.toNat 1) = 1 := rfl
                        have eTt : List.take ((T'.length : Int) + 1).toNat (ints (a :: T')) = ints (a :: T') := List.take_of_length_le (by rw [ints_len]; simp)
                        simp +contextual -implicitDefEqProofs (maxSteps := 2000000) (disch := omega) only [drawC, drawK, keepT, ↓lenV, binV, optV, ↓loadV, ↓storeV, ↓fieldAddrV, ↓indexAddrV, ↓allocV, ↓boxV, ↓buildV, ↓buildSliceV, ↓sliceV, ↓appendV, ↓srcV, ↓minV, bound, cutTag, hiTag, fillG, fillE, place, GVal.cells, grp, GVal.ofConst, ↓resV, resG, List.map, List.headD, List.take, List.drop, ↓reduceIte, Nat.reduceEqDiff, Nat.reduceAdd, Nat.reduceSub, Nat.reduceLeDiff, reduceCtorEq, implies_true, ne_eq, ↓asrcV, aggV, Tag.cap, List.replicate, allSolid, GVal.solid, Nat.reduceBEq, Nat.reduceMul, Nat.reduceLT, List.length_map, List.length_range, splice, vcA, ↓vcB, vcC, fbFu, e9, dropZ, List.append_nil, take32a, drop32a, drop33a, take33a, len33, solid33, solidH, len32, take32, drop32y, hsG_len, csG_len, rawsG_len, ints_len, all_hsG, all_csG, all_ints, if32, one32, set33, k10, k20, k21, false_imp_iff, true_imp_iff, not_false_eq_true, not_true_eq_false, true_and, and_true, setO_6, setO_7, dT, eT0, toNat0, List.length_cons]
                        refine ⟨by omega, ?_⟩
                        refine cN.then ?_ (by rfl)
                        cases eb : B.getD m false with
                        | true =>
                          rw [eb] at eG
                          simp +contextual -implicitDefEqProofs (maxSteps := 2000000) (disch := omega) only [drawC, drawK, keepT, ↓lenV, binV, optV, ↓loadV, ↓storeV, ↓fieldAddrV, ↓indexAddrV, ↓allocV, ↓boxV, ↓buildV, ↓buildSliceV, ↓sliceV, ↓appendV, ↓srcV, ↓minV, bound, cutTag, hiTag, fillG, fillE, place, GVal.cells, grp, GVal.ofConst, ↓resV, resG, List.map, List.headD, List.take, List.drop, ↓reduceIte, Nat.reduceEqDiff, Nat.reduceAdd, Nat.reduceSub, Nat.reduceLeDiff, reduceCtorEq, implies_true, ne_eq, ↓asrcV, aggV, Tag.cap, List.replicate, allSolid, GVal.solid, Nat.reduceBEq, Nat.reduceMul, Nat.reduceLT, List.length_map, List.length_range, splice, vcA, ↓vcB, vcC, fbFu, e9, dropZ, List.append_nil, take32a, drop32a, drop33a, take33a, len33, solid33, solidH, len32, take32, drop32y, hsG_len, csG_len, rawsG_len, ints_len, all_hsG, all_csG, all_ints, if32, one32, set33, k10, k20, k21, false_imp_iff, true_imp_iff, not_false_eq_true, not_true_eq_false, true_and, and_true, setO_6, setO_7, hm, eG, eTt, eT1, tn1, List.length_cons]
                          refine ⟨by omega, by omega, by omega, by omega, by omega, by rw [bls_len]; omega, ?_⟩
                          exact Into.at ⟨((cs, sc), (B, T')), hB, hcl, hcp, by show T'.length + 2 * B.count false ≤ 200; omega⟩ (by show 3 * B.count false + T'.length < 3 * B.count false + (T'.length + 1); omega) ⟨[], by simp⟩ (by simp [WL, leG_self, leG_any])
                        | false =>
                          rw [eb] at eG
                          have hcs := count_set B m (by omega) eb
                          simp +contextual -implicitDefEqProofs (maxSteps := 2000000) (disch := omega) only [drawC, drawK, keepT, ↓lenV, binV, optV, ↓loadV, ↓storeV, ↓fieldAddrV, ↓indexAddrV, ↓allocV, ↓boxV, ↓buildV, ↓buildSliceV, ↓sliceV, ↓appendV, ↓srcV, ↓minV, bound, cutTag, hiTag, fillG, fillE, place, GVal.cells, grp, GVal.ofConst, ↓resV, resG, List.map, List.headD, List.take, List.drop, ↓reduceIte, Nat.reduceEqDiff, Nat.reduceAdd, Nat.reduceSub, Nat.reduceLeDiff, reduceCtorEq, implies_true, ne_eq, ↓asrcV, aggV, Tag.cap, List.replicate, allSolid, GVal.solid, Nat.reduceBEq, Nat.reduceMul, Nat.reduceLT, List.length_map, List.length_range, splice, vcA, ↓vcB, vcC, fbFu, e9, dropZ, List.append_nil, take32a, drop32a, drop33a, take33a, len33, solid33, solidH, len32, take32, drop32y, hsG_len, csG_len, rawsG_len, ints_len, all_hsG, all_csG, all_ints, if32, one32, set33, k10, k20, k21, false_imp_iff, true_imp_iff, not_false_eq_true, not_true_eq_false, true_and, and_true, setO_6, setO_7, hm, eG, eB, eTt, eT1, tn1, List.length_cons]
                          refine ⟨by omega, by omega, by omega, by omega, by omega, by rw [bls_len]; omega, by omega, by omega, by rw [bls_len]; omega, ?_⟩
                          obtain ⟨B', hB'⟩ : ∃ B', B.set m true = B' := ⟨_, rfl⟩
                          have hBl' : B'.length = 60 := by rw [← hB', List.length_set]; exact hB
                          rw [hB'] at hcs ⊢
                          refine cHn.then ?_ (by rfl)
                          simp +contextual -implicitDefEqProofs (maxSteps := 2000000) (disch := omega) only [drawC, drawK, keepT, ↓lenV, binV, optV, ↓loadV, ↓storeV, ↓fieldAddrV, ↓indexAddrV, ↓allocV, ↓boxV, ↓buildV, ↓buildSliceV, ↓sliceV, ↓appendV, ↓srcV, ↓minV, bound, cutTag, hiTag, fillG, fillE, place, GVal.cells, grp, GVal.ofConst, ↓resV, resG, List.map, List.headD, List.take, List.drop, ↓reduceIte, Nat.reduceEqDiff, Nat.reduceAdd, Nat.reduceSub, Nat.reduceLeDiff, reduceCtorEq, implies_true, ne_eq, ↓asrcV, aggV, Tag.cap, List.replicate, allSolid, GVal.solid, Nat.reduceBEq, Nat.reduceMul, Nat.reduceLT, List.length_map, List.length_range, splice, vcA, ↓vcB, vcC, fbFu, e9, dropZ, List.append_nil, take32a, drop32a, drop33a, take33a, len33, solid33, solidH, len32, take32, drop32y, hsG_len, csG_len, rawsG_len, ints_len, all_hsG, all_csG, all_ints, if32, one32, set33, k10, k20, k21, false_imp_iff, true_imp_iff, not_false_eq_true, not_true_eq_false, true_and, and_true, setO_6, setO_7]
                          intro v
                          refine cA.then ?_ (by rfl)
                          simp +contextual -implicitDefEqProofs (maxSteps := 2000000) (disch := omega) only [drawC, drawK, keepT, ↓lenV, binV, optV, ↓loadV, ↓storeV, ↓fieldAddrV, ↓indexAddrV, ↓allocV, ↓boxV, ↓buildV, ↓buildSliceV, ↓sliceV, ↓appendV, ↓srcV, ↓minV, bound, cutTag, hiTag, fillG, fillE, place, GVal.cells, grp, GVal.ofConst, ↓resV, resG, List.map, List.headD, List.take, List.drop, ↓reduceIte, Nat.reduceEqDiff, Nat.reduceAdd, Nat.reduceSub, Nat.reduceLeDiff, reduceCtorEq, implies_true, ne_eq, ↓asrcV, aggV, Tag.cap, List.replicate, allSolid, GVal.solid, Nat.reduceBEq, Nat.reduceMul, Nat.reduceLT, List.length_map, List.length_range, splice, vcA, ↓vcB, vcC, fbFu, e9, dropZ, List.append_nil, take32a, drop32a, drop33a, take33a, len33, solid33, solidH, len32, take32, drop32y, hsG_len, csG_len, rawsG_len, ints_len, all_hsG, all_csG, all_ints, if32, one32, set33, k10, k20, k21, false_imp_iff, true_imp_iff, not_false_eq_true, not_true_eq_false, true_and, and_true, setO_6, setO_7]
                          refine vcSLoop_by (ι := { p : (Nat × List Hs) × Nat // p.1.1 ≤ A.length ∧ p.1.2.length = p.1.1 }) (fun p => ⟨[.any, .ref (rrG x), .ptr 0 s2 0 0, .ptr 1 s3 0 0] ++ List.replicate 8 .any ++ [.ptr 4 sb 0 0, .slice (ints T') .none, .any, .int .i64 n, .ptr 5 v 0 0, .slice (ints A) .none, .int .i64 (p.1.1.1 : Nat)] ++ List.replicate 228 .any, [.row s2 3 [rqZ], .row s3 3 [[.slice (csG cs) (.tok 2 sc), .slice (hsG hs) (.tok 3 sh), .int .i64 gr]], .tok sc 33, .tok sh 32, .row sb 60 [bls B'], .row v 33 [bytesG h.1 ++ [.slice (hsG p.1.1.2) (.tok 6 p.1.2)]], .tok p.1.2 32]⟩) (fun p => A.length - p.1.1.1) ?_ ?_
                          · refine Into.cellTok 5 32 32 [] (tg := .nil) rfl (at33 h _) rfl (len33 h _) ?_
                            simp +contextual -implicitDefEqProofs (maxSteps := 2000000) (disch := omega) only [drawC, drawK, keepT, ↓lenV, binV, optV, ↓loadV, ↓storeV, ↓fieldAddrV, ↓indexAddrV, ↓allocV, ↓boxV, ↓buildV, ↓buildSliceV, ↓sliceV, ↓appendV, ↓srcV, ↓minV, bound, cutTag, hiTag, fillG, fillE, place, GVal.cells, grp, GVal.ofConst, ↓resV, resG, List.map, List.headD, List.take, List.drop, ↓reduceIte, Nat.reduceEqDiff, Nat.reduceAdd, Nat.reduceSub, Nat.reduceLeDiff, reduceCtorEq, implies_true, ne_eq, ↓asrcV, aggV, Tag.cap, List.replicate, allSolid, GVal.solid, Nat.reduceBEq, Nat.reduceMul, Nat.reduceLT, List.length_map, List.length_range, splice, vcA, ↓vcB, vcC, fbFu, e9]
                            intro sp
                            exact Into.first ⟨((0, []), sp), Nat.zero_le _, rfl⟩ ⟨[], by simp [set33, hsG]⟩ (by simp [WL, leG_self, leG_any])
                          · rintro ⟨⟨⟨j, ps⟩, sp⟩, hj, hpl⟩
                            change j ≤ A.length at hj
                            change ps.length = j at hpl
                            by_cases h' : j < A.length
                            · have d2 : ((j : Int) < (A.length : Int)) = True := eq_true (by omega)
                              have eA := ints_at A j h'
                              generalize A.getD j 0 = a at *
                              have cHa := hHashF a
                              obtain ⟨y, hy⟩ : ∃ y, hashF a = y := ⟨_, rfl⟩
                              rw [hy] at cHa
                              simp +contextual -implicitDefEqProofs (maxSteps := 2000000) (disch := omega) only [drawC, drawK, keepT, ↓lenV, binV, optV, ↓loadV, ↓storeV, ↓fieldAddrV, ↓indexAddrV, ↓allocV, ↓boxV, ↓buildV, ↓buildSliceV, ↓sliceV, ↓appendV, ↓srcV, ↓minV, bound, cutTag, hiTag, fillG, fillE, place, GVal.cells, grp, GVal.ofConst, ↓resV, resG, List.map, List.headD, List.take, List.drop, ↓reduceIte, Nat.reduceEqDiff, Nat.reduceAdd, Nat.reduceSub, Nat.reduceLeDiff, reduceCtorEq, implies_true, ne_eq, ↓asrcV, aggV, Tag.cap, List.replicate, allSolid, GVal.solid, Nat.reduceBEq, Nat.reduceMul, Nat.reduceLT, List.length_map, List.length_range, splice, vcA, ↓vcB, vcC, fbFu, e9, dropZ, List.append_nil, take32a, drop32a, drop33a, take33a, len33, solid33, solidH, len32, take32, drop32y, hsG_len, csG_len, rawsG_len, ints_len, all_hsG, all_csG, all_ints, if32, one32, set33, k10, k20, k21, false_imp_iff, true_imp_iff, not_false_eq_true, not_true_eq_false, true_and, and_true, setO_6, setO_7, d2, eA]
                              refine ⟨by omega, ?_⟩
                              refine cHa.then ?_ (by rfl)
                              simp +contextual -implicitDefEqProofs (maxSteps := 2000000) (disch := omega) only [drawC, drawK, keepT, ↓lenV, binV, optV, ↓loadV, ↓storeV, ↓fieldAddrV, ↓indexAddrV, ↓allocV, ↓boxV, ↓buildV, ↓buildSliceV, ↓sliceV, ↓appendV, ↓srcV, ↓minV, bound, cutTag, hiTag, fillG, fillE, place, GVal.cells, grp, GVal.ofConst, ↓resV, resG, List.map, List.headD, List.take, List.drop, ↓reduceIte, Nat.reduceEqDiff, Nat.reduceAdd, Nat.reduceSub, Nat.reduceLeDiff, reduceCtorEq, implies_true, ne_eq, ↓asrcV, aggV, Tag.cap, List.replicate, allSolid, GVal.solid, Nat.reduceBEq, Nat.reduceMul, Nat.reduceLT, List.length_map, List.length_range, splice, vcA, ↓vcB, vcC, fbFu, e9, dropZ, List.append_nil, take32a, drop32a, drop33a, take33a, len33, solid33, solidH, len32, take32, drop32y, hsG_len, csG_len, rawsG_len, ints_len, all_hsG, all_csG, all_ints, if32, one32, set33, k10, k20, k21, false_imp_iff, true_imp_iff, not_false_eq_true, not_true_eq_false, true_and, and_true, setO_6, setO_7]
                              refine ⟨⟨[], by simp⟩, by omega, by omega, fun sp' => ?_⟩
                              exact Into.at ⟨((j + 1, ps ++ [y]), sp'), by show j + 1 ≤ A.length; omega, by show (ps ++ [y]).length = j + 1; rw [List.length_append, List.length_singleton, hpl]⟩ (by show A.length - (j + 1) < A.length - j; omega) ⟨[], by simp [hsG_app, hsG]⟩ (by simp [WL, leG_self, leG_any, leG_int])
                            · have d2 : ((j : Int) < (A.length : Int)) = False := eq_false (by omega)
                              simp +contextual -implicitDefEqProofs (maxSteps := 2000000) (disch := omega) only [drawC, drawK, keepT, ↓lenV, binV, optV, ↓loadV, ↓storeV, ↓fieldAddrV, ↓indexAddrV, ↓allocV, ↓boxV, ↓buildV, ↓buildSliceV, ↓sliceV, ↓appendV, ↓srcV, ↓minV, bound, cutTag, hiTag, fillG, fillE, place, GVal.cells, grp, GVal.ofConst, ↓resV, resG, List.map, List.headD, List.take, List.drop, ↓reduceIte, Nat.reduceEqDiff, Nat.reduceAdd, Nat.reduceSub, Nat.reduceLeDiff, reduceCtorEq, implies_true, ne_eq, ↓asrcV, aggV, Tag.cap, List.replicate, allSolid, GVal.solid, Nat.reduceBEq, Nat.reduceMul, Nat.reduceLT, List.length_map, List.length_range, splice, vcA, ↓vcB, vcC, fbFu, e9, dropZ, List.append_nil, take32a, drop32a, drop33a, take33a, len33, solid33, solidH, len32, take32, drop32y, hsG_len, csG_len, rawsG_len, ints_len, all_hsG, all_csG, all_ints, if32, one32, set33, k10, k20, k21, false_imp_iff, true_imp_iff, not_false_eq_true, not_true_eq_false, true_and, and_true, setO_6, setO_7, d2]
                              refine ⟨by omega, by omega, fun st => ⟨by omega, by omega, fun st2 => ⟨by omega, by omega, fun st3 => ?_⟩⟩⟩
                              refine Into.rowLe (t := s3) (sz := 3) 1 [[.slice (csG cs ++ [bytesG h.1 ++ [.slice (hsG ps) (.tok 6 sp)]]) (.tok 2 st), .slice (hsG hs) (.tok 3 sh), .int .i64 gr]] [[.slice (csG (cs ++ [(h, ps)])) (.tok 2 st), .slice (hsG hs) (.tok 3 sh), .int .i64 gr]] (by simp) ⟨⟨GLe.slice (by rw [csG_app]; exact GLess.app (GLess.refl _) ⟨GLes_com _ _ _, trivial⟩), GLe.refl _, GLe.refl _, trivial⟩, trivial⟩ ?_
                              refine Into.at ⟨((cs ++ [(h, ps)], st), (B', T' ++ A)), hBl', by show (cs ++ [(h, ps)]).length + B'.count false ≤ 72; rw [List.length_append, List.length_singleton]; omega, fun c hc => ?_, by show (T' ++ A).length + 2 * B'.count false ≤ 200; rw [List.length_append]; omega⟩ (by show 3 * B'.count false + (T' ++ A).length < 3 * B.count false + (T'.length + 1); rw [List.length_append]; omega) ⟨[.row v 33 [bytesG h.1 ++ [.slice (hsG ps) (.tok 6 sp)]], .tok sp 32, .tok st3 1], by simp⟩ (by simp [WL, leG_self, leG_any, leG_none, ints])
                              rcases List.mem_append.1 hc with q | q
                              · exact hcp c q
                              · rw [List.mem_singleton.1 q]; show ps.length ≤ 8; omega
              · have dq : ((0 : Int) < q) = False := eq_false hq0
                simp +contextual -implicitDefEqProofs (maxSteps := 2000000) (disch := omega) only [drawC, drawK, keepT, ↓lenV, binV, optV, ↓loadV, ↓storeV, ↓fieldAddrV, ↓indexAddrV, ↓allocV, ↓boxV, ↓buildV, ↓buildSliceV, ↓sliceV, ↓appendV, ↓srcV, ↓minV, bound, cutTag, hiTag, fillG, fillE, place, GVal.cells, grp, GVal.ofConst, ↓resV, resG, List.map, List.headD, List.take, List.drop, ↓reduceIte, Nat.reduceEqDiff, Nat.reduceAdd, Nat.reduceSub, Nat.reduceLeDiff, reduceCtorEq, implies_true, ne_eq, ↓asrcV, aggV, Tag.cap, List.replicate, allSolid, GVal.solid, Nat.reduceBEq, Nat.reduceMul, Nat.reduceLT, List.length_map, List.length_range, splice, vcA, ↓vcB, vcC, fbFu, e9, dropZ, List.append_nil, take32a, drop32a, drop33a, take33a, len33, solid33, solidH, len32, take32, drop32y, hsG_len, csG_len, rawsG_len, ints_len, all_hsG, all_csG, all_ints, if32, one32, set33, k10, k20, k21, false_imp_iff, true_imp_iff, not_false_eq_true, not_true_eq_false, true_and, and_true, setO_6, setO_7, dq]
                refine cV.then ?_ (by rfl)
                by_cases v0 : w = 0
                · subst v0
                  simp +contextual -implicitDefEqProofs (maxSteps := 2000000) (disch := omega) only [drawC, drawK, keepT, ↓lenV, binV, optV, ↓loadV, ↓storeV, ↓fieldAddrV, ↓indexAddrV, ↓allocV, ↓boxV, ↓buildV, ↓buildSliceV, ↓sliceV, ↓appendV, ↓srcV, ↓minV, bound, cutTag, hiTag, fillG, fillE, place, GVal.cells, grp, GVal.ofConst, ↓resV, resG, List.map, List.headD, List.take, List.drop, ↓reduceIte, Nat.reduceEqDiff, Nat.reduceAdd, Nat.reduceSub, Nat.reduceLeDiff, reduceCtorEq, implies_true, ne_eq, ↓asrcV, aggV, Tag.cap, List.replicate, allSolid, GVal.solid, Nat.reduceBEq, Nat.reduceMul, Nat.reduceLT, List.length_map, List.length_range, splice, vcA, ↓vcB, vcC, fbFu, e9, dropZ, List.append_nil, take32a, drop32a, drop33a, take33a, len33, solid33, solidH, len32, take32, drop32y, hsG_len, csG_len, rawsG_len, ints_len, all_hsG, all_csG, all_ints, if32, one32, set33, k10, k20, k21, false_imp_iff, true_imp_iff, not_false_eq_true, not_true_eq_false, true_and, and_true, setO_6, setO_7]
                  exact ⟨.agg (reqG cs hs .none x.g), [], _, rfl, fin_le _ _ _ _ _, cs, hs, x.g, ⟨by omega, hcp, by omega⟩, rfl, rfl⟩
                · by_cases v1 : w = 1
                  · subst v1
                    simp +contextual -implicitDefEqProofs (maxSteps := 2000000) (disch := omega) only [drawC, drawK, keepT, ↓lenV, binV, optV, ↓loadV, ↓storeV, ↓fieldAddrV, ↓indexAddrV, ↓allocV, ↓boxV, ↓buildV, ↓buildSliceV, ↓sliceV, ↓appendV, ↓srcV, ↓minV, bound, cutTag, hiTag, fillG, fillE, place, GVal.cells, grp, GVal.ofConst, ↓resV, resG, List.map, List.headD, List.take, List.drop, ↓reduceIte, Nat.reduceEqDiff, Nat.reduceAdd, Nat.reduceSub, Nat.reduceLeDiff, reduceCtorEq, implies_true, ne_eq, ↓asrcV, aggV, Tag.cap, List.replicate, allSolid, GVal.solid, Nat.reduceBEq, Nat.reduceMul, Nat.reduceLT, List.length_map, List.length_range, splice, vcA, ↓vcB, vcC, fbFu, e9, dropZ, List.append_nil, take32a, drop32a, drop33a, take33a, len33, solid33, solidH, len32, take32, drop32y, hsG_len, csG_len, rawsG_len, ints_len, all_hsG, all_csG, all_ints, if32, one32, set33, k10, k20, k21, false_imp_iff, true_imp_iff, not_false_eq_true, not_true_eq_false, true_and, and_true, setO_6, setO_7, nineH]
                    refine ⟨by omega, by omega, fun st => ?_⟩
                    exact ⟨.agg (reqG cs (hs ++ [hq 9 0 0]) .none gr), [], _, rfl, by rw [nine_snoc]; exact fin_le _ _ _ _ _, cs, hs ++ [hq 9 0 0], gr, ⟨by omega, hcp, by rw [List.length_append, List.length_singleton]; omega⟩, rfl, rfl⟩
                  · have e0 : (w = 0) = False := eq_false v0
                    have e1 : (w = 1) = False := eq_false v1
                    simp +contextual -implicitDefEqProofs (maxSteps := 2000000) (disch := omega) only [drawC, drawK, keepT, ↓lenV, binV, optV, ↓loadV, ↓storeV, ↓fieldAddrV, ↓indexAddrV, ↓allocV, ↓boxV, ↓buildV, ↓buildSliceV, ↓sliceV, ↓appendV, ↓srcV, ↓minV, bound, cutTag, hiTag, fillG, fillE, place, GVal.cells, grp, GVal.ofConst, ↓resV, resG, List.map, List.headD, List.take, List.drop, ↓reduceIte, Nat.reduceEqDiff, Nat.reduceAdd, Nat.reduceSub, Nat.reduceLeDiff, reduceCtorEq, implies_true, ne_eq, ↓asrcV, aggV, Tag.cap, List.replicate, allSolid, GVal.solid, Nat.reduceBEq, Nat.reduceMul, Nat.reduceLT, List.length_map, List.length_range, splice, vcA, ↓vcB, vcC, fbFu, e9, dropZ, List.append_nil, take32a, drop32a, drop33a, take33a, len33, solid33, solidH, len32, take32, drop32y, hsG_len, csG_len, rawsG_len, ints_len, all_hsG, all_csG, all_ints, if32, one32, set33, k10, k20, k21, false_imp_iff, true_imp_iff, not_false_eq_true, not_true_eq_false, true_and, and_true, setO_6, setO_7, e0, e1]
                    exact ⟨.agg (reqG cs hs .none gr), [], _, rfl, fin_le _ _ _ _ _, cs, hs, gr, ⟨by omega, hcp, by omega⟩, rfl, rfl⟩

end Gv.Tryd
/- A raw request among a caller's objects; a list of raw requests. -/
set_option linter.unusedVariables false
set_option linter.unusedSimpArgs false
set_option maxRecDepth 20000
set_option maxHeartbeats 8000000
namespace Gv.Tryd
open Go Gv Go.Proofs
theorem look_of_mem {α : Type} : ∀ {m : List (Hs × α)} {p : Hs × α}, (m.map (·.1)).Nodup → p ∈ m → look m p.1 = some p.2
  | q :: r, p, hn, hp => by
    rw [List.map_cons, List.nodup_cons] at hn
    rw [look]
    rcases List.mem_cons.1 hp with e | e
    · rw [e, if_pos rfl]
    · rw [if_neg (fun w => hn.1 (by rw [← w]; exact List.mem_map_of_mem e)), look_of_mem hn.2 e]
theorem GCalls.lift0 {P : Program} {f : FuncId} {args : List GVal} {R : GVal → Prop} (h : GCalls P f args [] (fun g O' => R g ∧ O' = [])) (O : List GObj) (hc : clockOf O = none) : GCalls P f args O (fun g O' => R g ∧ O' = O) := by
  refine GCalls.frame h [] trivial (by simp) (GLes.refl _) rfl hc ?_
  rintro g O' ⟨hr, rfl⟩
  refine ⟨g, O, (List.range O.length).map (fun k => (true, k)), ⟨hr, rfl⟩, GLe.refl g, Comes.of (by simp) fun k z s hz hs => ?_, ?_, hc⟩
  · have hk : k < O.length := (List.getElem?_eq_some_iff.1 hz).1
    simp only [List.getElem?_map, List.getElem?_range hk, Option.map_some, Option.some.injEq] at hs
    subst hs
    exact ⟨by simp, z, hz, .refl _⟩
  · rw [List.nodup_iff_pairwise_ne, List.pairwise_map]
    refine List.Pairwise.imp ?_ (List.pairwise_lt_range (n := O.length))
    intro a b hab
    simp; omega
def rrsG (l : List RR) : List (List GVal) := l.map rrG
instance : Inhabited RR := ⟨⟨[], [], 0, 0⟩⟩
theorem rrsG_len (l : List RR) : (rrsG l).length = l.length := by simp [rrsG]
theorem rrsG_at (l : List RR) (i : Nat) (h : i < l.length) : (rrsG l).getD i [] = rrG (l.getD i default) := by simp [rrsG, List.getD, h]
theorem gRequestO (x : RR) (O : List GObj) (hc : clockOf O = none) : GCalls Tryd.prog 9 [.agg (rrG x)] O (fun g O' => ∃ cs hs gr, ReqOK cs hs ∧ g = .agg (reqG cs hs .none gr) ∧ O' = O) := by
  refine (GCalls.lift0 (R := fun g => ∃ cs hs gr, ReqOK cs hs ∧ g = .agg (reqG cs hs .none gr)) ((gRequest x).mono ?_) O hc).mono ?_
  · rintro g O' ⟨cs, hs, gr, h1, h2, h3⟩
    exact ⟨⟨cs, hs, gr, h1, h2⟩, h3⟩
  · rintro g O' ⟨⟨cs, hs, gr, h1, h2⟩, h3⟩
    exact ⟨cs, hs, gr, h1, h2, h3⟩
end Gv.Tryd
/- Objects that are set aside for a while: a map whose entries are held one by one. -/
set_option linter.unusedVariables false
namespace Gv
open Go Go.MapKept Go.ChangeMaps
variable {P : Program}
structure Hid (E : Env) (O : List GObj) (w : World) (b : Nat) : Prop where
  obj : ¬ InO E O b
  snap : ∀ o, E.snap b o = none
  lt : b < w.heap.size
theorem Hid.keep {E E' : Env} {O O' : List GObj} {w w' : World} {b : Nat} (h : Hid E O w b) (k : Keep E O w E' O' w') : Hid E' O' w' b ∧ w'.heap[b]? = w.heap[b]? := by
  refine ⟨⟨fun hb => ?_, fun o => ?_, Nat.lt_of_lt_of_le h.lt k.size⟩, k.heap b h.lt h.obj⟩
  · rcases k.objs b hb with h1 | h1
    · exact h.obj h1
    · have := h.lt; omega
  · cases hv : E'.snap b o with
    | none => rfl
    | some v =>
      rcases k.snap b o v hv with h1 | h1 | h1
      · rw [h.snap] at h1; cases h1
      · have := h.lt; omega
      · exact absurd h1 h.obj
theorem HSim.grown {E : Env} {O : List GObj} {w w' : World} (h : HSim E O w) {row : Option Nat} (g : w.grownBy w' row) (hr : ∀ r, row = some r → ¬ InO E O r ∧ ∀ o, E.snap r o = none) : HSim E O w' := by
  have hne : ∀ b, InO E O b → some b ≠ row := fun b hb e => (hr b e.symm).1 hb
  refine ⟨h.fin, fun b o v hv => ?_, h.one, fun i obj ho => ?_, h.sep, h.glob⟩
  · have hb : some b ≠ row := fun e => by rw [(hr b e.symm).2 o] at hv; cases hv
    rw [Go.World.cell?_of_block (w := w) (w' := w') (a := ⟨b, o, none⟩) (g.block b (h.lt hv) hb)]
    exact h.sealed _ _ _ hv
  · refine (h.real i obj ho).keep (.refl E) (fun b hb => g.block b ((h.real i obj ho).blk_lt hb) (hne b ⟨i, obj, ho, hb⟩)) (fun b o v hb hv => ?_)
    exact hv
theorem Keep.grown {E0 E : Env} {O0 O : List GObj} {w0 w w' : World} (k : Keep E0 O0 w0 E O w) {row : Option Nat} (g : w.grownBy w' row) (hr : ∀ r, row = some r → w0.heap.size ≤ r) : Keep E0 O0 w0 E O w' :=
  ⟨k.ext, g.os.trans k.os, g.output.trans k.out, Nat.le_trans k.size g.size, fun b hb hn => (g.block b (Nat.lt_of_lt_of_le hb k.size) (fun e => by have := hr b e.symm; omega)).trans (k.heap b hb hn), k.snap, k.objs, trivial⟩
theorem Hid.grown {E : Env} {O : List GObj} {w w' : World} {b : Nat} {row : Option Nat} (h : Hid E O w b) (g : w.grownBy w' row) : Hid E O w' b := ⟨h.obj, h.snap, Nat.lt_of_lt_of_le h.lt g.size⟩
theorem HSim.hide {E : Env} {O : List GObj} {w : World} (h : HSim E O w) (i : Nat) (x : GObj) (hO : O[i]? = some x) (hx : x.isClock = false) : HSim E (O.set i .dead) w ∧ Keep E O w E (O.set i .dead) w := by
  have split : ∀ (j : Nat) y, (O.set i .dead)[j]? = some y → (j = i ∧ y = .dead) ∨ O[j]? = some y := by
    intro j y hy
    rw [List.getElem?_set] at hy
    by_cases e : i = j
    · rw [if_pos e] at hy
      split at hy
      · exact .inl ⟨e.symm, (Option.some.inj hy).symm⟩
      · cases hy
    · rw [if_neg e] at hy; exact .inr hy
  have hc : clockOf (O.set i .dead) = clockOf O := by
    match O, i with
    | [], _ => rfl
    | y :: r, 0 => simp at hO; subst hO; cases y <;> first | rfl | cases hx
    | y :: r, k + 1 => cases y <;> rfl
  refine ⟨⟨by unfold Fin'; rw [hc]; exact h.fin, h.sealed, h.one, fun j y hy => ?_, fun j k oj ok b hjk hj hk hbj hbk => ?_, h.glob⟩, ⟨.refl E, rfl, rfl, Nat.le_refl _, fun _ _ _ => rfl, fun _ _ _ h => .inl h, fun b ⟨j, y, hy, hb⟩ => ?_, trivial⟩⟩
  · rcases split j y hy with ⟨_, rfl⟩ | h1
    · trivial
    · exact h.real j y h1
  · rcases split j oj hj with ⟨_, rfl⟩ | h1
    · cases hbj
    · rcases split k ok hk with ⟨_, rfl⟩ | h2
      · cases hbk
      · exact h.sep j k oj ok b hjk h1 h2 hbj hbk
  · rcases split j y hy with ⟨_, rfl⟩ | h1
    · cases hb
    · exact .inl ⟨j, y, h1, hb⟩
structure MapAt (E : Env) (w : World) (b : Nat) (es : Array MapEntry) (clock : Nat) (kv : List (GVal × GVal)) : Prop where
  at_ : w.heap[b]? = some (.map es clock)
  size : es.size = kv.length
  ent : ∀ (i : Nat) e p, es[i]? = some e → kv[i]? = some p → EntryOK E e p
  born : BornOK es clock
theorem MapAt.ext {E E' : Env} {w w' : World} {b : Nat} {es : Array MapEntry} {clock : Nat} {kv : List (GVal × GVal)} (h : MapAt E w b es clock kv) (hE : E.le E') (hw : w'.heap[b]? = w.heap[b]?) : MapAt E' w' b es clock kv :=
  ⟨hw.trans h.at_, h.size, fun i e p he hp => ⟨(h.ent i e p he hp).1.mono hE, (h.ent i e p he hp).2.mono hE⟩, h.born⟩
theorem HSim.hideMap {E : Env} {O : List GObj} {w : World} (h : HSim E O w) {i st : Nat} {kv : List (GVal × GVal)} (hO : O[i]? = some (.map st kv)) :
    ∃ l b es clock, E.loc st = some l ∧ l.block = some b ∧ MapAt E w b es clock kv ∧ HSim E (O.set i .dead) w ∧ Keep E O w E (O.set i .dead) w ∧ Hid E (O.set i .dead) w b ∧ InO E O b := by
  obtain ⟨l, b, es, clock, hl, hb, hw, hs, he, hbo, hsn⟩ := h.real i _ hO
  obtain ⟨h1, h2⟩ := h.hide i _ hO rfl
  refine ⟨l, b, es, clock, hl, hb, ⟨hw, hs, he, hbo⟩, h1, h2, ⟨fun hi => ?_, hsn, (Array.getElem?_eq_some_iff.1 hw).1⟩, ⟨i, _, hO, by simp [GObj.blk, hl, hb]⟩⟩
  obtain ⟨j, y, hy, hyb⟩ := hi
  rw [List.getElem?_set] at hy
  by_cases e : i = j
  · rw [if_pos e] at hy
    split at hy
    · cases hy; cases hyb
    · cases hy
  · rw [if_neg e] at hy
    exact h.sep i j _ _ b e hO hy (by simp [GObj.blk, hl, hb]) hyb
theorem HSim.showMap {E : Env} {O : List GObj} {w : World} (h : HSim E O w) {i st b clock : Nat} {l : GLoc} {es : Array MapEntry} {kv : List (GVal × GVal)} (hO : O[i]? = some .dead) (hl : E.loc st = some l) (hb : l.block = some b)
    (hm : MapAt E w b es clock kv) (hh : Hid E O w b) : HSim E (O.set i (.map st kv)) w ∧ ∀ E0 O0 w0, Keep E0 O0 w0 E O w → (InO E0 O0 b ∨ w0.heap.size ≤ b) → Keep E0 O0 w0 E (O.set i (.map st kv)) w := by
  have hblk : (GObj.map st kv).blk E = some b := by simp [GObj.blk, hl, hb]
  have split : ∀ (j : Nat) y, (O.set i (.map st kv))[j]? = some y → (j = i ∧ y = .map st kv) ∨ (j ≠ i ∧ O[j]? = some y) := by
    intro j y hy
    rw [List.getElem?_set] at hy
    by_cases e : i = j
    · rw [if_pos e] at hy
      split at hy
      · exact .inl ⟨e.symm, (Option.some.inj hy).symm⟩
      · cases hy
    · rw [if_neg e] at hy; exact .inr ⟨fun q => e q.symm, hy⟩
  have hc : clockOf (O.set i (.map st kv)) = clockOf O := by
    match O, i with
    | [], _ => rfl
    | y :: r, 0 => simp at hO; subst hO; rfl
    | y :: r, k + 1 => cases y <;> rfl
  refine ⟨⟨by unfold Fin'; rw [hc]; exact h.fin, h.sealed, h.one, fun j y hy => ?_, fun j k oj ok b' hjk hj hk hbj hbk => ?_, h.glob⟩, fun E0 O0 w0 K hbn => ⟨K.ext, K.os, K.out, K.size, K.heap, K.snap, fun b' ⟨j, y, hy, hyb⟩ => ?_, trivial⟩⟩
  · rcases split j y hy with ⟨_, rfl⟩ | ⟨_, h1⟩
    · exact ⟨l, b, es, clock, hl, hb, hm.at_, hm.size, hm.ent, hm.born, hh.snap⟩
    · exact h.real j y h1
  · rcases split j oj hj with ⟨e1, rfl⟩ | ⟨e1, h1⟩
    · rcases split k ok hk with ⟨e2, rfl⟩ | ⟨e2, h2⟩
      · exact hjk (e1.trans e2.symm)
      · rw [hblk] at hbj; cases hbj
        exact hh.obj ⟨k, ok, h2, hbk⟩
    · rcases split k ok hk with ⟨e2, rfl⟩ | ⟨e2, h2⟩
      · rw [hblk] at hbk; cases hbk
        exact hh.obj ⟨j, oj, h1, hbj⟩
      · exact h.sep j k oj ok b' hjk h1 h2 hbj hbk
  · rcases split j y hy with ⟨_, rfl⟩ | ⟨_, h1⟩
    · rw [hblk] at hyb; cases hyb; exact hbn
    · exact K.objs b' ⟨j, y, h1, hyb⟩
end Gv
/- `m[k] = f(m[k])`: a map's entry found, and written later. -/
set_option linter.unusedVariables false
namespace Gv
open Go Go.MapKept Go.ChangeMaps
variable {P : Program} {E : Env} {O : List GObj} {w : World}
theorem bornIdx : ∀ {es : List MapEntry} {i : Nat} {e : MapEntry}, es.Pairwise (fun x y => x.born ≠ y.born) → es[i]? = some e → es.findIdx? (fun x => ((x.born : Nat) : Int) == ((e.born : Nat) : Int)) = some i
  | [], i, e, _, h => by cases h
  | a :: r, 0, e, _, h => by cases h; simp [List.findIdx?_cons]
  | a :: r, i + 1, e, hp, h => by
    have h1 : r[i]? = some e := by simpa using h
    have h2 := (List.pairwise_cons.1 hp).1 e (List.mem_of_getElem? h1)
    have h3 : (((a.born : Nat) : Int) == ((e.born : Nat) : Int)) = false := by rw [beq_eq_false_iff_ne]; omega
    rw [List.findIdx?_cons, h3, bornIdx (List.pairwise_cons.1 hp).2 h1]
    rfl
theorem bornIdxA {es : Array MapEntry} {clock i : Nat} {e : MapEntry} (h : BornOK es clock) (hi : es.toList[i]? = some e) : es.findIdx? (fun x => ((x.born : Nat) : Int) == ((e.born : Nat) : Int)) = some i := by
  have : es.findIdx? (fun x => ((x.born : Nat) : Int) == ((e.born : Nat) : Int)) = es.toList.findIdx? (fun x => ((x.born : Nat) : Int) == ((e.born : Nat) : Int)) := by cases es; simp
  rw [this]; exact bornIdx h.2 hi
def oldAt (kv : List (GVal × GVal)) (z : GVal) : Option Nat → GVal
  | some i => match kv[i]? with
    | some p => p.2
    | none => .any
  | none => z
def putAt (kv : List (GVal × GVal)) (x v : GVal) : Option Nat → List (GVal × GVal)
  | some i => kv.set i (x, v)
  | none => kv ++ [(x, v)]
theorem grown_set {w : World} {b : Nat} {es : Array MapEntry} {clock : Nat} (hw : w.heap[b]? = some (.map es clock)) (es' : Array MapEntry) (clock' : Nat) :
    w.grownBy { w with heap := w.heap.setIfInBounds b (.map es' clock') } (some b) ∧ { w with heap := w.heap.setIfInBounds b (.map es' clock') }.heap[b]? = some (.map es' clock') ∧ { w with heap := w.heap.setIfInBounds b (.map es' clock') }.heap.size = w.heap.size := by
  have hlt := (Array.getElem?_eq_some_iff.1 hw).1
  refine ⟨⟨rfl, rfl, rfl, by simp, fun k _ hk => ?_⟩, ?_, by simp⟩
  · show (w.heap.setIfInBounds b _)[k]? = _
    rw [Array.getElem?_setIfInBounds, if_neg (fun e => hk (by rw [e]))]
  · show (w.heap.setIfInBounds b _)[b]? = _
    rw [Array.getElem?_setIfInBounds, if_pos rfl, if_pos hlt]
theorem mapEntry_hid {t : TypeId} {k : KT} {et : TypeId} {z x : GVal} {rx : Value} {r : Option Nat} {b clock : Nat} {es : Array MapEntry} {kv : List (GVal × GVal)} (hkt : keyT P t = some (k, et)) (hz : zeroG P et = some z) (hko : keyOk k x) (hx : VR E rx x)
    (hm : MapAt E w b es clock kv) (hr : kfind k x kv = some r) :
    ∃ (rv0 : Value) (stamp : Nat) (es1 : Array MapEntry) (clock1 : Nat) (w1 : World), (Instr.mapEntry t (.map (some b)) rx).run P w = .ok (.tuple #[rv0, goInt stamp]) w1 ∧ w.grownBy w1 (some b) ∧ w1.heap[b]? = some (.map es1 clock1) ∧ VR E rv0 (oldAt kv z r) ∧
      ∀ (E2 : Env) (w2 : World) (rv : Value) (gv : GVal), E.le E2 → w2.heap[b]? = some (.map es1 clock1) → VR E2 rv gv →
        ∃ (w3 : World) (es3 : Array MapEntry) (clock3 : Nat), (Instr.entryStore t (.map (some b)) (goInt stamp) rv).run P w2 = .ok () w3 ∧ w2.grownBy w3 (some b) ∧ MapAt E2 w3 b es3 clock3 (putAt kv x gv r) := by
  obtain ⟨kt, hu, hf, ht, hn⟩ := keyT_spec hkt
  have hchk : ∀ em, (Instr.checkKey em 10000 kt rx).run P w = .ok () w := fun em => by
    unfold keyOk at hko
    split at hko
    · rename_i cs hcs; exact checkKey_run hf ht hx hcs hko
    · exact hko.elim
  obtain ⟨hw, hl, he, hbo⟩ := hm
  have hl' : es.toList.length = kv.length := by simpa using hl
  have he' : ∀ (i : Nat) e p, es.toList[i]? = some e → kv[i]? = some p → EntryOK E e p := fun i e p h1 h2 => he i e p (by simpa using h1) h2
  have hfk := findKey_run (P := P) (w := w) hf ht hn hx hl' he' hr
  cases r with
  | some i =>
    obtain ⟨p, hp, hpe⟩ := kfind_eq hr
    have hlt : i < es.toList.length := by rw [hl']; exact (List.getElem?_eq_some_iff.1 hp).1
    have hei : es.toList[i]? = some (es.toList[i]) := List.getElem?_eq_getElem hlt
    obtain ⟨e, ee⟩ : ∃ e, es.toList[i] = e := ⟨_, rfl⟩
    rw [ee] at hei
    have hkey : (Instr.keyThatStays e.key rx).run P w = .ok rx w := by
      have h2 := (he' i _ p hei hp).1
      have h3 := keyEq_rigid hn hx h2 hpe
      have h4 : Instr.sameBits 10000 e.key rx = true := by
        have := sameBits_key hn hx h2 hpe
        rw [← h3] at this ⊢; exact this
      unfold Instr.keyThatStays
      rw [if_pos h4]; simp
    have hei' : es[i]? = some e := by simpa using hei
    obtain ⟨g1, g2, _⟩ := grown_set hw (es.modify i fun e => { e with key := rx }) clock
    have hb1 : BornOK (es.modify i fun e => { e with key := rx }) clock := hbo.modify i _ fun _ => rfl
    refine ⟨e.val, e.born, _, _, _, ?_, g1, g2, ?_, ?_⟩
    · unfold Instr.mapEntry
      simp only [Sem.run_bind, run_underlying hu, Result.andThen_ok, getMap hw, hchk, hfk, At, hei, Nat.zero_add, hei', Option.map_some, Option.getD_some, hkey]
      rw [setMap _ hw]
      rfl
    · simp only [oldAt, hp]
      exact (he' i _ p hei hp).2
    · intro E2 w2 rv gv hE hw2 hrv
      obtain ⟨g3, g4, _⟩ := grown_set hw2 ((es.modify i fun e => { e with key := rx }).modify i fun e => { e with val := rv }) clock
      have hidx : (es.modify i fun e => { e with key := rx }).findIdx? (fun e' => ((e'.born : Nat) : Int) == ((e.born : Nat) : Int)) = some i := by
        refine bornIdxA (e := { e with key := rx }) hb1 ?_
        rw [Array.getElem?_toList, Array.getElem?_modify, if_pos rfl, hei']
        rfl
      refine ⟨_, _, _, ?_, g3, g4, by simpa [putAt] using hl, fun j e' p' he2 hp' => ?_, hb1.modify i _ fun _ => rfl⟩
      · simp [Instr.entryStore, MapKept.run_getObj_map hw2, asInt, asIntOf, goInt, hidx, MapKept.run_setObj_map _ hw2, Result.andThen]
      · simp only [putAt] at hp'
        rw [Array.getElem?_modify] at he2
        rw [List.getElem?_set] at hp'
        by_cases hij : i = j
        · subst hij
          rw [if_pos rfl, Array.getElem?_modify, if_pos rfl, hei'] at he2
          simp only [Option.map_some, Option.some.injEq] at he2
          rw [if_pos rfl, if_pos (by rw [← hl']; exact hlt)] at hp'
          simp only [Option.some.injEq] at hp'
          subst he2; subst hp'
          exact ⟨hx.mono hE, hrv⟩
        · rw [if_neg hij] at he2 hp'
          rw [Array.getElem?_modify, if_neg hij] at he2
          exact ⟨(he j e' p' he2 hp').1.mono hE, (he j e' p' he2 hp').2.mono hE⟩
  | none =>
    obtain ⟨v0, hv0, hvz⟩ := zeroG_run hz w E
    have hv0' : ∀ u : World, (zeroValue et).run P u = .ok v0 u → True := fun _ _ => trivial
    obtain ⟨g1, g2, _⟩ := grown_set hw (es.push { key := rx, val := v0, born := clock }) (clock + 1)
    have hb1 : BornOK (es.push { key := rx, val := v0, born := clock }) (clock + 1) := hbo.push _ rfl
    refine ⟨v0, clock, _, _, _, ?_, g1, g2, hvz, ?_⟩
    · unfold Instr.mapEntry
      simp only [Sem.run_bind, run_underlying hu, Result.andThen_ok, getMap hw, hchk, hfk, At, hv0]
      rw [setMap _ hw]
      rfl
    · intro E2 w2 rv gv hE hw2 hrv
      obtain ⟨g3, g4, _⟩ := grown_set hw2 ((es.push { key := rx, val := v0, born := clock }).modify es.size fun e => { e with val := rv }) (clock + 1)
      have hidx : (es.push { key := rx, val := v0, born := clock }).findIdx? (fun e' => ((e'.born : Nat) : Int) == ((clock : Nat) : Int)) = some es.size := by
        exact bornIdxA (e := { key := rx, val := v0, born := clock }) hb1 (by simp)
      refine ⟨_, _, _, ?_, g3, g4, by simpa [putAt] using hl, fun j e' p' he2 hp' => ?_, hb1.modify _ _ fun _ => rfl⟩
      · simp [Instr.entryStore, MapKept.run_getObj_map hw2, asInt, asIntOf, goInt, hidx, MapKept.run_setObj_map _ hw2, Result.andThen]
      · simp only [putAt] at hp'
        rw [Array.getElem?_modify, Array.getElem?_push] at he2
        by_cases hj : j = es.size
        · subst hj
          rw [if_pos rfl, if_pos rfl] at he2
          simp only [Option.map_some, Option.some.injEq] at he2
          rw [List.getElem?_append_right (by omega)] at hp'
          rw [show es.size - kv.length = 0 by omega] at hp'
          simp at hp'
          subst he2; subst hp'
          exact ⟨hx.mono hE, hrv⟩
        · rw [if_neg (fun e => hj e.symm), if_neg hj] at he2
          have hjlt := (Array.getElem?_eq_some_iff.1 he2).1
          rw [List.getElem?_append_left (by omega)] at hp'
          exact ⟨(he j e' p' he2 hp').1.mono hE, (he j e' p' he2 hp').2.mono hE⟩
end Gv
