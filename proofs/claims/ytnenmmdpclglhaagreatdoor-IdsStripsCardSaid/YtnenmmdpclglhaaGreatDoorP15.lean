/- Contracts: taproothand's Request: some request, within bounds. -/
import Derived.Test.YtnenmmdpclglhaaGreatDoorP14
import Derived.Test.YtnenmmdpclglhaaGreatDoorP13
import Derived.Test.YtnenmmdpclglhaaGreatDoorProg
import Derived.WalkKit
import Derived.LaidEql
import Derived.Stop.Asserts
import Derived.RowKitTokens
import Derived.Test.YtnenmmdpclglhaaGreatDoorP6
set_option linter.unusedVariables false
set_option linter.unusedSimpArgs false
set_option maxRecDepth 200000
set_option maxHeartbeats 8000000
namespace Gv.Tryz
open Go Gv Go.Proofs
open Nat (reduceEqDiff reduceAdd reduceSub reduceLeDiff reduceMul reduceLT)
abbrev RC := Int × Int × List Int
def rawC (r : RC) : List GVal := [.int .i64 r.1, .int .i64 r.2.1, .slice (ints r.2.2) .none]
def rawsG (l : List RC) : List (List GVal) := l.map rawC
instance : Inhabited RC := ⟨(0, 0, [])⟩
theorem rawsG_len (l : List RC) : (rawsG l).length = l.length := by simp [rawsG]
theorem rawsG_at (l : List RC) (i : Nat) (h : i < l.length) : (rawsG l).getD i [] = rawC (l.getD i default) := by simp [rawsG, List.getD, h]
structure RR where
  l : List RC
  hs : List Int
  g : Int
  how : Int
abbrev rrG (x : RR) : List GVal := [.slice (rawsG x.l) .none, .slice (ints x.hs) .none, .int .i64 x.g, .int .i64 x.how]
structure ReqOK (cs : List Cm) (hs : List Hs) : Prop where
  len : cs.length ≤ 72
  par : ∀ c ∈ cs, c.2.length ≤ 8
  hd : hs.length ≤ 5
theorem dropZ (y : GVal) : List.drop 33 ([.int .u8 0, .int .u8 0, .int .u8 0, .int .u8 0, .int .u8 0, .int .u8 0, .int .u8 0, .int .u8 0, .int .u8 0, .int .u8 0, .int .u8 0, .int .u8 0, .int .u8 0, .int .u8 0, .int .u8 0, .int .u8 0, .int .u8 0, .int .u8 0, .int .u8 0, .int .u8 0, .int .u8 0, .int .u8 0, .int .u8 0, .int .u8 0, .int .u8 0, .int .u8 0, .int .u8 0, .int .u8 0, .int .u8 0, .int .u8 0, .int .u8 0, .int .u8 0, y] : List GVal) = [] := rfl
theorem at33 (h : Hs) (y : GVal) : (bytesG h.1 ++ [y])[32]? = some y := by rw [List.getElem?_append_right (by rw [len32]; omega), len32]; rfl
theorem set33 (h : Hs) (y z : GVal) : (bytesG h.1 ++ [y]).set 32 z = bytesG h.1 ++ [z] := by rw [List.set_append_right _ _ (by rw [len32]; omega), len32]; rfl
theorem nineH : ([.int .u8 9, .int .u8 0, .int .u8 0, .int .u8 0, .int .u8 0, .int .u8 0, .int .u8 0, .int .u8 0, .int .u8 0, .int .u8 0, .int .u8 0, .int .u8 0, .int .u8 0, .int .u8 0, .int .u8 0, .int .u8 0, .int .u8 0, .int .u8 0, .int .u8 0, .int .u8 0, .int .u8 0, .int .u8 0, .int .u8 0, .int .u8 0, .int .u8 0, .int .u8 0, .int .u8 0, .int .u8 0, .int .u8 0, .int .u8 0, .int .u8 0, .int .u8 0] : List GVal) = bytesG (hq 9 0 0).1 := rfl
theorem nine_snoc (hs : List Hs) : hsG hs ++ [bytesG (hq 9 0 0).1] = hsG (hs ++ [hq 9 0 0]) := by simp [hsG]
theorem fin_le (cs : List Cm) (hs : List Hs) (a b : Tag) (gr : Int) : leA (.agg [.slice (csG cs) a, .slice (hsG hs) b, .int .i64 gr]) (.agg (reqG cs hs .none gr)) := by
  simp [leA, WL, leG_self, leG_none]
def bls (B : List Bool) : List GVal := B.map .bool
theorem bls_len (B : List Bool) : (bls B).length = B.length := by simp [bls]
theorem bls_set (B : List Bool) (k : Nat) (b : Bool) : (bls B).set k (.bool b) = bls (B.set k b) := by simp [bls, List.map_set]
theorem bls_at (B : List Bool) (k : Nat) (h : k < B.length) : List.take 1 (List.drop (k * 1) (bls B)) = [.bool (B.getD k false)] := by
  rw [Nat.mul_one]
  have e : (bls B).drop k = .bool (B.getD k false) :: (bls B).drop (k + 1) := by
    rw [List.drop_eq_getElem_cons (by rw [bls_len]; exact h)]; simp [bls, List.getD, h]
  rw [e]; rfl
theorem bls_put (B : List Bool) (m : Nat) (h : m < B.length) : List.take (m * 1) (bls B) ++ [.bool true] ++ List.drop (m * 1 + 1) (bls B) = bls (B.set m true) := by
  rw [Nat.mul_one, ← bls_set, List.set_eq_take_append_cons_drop, if_pos (by rw [bls_len]; exact h)]; simp
theorem count_set : ∀ (B : List Bool) (m : Nat), m < B.length → B.getD m false = false → (B.set m true).count false + 1 = B.count false
  | [], m, h, _ => by simp at h
  | b :: r, 0, h, e => by
    have : b = false := by simpa using e
    subst this; simp
  | b :: r, m + 1, h, e => by
    have := count_set r m (by simpa using h) (by simpa using e)
    rw [List.set_cons_succ, List.count_cons, List.count_cons]; omega
theorem take_ints (l : List Int) (n : Nat) : (ints l).take n = ints (l.take n) := by simp [ints, List.map_take]
abbrev rqZ : List GVal := [.slice [] .nil, .slice [] .nil, .int .i64 0]
theorem gRequest (x : RR) : GCalls Tryz.prog 9 [.agg (rrG x)] [] (fun g O' => ∃ cs hs gr, ReqOK cs hs ∧ g = .agg (reqG cs hs .none gr) ∧ O' = []) := by
  have g1 := Int.emod_nonneg x.g (by decide : (2 : Int) ≠ 0)
  have g2 := Int.emod_lt_of_pos x.g (by decide : (0 : Int) < 2)
  have cG := sPick x.g 2 (by omega) (by omega)
  refine GCalls.dropTo ?_
  refine h9.calls mixS (by simp) ?_
  simp only [gstart, s9, List.cons_append, List.nil_append, List.length_cons, List.length_nil, reduceAdd, reduceSub, List.replicate_succ, List.replicate_zero]
  simp +contextual -implicitDefEqProofs (maxSteps := 2000000) (disch := omega) only [drawC, drawK, keepT, ↓lenV, binV, optV, ↓loadV, ↓storeV, ↓fieldAddrV, ↓indexAddrV, ↓allocV, ↓boxV, ↓buildV, ↓buildSliceV, ↓sliceV, ↓appendV, ↓srcV, ↓minV, bound, cutTag, hiTag, fillG, fillE, place, GVal.cells, GVal.ofConst, ↓resV, resG, ↓reduceIte, reduceEqDiff, reduceAdd, reduceSub, reduceLeDiff, reduceCtorEq, ↓asrcV, aggV, Tag.cap, GVal.solid, Nat.reduceBEq, reduceMul, reduceLT, vcA, ↓vcB, vcC, fbFy, e9, vcD]
  intro s2
  refine cG.then ?_ (by rfl)
  simp +contextual -implicitDefEqProofs (maxSteps := 2000000) (disch := omega) only [drawC, drawK, keepT, ↓lenV, binV, optV, ↓loadV, ↓storeV, ↓fieldAddrV, ↓indexAddrV, ↓allocV, ↓boxV, ↓buildV, ↓buildSliceV, ↓sliceV, ↓appendV, ↓srcV, ↓minV, bound, cutTag, hiTag, fillG, fillE, place, GVal.cells, GVal.ofConst, ↓resV, resG, ↓reduceIte, reduceEqDiff, reduceAdd, reduceSub, reduceLeDiff, reduceCtorEq, ↓asrcV, aggV, Tag.cap, GVal.solid, Nat.reduceBEq, reduceMul, reduceLT, vcA, ↓vcB, vcC, fbFy, e9, vcD]
  intro s3
  obtain ⟨gr, hgr⟩ : ∃ gr, 1 + x.g % 2 = gr := ⟨_, rfl⟩
  rw [hgr]
  refine vcSLoop_by (ι := { p : (Nat × List Cm) × Nat // p.1.1 ≤ x.l.length ∧ p.1.1 ≤ 12 ∧ p.1.2.length ≤ p.1.1 ∧ ∀ c ∈ p.1.2, c.2.length ≤ 8 }) (fun p => ⟨[.any, .ref (rrG x), .ptr 0 s2 0 0, .ptr 1 s3 0 0, .int .i64 (p.1.1.1 : Nat)] ++ List.replicate 242 .any, [.row s2 3 [rqZ], .row s3 3 [[.slice (csG p.1.1.2) (.tok 2 p.1.2), .slice [] .nil, .int .i64 gr]], .tok p.1.2 33]⟩) (fun p => 12 - p.1.1.1) ?_ ?_
  · refine Into.cellTok 1 0 33 [] rfl rfl rfl rfl ?_
    simp +contextual -implicitDefEqProofs (maxSteps := 2000000) (disch := omega) only [drawC, drawK, keepT, ↓lenV, binV, optV, ↓loadV, ↓storeV, ↓fieldAddrV, ↓indexAddrV, ↓allocV, ↓boxV, ↓buildV, ↓buildSliceV, ↓sliceV, ↓appendV, ↓srcV, ↓minV, bound, cutTag, hiTag, fillG, fillE, place, GVal.cells, GVal.ofConst, ↓resV, resG, ↓reduceIte, reduceEqDiff, reduceAdd, reduceSub, reduceLeDiff, reduceCtorEq, ↓asrcV, aggV, Tag.cap, GVal.solid, Nat.reduceBEq, reduceMul, reduceLT, vcA, ↓vcB, vcC, fbFy, e9, vcD]
    intro sc
    exact Into.first ⟨((0, []), sc), Nat.zero_le _, by show 0 ≤ 12; omega, by simp, by simp⟩ ⟨[], rfl⟩ (by simp [WL, leG_self, leG_any])
  · rintro ⟨⟨⟨i, cs⟩, sc⟩, hil, hi, hcl, hcp⟩
    change i ≤ x.l.length at hil
    change i ≤ 12 at hi
    change cs.length ≤ i at hcl
    have hcp : ∀ c ∈ cs, c.2.length ≤ 8 := hcp
    by_cases h : i < x.l.length ∧ i < 12
    · have hx12 := h
      have d0 : ((i : Int) < (x.l.length : Int)) = True := eq_true (by omega)
      have d1 : ((i : Int) < 12) = True := eq_true (by omega)
      have eR := rawsG_at x.l i h.1
      generalize x.l.getD i default = r at *
      obtain ⟨rn, rh, rp⟩ := r
      have n1 := Int.emod_nonneg rn (by decide : (60 : Int) ≠ 0)
      have n2 := Int.emod_lt_of_pos rn (by decide : (0 : Int) < 60)
      have cN := sPick rn 60 (by omega) (by omega)
      obtain ⟨n, hn⟩ : ∃ n, rn % 60 = n := ⟨_, rfl⟩
      rw [hn] at cN n1 n2
      have cA := gAhead n n1 n2
      have lA := aheadL_len n
      obtain ⟨A, hA⟩ : ∃ A, aheadL n = A := ⟨_, rfl⟩
      rw [hA] at cA lA
      obtain ⟨h, hh⟩ : ∃ h, hashF n = h := ⟨_, rfl⟩
      have cHn := hHashF n
      rw [hh] at cHn
      simp +contextual -implicitDefEqProofs (maxSteps := 2000000) (disch := omega) only [drawC, drawK, keepT, ↓lenV, binV, optV, ↓loadV, ↓storeV, ↓fieldAddrV, ↓indexAddrV, ↓allocV, ↓boxV, ↓buildV, ↓buildSliceV, ↓sliceV, ↓appendV, ↓srcV, ↓minV, bound, cutTag, hiTag, fillG, fillE, place, GVal.cells, GVal.ofConst, ↓resV, resG, ↓reduceIte, reduceEqDiff, reduceAdd, reduceSub, reduceLeDiff, reduceCtorEq, ↓asrcV, aggV, Tag.cap, GVal.solid, Nat.reduceBEq, reduceMul, reduceLT, vcA, ↓vcB, vcC, fbFy, e9, d0, d1, eR, rawC, rawsG_len, vcD]
      have k10 : ((1 : Int) = 0) = False := eq_false (by decide)
      have k20 : ((2 : Int) = 0) = False := eq_false (by decide)
      have k21 : ((2 : Int) = 1) = False := eq_false (by decide)
      refine ⟨by omega, fun u => ?_⟩
      refine cN.then ?_ (by rfl)
      simp +contextual -implicitDefEqProofs (maxSteps := 2000000) (disch := omega) only [drawC, drawK, keepT, ↓lenV, binV, optV, ↓loadV, ↓storeV, ↓fieldAddrV, ↓indexAddrV, ↓allocV, ↓boxV, ↓buildV, ↓buildSliceV, ↓sliceV, ↓appendV, ↓srcV, ↓minV, bound, cutTag, hiTag, fillG, fillE, place, GVal.cells, GVal.ofConst, ↓resV, resG, ↓reduceIte, reduceEqDiff, reduceAdd, reduceSub, reduceLeDiff, reduceCtorEq, ↓asrcV, aggV, Tag.cap, GVal.solid, Nat.reduceBEq, reduceMul, reduceLT, vcA, ↓vcB, vcC, fbFy, e9, vcD]
      refine cHn.then ?_ (by rfl)
      have q1' := Int.emod_nonneg rh (by decide : (60 : Int) ≠ 0)
      have q2' := Int.emod_lt_of_pos rh (by decide : (0 : Int) < 60)
      have cQ := sPick rh 60 (by omega) (by omega)
      obtain ⟨q, hq⟩ : ∃ q, rh % 60 = q := ⟨_, rfl⟩
      rw [hq] at cQ q1' q2'
      simp +contextual -implicitDefEqProofs (maxSteps := 2000000) (disch := omega) only [drawC, drawK, keepT, ↓lenV, binV, optV, ↓loadV, ↓storeV, ↓fieldAddrV, ↓indexAddrV, ↓allocV, ↓boxV, ↓buildV, ↓buildSliceV, ↓sliceV, ↓appendV, ↓srcV, ↓minV, bound, cutTag, hiTag, fillG, fillE, place, GVal.cells, GVal.ofConst, ↓resV, resG, ↓reduceIte, reduceEqDiff, reduceAdd, reduceSub, reduceLeDiff, reduceCtorEq, ↓asrcV, aggV, Tag.cap, GVal.solid, Nat.reduceBEq, reduceMul, reduceLT, vcA, ↓vcB, vcC, fbFy, e9, dropZ, List.append_nil, drop32y, hsG_len, csG_len, rawsG_len, ints_len, all_hsG, all_csG, all_ints, if32, one32, set33, k10, k20, k21, setO_6, setO_7, vcD, vnT, v33, v32]
      intro v
      refine cA.then ?_ (by rfl)
      simp +contextual -implicitDefEqProofs (maxSteps := 2000000) (disch := omega) only [drawC, drawK, keepT, ↓lenV, binV, optV, ↓loadV, ↓storeV, ↓fieldAddrV, ↓indexAddrV, ↓allocV, ↓boxV, ↓buildV, ↓buildSliceV, ↓sliceV, ↓appendV, ↓srcV, ↓minV, bound, cutTag, hiTag, fillG, fillE, place, GVal.cells, GVal.ofConst, ↓resV, resG, ↓reduceIte, reduceEqDiff, reduceAdd, reduceSub, reduceLeDiff, reduceCtorEq, ↓asrcV, aggV, Tag.cap, GVal.solid, Nat.reduceBEq, reduceMul, reduceLT, vcA, ↓vcB, vcC, fbFy, e9, dropZ, List.append_nil, drop32y, hsG_len, csG_len, rawsG_len, ints_len, all_hsG, all_csG, all_ints, if32, one32, set33, k10, k20, k21, setO_6, setO_7, vcD, vnT, v33, v32]
      refine vcSLoop_by (ι := { p : (Nat × List Hs) × Nat // p.1.1 ≤ A.length ∧ p.1.2.length = p.1.1 }) (fun p => ⟨[.any, .ref (rrG x), .ptr 0 s2 0 0, .ptr 1 s3 0 0, .int .i64 (i : Nat), .ptr 3 u 0 0, .int .i64 n, .ptr 4 v 0 0, .slice (ints A) .none, .int .i64 (p.1.1.1 : Nat)] ++ List.replicate 237 .any, [.row s2 3 [rqZ], .row s3 3 [[.slice (csG cs) (.tok 2 sc), .slice [] .nil, .int .i64 gr]], .tok sc 33, .row u 3 [[.int .i64 rn, .int .i64 rh, .slice (ints rp) .none]], .row v 33 [bytesG h.1 ++ [.slice (hsG p.1.1.2) (.tok 5 p.1.2)]], .tok p.1.2 32]⟩) (fun p => A.length - p.1.1.1) ?_ ?_
      · refine Into.cellTok 4 32 32 [] (tg := .nil) rfl (at33 h _) rfl (len33 h _) ?_
        simp +contextual -implicitDefEqProofs (maxSteps := 2000000) (disch := omega) only [drawC, drawK, keepT, ↓lenV, binV, optV, ↓loadV, ↓storeV, ↓fieldAddrV, ↓indexAddrV, ↓allocV, ↓boxV, ↓buildV, ↓buildSliceV, ↓sliceV, ↓appendV, ↓srcV, ↓minV, bound, cutTag, hiTag, fillG, fillE, place, GVal.cells, GVal.ofConst, ↓resV, resG, ↓reduceIte, reduceEqDiff, reduceAdd, reduceSub, reduceLeDiff, reduceCtorEq, ↓asrcV, aggV, Tag.cap, GVal.solid, Nat.reduceBEq, reduceMul, reduceLT, vcA, ↓vcB, vcC, fbFy, e9, vcD]
        intro sp
        exact Into.first ⟨((0, []), sp), Nat.zero_le _, rfl⟩ ⟨[], by simp [set33, hsG]⟩ (by simp [WL, leG_self, leG_any])
      · rintro ⟨⟨⟨j, ps⟩, sp⟩, hj, hpl⟩
        change j ≤ A.length at hj
        change ps.length = j at hpl
        by_cases h' : j < A.length
        · have d2 : ((j : Int) < (A.length : Int)) = True := eq_true (by omega)
          have eA := ints_at A j h'
          generalize A.getD j 0 = a at *
          have cHa := hHashF a
          obtain ⟨y, hy⟩ : ∃ y, hashF a = y := ⟨_, rfl⟩
          rw [hy] at cHa
          simp +contextual -implicitDefEqProofs (maxSteps := 2000000) (disch := omega) only [drawC, drawK, keepT, ↓lenV, binV, optV, ↓loadV, ↓storeV, ↓fieldAddrV, ↓indexAddrV, ↓allocV, ↓boxV, ↓buildV, ↓buildSliceV, ↓sliceV, ↓appendV, ↓srcV, ↓minV, bound, cutTag, hiTag, fillG, fillE, place, GVal.cells, GVal.ofConst, ↓resV, resG, ↓reduceIte, reduceEqDiff, reduceAdd, reduceSub, reduceLeDiff, reduceCtorEq, ↓asrcV, aggV, Tag.cap, GVal.solid, Nat.reduceBEq, reduceMul, reduceLT, vcA, ↓vcB, vcC, fbFy, e9, dropZ, List.append_nil, drop32y, hsG_len, csG_len, rawsG_len, ints_len, all_hsG, all_csG, all_ints, if32, one32, set33, k10, k20, k21, setO_6, setO_7, d2, eA, vcD, vnT, v33, v32]
          refine ⟨by omega, ?_⟩
          refine cHa.then ?_ (by rfl)
          simp +contextual -implicitDefEqProofs (maxSteps := 2000000) (disch := omega) only [drawC, drawK, keepT, ↓lenV, binV, optV, ↓loadV, ↓storeV, ↓fieldAddrV, ↓indexAddrV, ↓allocV, ↓boxV, ↓buildV, ↓buildSliceV, ↓sliceV, ↓appendV, ↓srcV, ↓minV, bound, cutTag, hiTag, fillG, fillE, place, GVal.cells, GVal.ofConst, ↓resV, resG, ↓reduceIte, reduceEqDiff, reduceAdd, reduceSub, reduceLeDiff, reduceCtorEq, ↓asrcV, aggV, Tag.cap, GVal.solid, Nat.reduceBEq, reduceMul, reduceLT, vcA, ↓vcB, vcC, fbFy, e9, dropZ, List.append_nil, drop32y, hsG_len, csG_len, rawsG_len, ints_len, all_hsG, all_csG, all_ints, if32, one32, set33, k10, k20, k21, setO_6, setO_7, vcD, vnT, v33, v32]
          refine ⟨⟨[], by simp⟩, by omega, by omega, fun sp' => ?_⟩
          exact Into.at ⟨((j + 1, ps ++ [y]), sp'), by show j + 1 ≤ A.length; omega, by show (ps ++ [y]).length = j + 1; rw [List.length_append, List.length_singleton, hpl]⟩ (by show A.length - (j + 1) < A.length - j; omega) ⟨[], by simp [hsG_app, hsG]⟩ (by simp [WL, leG_self, leG_any, leG_int])
        · have d2 : ((j : Int) < (A.length : Int)) = False := eq_false (by omega)
          by_cases q0 : q = 0
          · subst q0
            simp +contextual -implicitDefEqProofs (maxSteps := 2000000) (disch := omega) only [drawC, drawK, keepT, ↓lenV, binV, optV, ↓loadV, ↓storeV, ↓fieldAddrV, ↓indexAddrV, ↓allocV, ↓boxV, ↓buildV, ↓buildSliceV, ↓sliceV, ↓appendV, ↓srcV, ↓minV, bound, cutTag, hiTag, fillG, fillE, place, GVal.cells, GVal.ofConst, ↓resV, resG, ↓reduceIte, reduceEqDiff, reduceAdd, reduceSub, reduceLeDiff, reduceCtorEq, ↓asrcV, aggV, Tag.cap, GVal.solid, Nat.reduceBEq, reduceMul, reduceLT, vcA, ↓vcB, vcC, fbFy, e9, dropZ, List.append_nil, drop32y, hsG_len, csG_len, rawsG_len, ints_len, all_hsG, all_csG, all_ints, if32, one32, set33, k10, k20, k21, setO_6, setO_7, d2, vcD, vnT, v33, v32]
            refine cQ.then ?_ (by rfl)
            simp +contextual -implicitDefEqProofs (maxSteps := 2000000) (disch := omega) only [drawC, drawK, keepT, ↓lenV, binV, optV, ↓loadV, ↓storeV, ↓fieldAddrV, ↓indexAddrV, ↓allocV, ↓boxV, ↓buildV, ↓buildSliceV, ↓sliceV, ↓appendV, ↓srcV, ↓minV, bound, cutTag, hiTag, fillG, fillE, place, GVal.cells, GVal.ofConst, ↓resV, resG, ↓reduceIte, reduceEqDiff, reduceAdd, reduceSub, reduceLeDiff, reduceCtorEq, ↓asrcV, aggV, Tag.cap, GVal.solid, Nat.reduceBEq, reduceMul, reduceLT, vcA, ↓vcB, vcC, fbFy, e9, dropZ, List.append_nil, drop32y, hsG_len, csG_len, rawsG_len, ints_len, all_hsG, all_csG, all_ints, if32, one32, set33, k10, k20, k21, setO_6, setO_7, vcD, vnT, v33, v32]
            refine vcSLoop_by (ι := { p : (Nat × List Hs) × Nat // p.1.1 ≤ rp.length ∧ p.1.1 ≤ 6 ∧ p.1.2.length ≤ 2 + p.1.1 }) (fun p => ⟨[.any, .ref (rrG x), .ptr 0 s2 0 0, .ptr 1 s3 0 0, .int .i64 (i : Nat), .ptr 3 u 0 0, .int .i64 n, .ptr 4 v 0 0, .any, .any, .int .i64 (p.1.1.1 : Nat)] ++ List.replicate 236 .any, [.row s2 3 [rqZ], .row s3 3 [[.slice (csG cs) (.tok 2 sc), .slice [] .nil, .int .i64 gr]], .tok sc 33, .row u 3 [[.int .i64 rn, .int .i64 rh, .slice (ints rp) .none]], .row v 33 [bytesG h.1 ++ [.slice (hsG p.1.1.2) (.tok 5 p.1.2)]], .tok p.1.2 32]⟩) (fun p => 6 - p.1.1.1) ?_ ?_
            · exact Into.first ⟨((0, ps), sp), Nat.zero_le _, Nat.zero_le _, by show ps.length ≤ 2 + 0; omega⟩ ⟨[], by simp⟩ (by simp [WL, leG_self, leG_any])
            · rintro ⟨⟨⟨k, ps⟩, sp⟩, hk, hk6, hpl⟩
              change k ≤ rp.length at hk
              change k ≤ 6 at hk6
              change ps.length ≤ 2 + k at hpl
              by_cases hk' : k < rp.length ∧ k < 6
              · have d3 : ((k : Int) < (rp.length : Int)) = True := eq_true (by omega)
                have d4 : ((k : Int) < 6) = True := eq_true (by omega)
                have eB := ints_at rp k hk'.1
                generalize rp.getD k 0 = a at *
                have cHa := hHashF a
                obtain ⟨y, hy⟩ : ∃ y, hashF a = y := ⟨_, rfl⟩
                rw [hy] at cHa
                simp +contextual -implicitDefEqProofs (maxSteps := 2000000) (disch := omega) only [drawC, drawK, keepT, ↓lenV, binV, optV, ↓loadV, ↓storeV, ↓fieldAddrV, ↓indexAddrV, ↓allocV, ↓boxV, ↓buildV, ↓buildSliceV, ↓sliceV, ↓appendV, ↓srcV, ↓minV, bound, cutTag, hiTag, fillG, fillE, place, GVal.cells, GVal.ofConst, ↓resV, resG, ↓reduceIte, reduceEqDiff, reduceAdd, reduceSub, reduceLeDiff, reduceCtorEq, ↓asrcV, aggV, Tag.cap, GVal.solid, Nat.reduceBEq, reduceMul, reduceLT, vcA, ↓vcB, vcC, fbFy, e9, dropZ, List.append_nil, drop32y, hsG_len, csG_len, rawsG_len, ints_len, all_hsG, all_csG, all_ints, if32, one32, set33, k10, k20, k21, setO_6, setO_7, d3, d4, eB, vcD, vnT, v33, v32]
                refine ⟨by omega, ?_⟩
                refine cHa.then ?_ (by rfl)
                simp +contextual -implicitDefEqProofs (maxSteps := 2000000) (disch := omega) only [drawC, drawK, keepT, ↓lenV, binV, optV, ↓loadV, ↓storeV, ↓fieldAddrV, ↓indexAddrV, ↓allocV, ↓boxV, ↓buildV, ↓buildSliceV, ↓sliceV, ↓appendV, ↓srcV, ↓minV, bound, cutTag, hiTag, fillG, fillE, place, GVal.cells, GVal.ofConst, ↓resV, resG, ↓reduceIte, reduceEqDiff, reduceAdd, reduceSub, reduceLeDiff, reduceCtorEq, ↓asrcV, aggV, Tag.cap, GVal.solid, Nat.reduceBEq, reduceMul, reduceLT, vcA, ↓vcB, vcC, fbFy, e9, dropZ, List.append_nil, drop32y, hsG_len, csG_len, rawsG_len, ints_len, all_hsG, all_csG, all_ints, if32, one32, set33, k10, k20, k21, setO_6, setO_7, vcD, vnT, v33, v32]
                refine ⟨⟨[], by simp⟩, by omega, by omega, fun sp' => ?_⟩
                exact Into.at ⟨((k + 1, ps ++ [y]), sp'), by show k + 1 ≤ rp.length; omega, by show k + 1 ≤ 6; omega, by show (ps ++ [y]).length ≤ 2 + (k + 1); rw [List.length_append, List.length_singleton]; omega⟩ (by show 6 - (k + 1) < 6 - k; omega) ⟨[], by simp [hsG_app, hsG]⟩ (by simp [WL, leG_self, leG_any, leG_int])
              · by_cases hk1 : k < rp.length
                · have d3 : ((k : Int) < (rp.length : Int)) = True := eq_true (by omega)
                  have d4 : ((k : Int) < 6) = False := eq_false (by omega)
                  simp +contextual -implicitDefEqProofs (maxSteps := 2000000) (disch := omega) only [drawC, drawK, keepT, ↓lenV, binV, optV, ↓loadV, ↓storeV, ↓fieldAddrV, ↓indexAddrV, ↓allocV, ↓boxV, ↓buildV, ↓buildSliceV, ↓sliceV, ↓appendV, ↓srcV, ↓minV, bound, cutTag, hiTag, fillG, fillE, place, GVal.cells, GVal.ofConst, ↓resV, resG, ↓reduceIte, reduceEqDiff, reduceAdd, reduceSub, reduceLeDiff, reduceCtorEq, ↓asrcV, aggV, Tag.cap, GVal.solid, Nat.reduceBEq, reduceMul, reduceLT, vcA, ↓vcB, vcC, fbFy, e9, dropZ, List.append_nil, drop32y, hsG_len, csG_len, rawsG_len, ints_len, all_hsG, all_csG, all_ints, if32, one32, set33, k10, k20, k21, setO_6, setO_7, d3, d4, vcD, vnT, v33, v32]
                  refine ⟨by omega, by omega, fun st => ?_⟩
                  refine Into.rowLe (t := s3) (sz := 3) 1 [[.slice (csG cs ++ [bytesG h.1 ++ [.slice (hsG (ps)) (.tok 5 sp)]]) (.tok 2 st), .slice [] .nil, .int .i64 gr]] [[.slice (csG (cs ++ [(h, ps)])) (.tok 2 st), .slice [] .nil, .int .i64 gr]] (by simp [hsG_app, hsG]) ⟨⟨GLe.slice (by rw [csG_app]; exact GLess.app (GLess.refl _) ⟨GLes_com _ _ _, trivial⟩), GLe.refl _, GLe.refl _, trivial⟩, trivial⟩ ?_
                  refine Into.at ⟨((i + 1, cs ++ [(h, ps)]), st), by show i + 1 ≤ x.l.length; omega, by show i + 1 ≤ 12; omega, by show (cs ++ [(h, ps)]).length ≤ i + 1; rw [List.length_append, List.length_singleton]; omega, fun c hc => ?_⟩ (by show 12 - (i + 1) < 12 - i; omega) ⟨[.row u 3 [[.int .i64 rn, .int .i64 rh, .slice (ints rp) .none]], .row v 33 [bytesG h.1 ++ [.slice (hsG ps) (.tok 5 sp)]], .tok sp 32], rfl⟩ (by simp [WL, leG_self, leG_any, leG_int])
                  rcases List.mem_append.1 hc with q | q
                  · exact hcp c q
                  · rw [List.mem_singleton.1 q]; show ps.length ≤ 8; omega
                · have d3 : ((k : Int) < (rp.length : Int)) = False := eq_false (by omega)
                  simp +contextual -implicitDefEqProofs (maxSteps := 2000000) (disch := omega) only [drawC, drawK, keepT, ↓lenV, binV, optV, ↓loadV, ↓storeV, ↓fieldAddrV, ↓indexAddrV, ↓allocV, ↓boxV, ↓buildV, ↓buildSliceV, ↓sliceV, ↓appendV, ↓srcV, ↓minV, bound, cutTag, hiTag, fillG, fillE, place, GVal.cells, GVal.ofConst, ↓resV, resG, ↓reduceIte, reduceEqDiff, reduceAdd, reduceSub, reduceLeDiff, reduceCtorEq, ↓asrcV, aggV, Tag.cap, GVal.solid, Nat.reduceBEq, reduceMul, reduceLT, vcA, ↓vcB, vcC, fbFy, e9, dropZ, List.append_nil, drop32y, hsG_len, csG_len, rawsG_len, ints_len, all_hsG, all_csG, all_ints, if32, one32, set33, k10, k20, k21, setO_6, setO_7, d3, vcD, vnT, v33, v32]
                  refine ⟨by omega, by omega, fun st => ?_⟩
                  refine Into.rowLe (t := s3) (sz := 3) 1 [[.slice (csG cs ++ [bytesG h.1 ++ [.slice (hsG (ps)) (.tok 5 sp)]]) (.tok 2 st), .slice [] .nil, .int .i64 gr]] [[.slice (csG (cs ++ [(h, ps)])) (.tok 2 st), .slice [] .nil, .int .i64 gr]] (by simp [hsG_app, hsG]) ⟨⟨GLe.slice (by rw [csG_app]; exact GLess.app (GLess.refl _) ⟨GLes_com _ _ _, trivial⟩), GLe.refl _, GLe.refl _, trivial⟩, trivial⟩ ?_
                  refine Into.at ⟨((i + 1, cs ++ [(h, ps)]), st), by show i + 1 ≤ x.l.length; omega, by show i + 1 ≤ 12; omega, by show (cs ++ [(h, ps)]).length ≤ i + 1; rw [List.length_append, List.length_singleton]; omega, fun c hc => ?_⟩ (by show 12 - (i + 1) < 12 - i; omega) ⟨[.row u 3 [[.int .i64 rn, .int .i64 rh, .slice (ints rp) .none]], .row v 33 [bytesG h.1 ++ [.slice (hsG ps) (.tok 5 sp)]], .tok sp 32], rfl⟩ (by simp [WL, leG_self, leG_any, leG_int])
                  rcases List.mem_append.1 hc with q | q
                  · exact hcp c q
                  · rw [List.mem_singleton.1 q]; show ps.length ≤ 8; omega
          · have e0 : (q = 0) = False := eq_false q0
            by_cases q1 : q = 1
            · subst q1
              match ps, hpl with
              | [], hpl =>
                simp +contextual -implicitDefEqProofs (maxSteps := 2000000) (disch := omega) only [drawC, drawK, keepT, ↓lenV, binV, optV, ↓loadV, ↓storeV, ↓fieldAddrV, ↓indexAddrV, ↓allocV, ↓boxV, ↓buildV, ↓buildSliceV, ↓sliceV, ↓appendV, ↓srcV, ↓minV, bound, cutTag, hiTag, fillG, fillE, place, GVal.cells, GVal.ofConst, ↓resV, resG, ↓reduceIte, reduceEqDiff, reduceAdd, reduceSub, reduceLeDiff, reduceCtorEq, ↓asrcV, aggV, Tag.cap, GVal.solid, Nat.reduceBEq, reduceMul, reduceLT, vcA, ↓vcB, vcC, fbFy, e9, dropZ, List.append_nil, drop32y, hsG_len, csG_len, rawsG_len, ints_len, all_hsG, all_csG, all_ints, if32, one32, set33, k10, k20, k21, setO_6, setO_7, d2, vcD, vnT, v33, v32]
                refine cQ.then ?_ (by rfl)
                simp +contextual -implicitDefEqProofs (maxSteps := 2000000) (disch := omega) only [drawC, drawK, keepT, ↓lenV, binV, optV, ↓loadV, ↓storeV, ↓fieldAddrV, ↓indexAddrV, ↓allocV, ↓boxV, ↓buildV, ↓buildSliceV, ↓sliceV, ↓appendV, ↓srcV, ↓minV, bound, cutTag, hiTag, fillG, fillE, place, GVal.cells, GVal.ofConst, ↓resV, resG, ↓reduceIte, reduceEqDiff, reduceAdd, reduceSub, reduceLeDiff, reduceCtorEq, ↓asrcV, aggV, Tag.cap, GVal.solid, Nat.reduceBEq, reduceMul, reduceLT, vcA, ↓vcB, vcC, fbFy, e9, dropZ, List.append_nil, drop32y, hsG_len, csG_len, rawsG_len, ints_len, all_hsG, all_csG, all_ints, if32, one32, set33, k10, k20, k21, setO_6, setO_7, List.length_nil, Int.natCast_zero, Int.lt_irrefl, vcD, vnT, v33, v32]
                refine ⟨by omega, by omega, fun st => ?_⟩
                refine Into.rowLe (t := s3) (sz := 3) 1 [[.slice (csG cs ++ [bytesG h.1 ++ [.slice (hsG (([] : List Hs))) (.tok 5 sp)]]) (.tok 2 st), .slice [] .nil, .int .i64 gr]] [[.slice (csG (cs ++ [(h, ([] : List Hs))])) (.tok 2 st), .slice [] .nil, .int .i64 gr]] (by simp [hsG_app, hsG]) ⟨⟨GLe.slice (by rw [csG_app]; exact GLess.app (GLess.refl _) ⟨GLes_com _ _ _, trivial⟩), GLe.refl _, GLe.refl _, trivial⟩, trivial⟩ ?_
                refine Into.at ⟨((i + 1, cs ++ [(h, ([] : List Hs))]), st), by show i + 1 ≤ x.l.length; omega, by show i + 1 ≤ 12; omega, by show (cs ++ [(h, ([] : List Hs))]).length ≤ i + 1; rw [List.length_append, List.length_singleton]; omega, fun c hc => ?_⟩ (by show 12 - (i + 1) < 12 - i; omega) ⟨[.row u 3 [[.int .i64 rn, .int .i64 rh, .slice (ints rp) .none]], .row v 33 [bytesG h.1 ++ [.slice (hsG []) (.tok 5 sp)]], .tok sp 32], rfl⟩ (by simp [WL, leG_self, leG_any, leG_int])
                rcases List.mem_append.1 hc with q | q
                · exact hcp c q
                · rw [List.mem_singleton.1 q]; show 0 ≤ 8; omega
              | y :: pr, hpl =>
                have d3 : ((0 : Int) < ((y :: pr).length : Int)) = True := eq_true (by simp)
                have d4 : ((0 : Int) < (pr.length : Int) + 1) = True := eq_true (by omega)
                have eY : (hsG (y :: pr)).getD 0 [] = bytesG y.1 := rfl
                have hpr : pr.length ≤ 1 := by simp at hpl; omega
                simp +contextual -implicitDefEqProofs (maxSteps := 2000000) (disch := omega) only [drawC, drawK, keepT, ↓lenV, binV, optV, ↓loadV, ↓storeV, ↓fieldAddrV, ↓indexAddrV, ↓allocV, ↓boxV, ↓buildV, ↓buildSliceV, ↓sliceV, ↓appendV, ↓srcV, ↓minV, bound, cutTag, hiTag, fillG, fillE, place, GVal.cells, GVal.ofConst, ↓resV, resG, ↓reduceIte, reduceEqDiff, reduceAdd, reduceSub, reduceLeDiff, reduceCtorEq, ↓asrcV, aggV, Tag.cap, GVal.solid, Nat.reduceBEq, reduceMul, reduceLT, vcA, ↓vcB, vcC, fbFy, e9, dropZ, List.append_nil, drop32y, hsG_len, csG_len, rawsG_len, ints_len, all_hsG, all_csG, all_ints, if32, one32, set33, k10, k20, k21, setO_6, setO_7, d2, vcD, vnT, v33, v32]
                refine cQ.then ?_ (by rfl)
                simp +contextual -implicitDefEqProofs (maxSteps := 2000000) (disch := omega) only [drawC, drawK, keepT, ↓lenV, binV, optV, ↓loadV, ↓storeV, ↓fieldAddrV, ↓indexAddrV, ↓allocV, ↓boxV, ↓buildV, ↓buildSliceV, ↓sliceV, ↓appendV, ↓srcV, ↓minV, bound, cutTag, hiTag, fillG, fillE, place, GVal.cells, GVal.ofConst, ↓resV, resG, ↓reduceIte, reduceEqDiff, reduceAdd, reduceSub, reduceLeDiff, reduceCtorEq, ↓asrcV, aggV, Tag.cap, GVal.solid, Nat.reduceBEq, reduceMul, reduceLT, vcA, ↓vcB, vcC, fbFy, e9, dropZ, List.append_nil, drop32y, hsG_len, csG_len, rawsG_len, ints_len, all_hsG, all_csG, all_ints, if32, one32, set33, k10, k20, k21, setO_6, setO_7, d3, d4, eY, toNat0, List.length_cons, vcD, vnT, v33, v32]
                refine ⟨by omega, by omega, by omega, fun sp' => ?_⟩
                refine ⟨by omega, by omega, fun st => ?_⟩
                refine Into.rowLe (t := s3) (sz := 3) 1 [[.slice (csG cs ++ [bytesG h.1 ++ [.slice (hsG ((y :: pr) ++ [y])) (.tok 5 sp')]]) (.tok 2 st), .slice [] .nil, .int .i64 gr]] [[.slice (csG (cs ++ [(h, (y :: pr) ++ [y])])) (.tok 2 st), .slice [] .nil, .int .i64 gr]] (by simp [hsG_app, hsG]) ⟨⟨GLe.slice (by rw [csG_app]; exact GLess.app (GLess.refl _) ⟨GLes_com _ _ _, trivial⟩), GLe.refl _, GLe.refl _, trivial⟩, trivial⟩ ?_
                refine Into.at ⟨((i + 1, cs ++ [(h, (y :: pr) ++ [y])]), st), by show i + 1 ≤ x.l.length; omega, by show i + 1 ≤ 12; omega, by show (cs ++ [(h, (y :: pr) ++ [y])]).length ≤ i + 1; rw [List.length_append, List.length_singleton]; omega, fun c hc => ?_⟩ (by show 12 - (i + 1) < 12 - i; omega) ⟨[.row u 3 [[.int .i64 rn, .int .i64 rh, .slice (ints rp) .none]], .row v 33 [bytesG h.1 ++ [.slice (hsG (y :: pr) ++ [bytesG y.1]) (.tok 5 sp')]], .tok sp' 32], rfl⟩ (by simp [WL, leG_self, leG_any, leG_int])
                rcases List.mem_append.1 hc with q | q
                · exact hcp c q
                · rw [List.mem_singleton.1 q]; show ((y :: pr) ++ [y]).length ≤ 8; simp; omega
            · have e1 : (q = 1) = False := eq_false q1
              by_cases q2 : q = 2
              · subst q2
                simp +contextual -implicitDefEqProofs (maxSteps := 2000000) (disch := omega) only [drawC, drawK, keepT, ↓lenV, binV, optV, ↓loadV, ↓storeV, ↓fieldAddrV, ↓indexAddrV, ↓allocV, ↓boxV, ↓buildV, ↓buildSliceV, ↓sliceV, ↓appendV, ↓srcV, ↓minV, bound, cutTag, hiTag, fillG, fillE, place, GVal.cells, GVal.ofConst, ↓resV, resG, ↓reduceIte, reduceEqDiff, reduceAdd, reduceSub, reduceLeDiff, reduceCtorEq, ↓asrcV, aggV, Tag.cap, GVal.solid, Nat.reduceBEq, reduceMul, reduceLT, vcA, ↓vcB, vcC, fbFy, e9, dropZ, List.append_nil, drop32y, hsG_len, csG_len, rawsG_len, ints_len, all_hsG, all_csG, all_ints, if32, one32, set33, k10, k20, k21, setO_6, setO_7, d2, vcD, vnT, v33, v32]
                refine cQ.then ?_ (by rfl)
                simp +contextual -implicitDefEqProofs (maxSteps := 2000000) (disch := omega) only [drawC, drawK, keepT, ↓lenV, binV, optV, ↓loadV, ↓storeV, ↓fieldAddrV, ↓indexAddrV, ↓allocV, ↓boxV, ↓buildV, ↓buildSliceV, ↓sliceV, ↓appendV, ↓srcV, ↓minV, bound, cutTag, hiTag, fillG, fillE, place, GVal.cells, GVal.ofConst, ↓resV, resG, ↓reduceIte, reduceEqDiff, reduceAdd, reduceSub, reduceLeDiff, reduceCtorEq, ↓asrcV, aggV, Tag.cap, GVal.solid, Nat.reduceBEq, reduceMul, reduceLT, vcA, ↓vcB, vcC, fbFy, e9, dropZ, List.append_nil, drop32y, hsG_len, csG_len, rawsG_len, ints_len, all_hsG, all_csG, all_ints, if32, one32, set33, k10, k20, k21, setO_6, setO_7, vcD, vnT, v33, v32]
                have cH2 := hHashF (n + 1)
                obtain ⟨z, hz⟩ : ∃ z, hashF (n + 1) = z := ⟨_, rfl⟩
                rw [hz] at cH2
                refine cH2.then ?_ (by rfl)
                simp +contextual -implicitDefEqProofs (maxSteps := 2000000) (disch := omega) only [drawC, drawK, keepT, ↓lenV, binV, optV, ↓loadV, ↓storeV, ↓fieldAddrV, ↓indexAddrV, ↓allocV, ↓boxV, ↓buildV, ↓buildSliceV, ↓sliceV, ↓appendV, ↓srcV, ↓minV, bound, cutTag, hiTag, fillG, fillE, place, GVal.cells, GVal.ofConst, ↓resV, resG, ↓reduceIte, reduceEqDiff, reduceAdd, reduceSub, reduceLeDiff, reduceCtorEq, ↓asrcV, aggV, Tag.cap, GVal.solid, Nat.reduceBEq, reduceMul, reduceLT, vcA, ↓vcB, vcC, fbFy, e9, dropZ, List.append_nil, drop32y, hsG_len, csG_len, rawsG_len, ints_len, all_hsG, all_csG, all_ints, if32, one32, set33, k10, k20, k21, setO_6, setO_7, vcD, vnT, v33, v32]
                refine ⟨by omega, by omega, fun st => ?_⟩
                refine Into.rowLe (t := s3) (sz := 3) 1 [[.slice (csG cs ++ [bytesG h.1 ++ [.slice (hsG ([z])) .full]]) (.tok 2 st), .slice [] .nil, .int .i64 gr]] [[.slice (csG (cs ++ [(h, [z])])) (.tok 2 st), .slice [] .nil, .int .i64 gr]] (by simp [hsG_app, hsG]) ⟨⟨GLe.slice (by rw [csG_app]; exact GLess.app (GLess.refl _) ⟨GLes_com _ _ _, trivial⟩), GLe.refl _, GLe.refl _, trivial⟩, trivial⟩ ?_
                refine Into.at ⟨((i + 1, cs ++ [(h, [z])]), st), by show i + 1 ≤ x.l.length; omega, by show i + 1 ≤ 12; omega, by show (cs ++ [(h, [z])]).length ≤ i + 1; rw [List.length_append, List.length_singleton]; omega, fun c hc => ?_⟩ (by show 12 - (i + 1) < 12 - i; omega) ⟨[.row u 3 [[.int .i64 rn, .int .i64 rh, .slice (ints rp) .none]], .row v 33 [bytesG h.1 ++ [.slice [bytesG z.1] .full]], .tok sp 32], rfl⟩ (by simp [WL, leG_self, leG_any, leG_int])
                rcases List.mem_append.1 hc with q | q
                · exact hcp c q
                · rw [List.mem_singleton.1 q]; show 1 ≤ 8; omega
              · have e2 : (q = 2) = False := eq_false q2
                simp +contextual -implicitDefEqProofs (maxSteps := 2000000) (disch := omega) only [drawC, drawK, keepT, ↓lenV, binV, optV, ↓loadV, ↓storeV, ↓fieldAddrV, ↓indexAddrV, ↓allocV, ↓boxV, ↓buildV, ↓buildSliceV, ↓sliceV, ↓appendV, ↓srcV, ↓minV, bound, cutTag, hiTag, fillG, fillE, place, GVal.cells, GVal.ofConst, ↓resV, resG, ↓reduceIte, reduceEqDiff, reduceAdd, reduceSub, reduceLeDiff, reduceCtorEq, ↓asrcV, aggV, Tag.cap, GVal.solid, Nat.reduceBEq, reduceMul, reduceLT, vcA, ↓vcB, vcC, fbFy, e9, dropZ, List.append_nil, drop32y, hsG_len, csG_len, rawsG_len, ints_len, all_hsG, all_csG, all_ints, if32, one32, set33, k10, k20, k21, setO_6, setO_7, d2, vcD, vnT, v33, v32]
                refine cQ.then ?_ (by rfl)
                simp +contextual -implicitDefEqProofs (maxSteps := 2000000) (disch := omega) only [drawC, drawK, keepT, ↓lenV, binV, optV, ↓loadV, ↓storeV, ↓fieldAddrV, ↓indexAddrV, ↓allocV, ↓boxV, ↓buildV, ↓buildSliceV, ↓sliceV, ↓appendV, ↓srcV, ↓minV, bound, cutTag, hiTag, fillG, fillE, place, GVal.cells, GVal.ofConst, ↓resV, resG, ↓reduceIte, reduceEqDiff, reduceAdd, reduceSub, reduceLeDiff, reduceCtorEq, ↓asrcV, aggV, Tag.cap, GVal.solid, Nat.reduceBEq, reduceMul, reduceLT, vcA, ↓vcB, vcC, fbFy, e9, dropZ, List.append_nil, drop32y, hsG_len, csG_len, rawsG_len, ints_len, all_hsG, all_csG, all_ints, if32, one32, set33, k10, k20, k21, setO_6, setO_7, e0, e1, e2, vcD, vnT, v33, v32]
                refine ⟨by omega, by omega, fun st => ?_⟩
                refine Into.rowLe (t := s3) (sz := 3) 1 [[.slice (csG cs ++ [bytesG h.1 ++ [.slice (hsG (ps)) (.tok 5 sp)]]) (.tok 2 st), .slice [] .nil, .int .i64 gr]] [[.slice (csG (cs ++ [(h, ps)])) (.tok 2 st), .slice [] .nil, .int .i64 gr]] (by simp [hsG_app, hsG]) ⟨⟨GLe.slice (by rw [csG_app]; exact GLess.app (GLess.refl _) ⟨GLes_com _ _ _, trivial⟩), GLe.refl _, GLe.refl _, trivial⟩, trivial⟩ ?_
                refine Into.at ⟨((i + 1, cs ++ [(h, ps)]), st), by show i + 1 ≤ x.l.length; omega, by show i + 1 ≤ 12; omega, by show (cs ++ [(h, ps)]).length ≤ i + 1; rw [List.length_append, List.length_singleton]; omega, fun c hc => ?_⟩ (by show 12 - (i + 1) < 12 - i; omega) ⟨[.row u 3 [[.int .i64 rn, .int .i64 rh, .slice (ints rp) .none]], .row v 33 [bytesG h.1 ++ [.slice (hsG ps) (.tok 5 sp)]], .tok sp 32], rfl⟩ (by simp [WL, leG_self, leG_any, leG_int])
                rcases List.mem_append.1 hc with q | q
                · exact hcp c q
                · rw [List.mem_singleton.1 q]; show ps.length ≤ 8; omega
    · have hstop : True := trivial
      have w1 := Int.emod_nonneg x.how (by decide : (50 : Int) ≠ 0)
      have w2 := Int.emod_lt_of_pos x.how (by decide : (0 : Int) < 50)
      have cV := sPick x.how 50 (by omega) (by omega)
      have m1 := Int.emod_nonneg (norm .i64 (x.how.tdiv 50)) (by decide : (4 : Int) ≠ 0)
      have m2 := Int.emod_lt_of_pos (norm .i64 (x.how.tdiv 50)) (by decide : (0 : Int) < 4)
      have cM := sPick (norm .i64 (x.how.tdiv 50)) 4 (by omega) (by omega)
      obtain ⟨w, hw⟩ : ∃ w, x.how % 50 = w := ⟨_, rfl⟩
      obtain ⟨q, hqv⟩ : ∃ q, norm .i64 (x.how.tdiv 50) % 4 = q := ⟨_, rfl⟩
      rw [hw] at cV w1 w2
      rw [hqv] at cM m1 m2
      have k10 : ((1 : Int) = 0) = False := eq_false (by decide)
      have k20 : ((2 : Int) = 0) = False := eq_false (by decide)
      have k21 : ((2 : Int) = 1) = False := eq_false (by decide)
      have h12 : cs.length ≤ 12 := by omega
      have hcase : (∀ k : Nat, k ≤ x.l.length → k ≤ 12 → ¬ (k < x.l.length ∧ k < 12) → ((k : Int) < (x.l.length : Int)) = True ∧ ((k : Int) < 12) = False) ∨ (∀ k : Nat, k ≤ x.l.length → k ≤ 12 → ¬ (k < x.l.length ∧ k < 12) → ((k : Int) < (x.l.length : Int)) = False ∧ (True = True)) := by
        by_cases hh : x.l.length ≤ 12
        · exact .inr fun k h1 h2 h3 => ⟨eq_false (by omega), rfl⟩
        · exact .inl fun k h1 h2 h3 => ⟨eq_true (by omega), eq_false (by omega)⟩
      rcases hcase with hexit | hexit
      all_goals
        obtain ⟨d0, d1⟩ := hexit i hil hi h
        simp +contextual -implicitDefEqProofs (maxSteps := 2000000) (disch := omega) only [drawC, drawK, keepT, ↓lenV, binV, optV, ↓loadV, ↓storeV, ↓fieldAddrV, ↓indexAddrV, ↓allocV, ↓boxV, ↓buildV, ↓buildSliceV, ↓sliceV, ↓appendV, ↓srcV, ↓minV, bound, cutTag, hiTag, fillG, fillE, place, GVal.cells, GVal.ofConst, ↓resV, resG, ↓reduceIte, reduceEqDiff, reduceAdd, reduceSub, reduceLeDiff, reduceCtorEq, ↓asrcV, aggV, Tag.cap, GVal.solid, Nat.reduceBEq, reduceMul, reduceLT, vcA, ↓vcB, vcC, fbFy, e9, d0, d1, dropZ, List.append_nil, drop32y, hsG_len, csG_len, rawsG_len, ints_len, all_hsG, all_csG, all_ints, if32, one32, set33, k10, k20, k21, setO_6, setO_7, vcD, vnT, v33, v32]
        refine vcSLoop_by (ι := { p : (Nat × List Hs) × Nat // p.1.1 ≤ x.hs.length ∧ p.1.1 ≤ 4 ∧ p.1.2.length = p.1.1 }) (fun p => ⟨[.any, .ref (rrG x), .ptr 0 s2 0 0, .ptr 1 s3 0 0] ++ List.replicate 7 .any ++ [.int .i64 (p.1.1.1 : Nat)] ++ List.replicate 235 .any, [.row s2 3 [rqZ], .row s3 3 [[.slice (csG cs) (.tok 2 sc), .slice (hsG p.1.1.2) (.tok 3 p.1.2), .int .i64 gr]], .tok sc 33, .tok p.1.2 32]⟩) (fun p => 4 - p.1.1.1) ?_ ?_
        · refine Into.cellTok 1 1 32 [] rfl rfl rfl rfl ?_
          simp +contextual -implicitDefEqProofs (maxSteps := 2000000) (disch := omega) only [drawC, drawK, keepT, ↓lenV, binV, optV, ↓loadV, ↓storeV, ↓fieldAddrV, ↓indexAddrV, ↓allocV, ↓boxV, ↓buildV, ↓buildSliceV, ↓sliceV, ↓appendV, ↓srcV, ↓minV, bound, cutTag, hiTag, fillG, fillE, place, GVal.cells, GVal.ofConst, ↓resV, resG, ↓reduceIte, reduceEqDiff, reduceAdd, reduceSub, reduceLeDiff, reduceCtorEq, ↓asrcV, aggV, Tag.cap, GVal.solid, Nat.reduceBEq, reduceMul, reduceLT, vcA, ↓vcB, vcC, fbFy, e9, vcD]
          intro sh
          exact Into.first ⟨((0, []), sh), Nat.zero_le _, Nat.zero_le _, rfl⟩ ⟨[], rfl⟩ (by simp [WL, leG_self, leG_any])
        · rintro ⟨⟨⟨j, hs⟩, sh⟩, hj, hj4, hhl⟩
          change j ≤ x.hs.length at hj
          change j ≤ 4 at hj4
          change hs.length = j at hhl
          by_cases h' : j < x.hs.length ∧ j < 4
          · have d2 : ((j : Int) < (x.hs.length : Int)) = True := eq_true (by omega)
            have d3 : ((j : Int) < 4) = True := eq_true (by omega)
            have eA := ints_at x.hs j h'.1
            generalize x.hs.getD j 0 = a at *
            have cHa := hHashF a
            obtain ⟨y, hy⟩ : ∃ y, hashF a = y := ⟨_, rfl⟩
            rw [hy] at cHa
            simp +contextual -implicitDefEqProofs (maxSteps := 2000000) (disch := omega) only [drawC, drawK, keepT, ↓lenV, binV, optV, ↓loadV, ↓storeV, ↓fieldAddrV, ↓indexAddrV, ↓allocV, ↓boxV, ↓buildV, ↓buildSliceV, ↓sliceV, ↓appendV, ↓srcV, ↓minV, bound, cutTag, hiTag, fillG, fillE, place, GVal.cells, GVal.ofConst, ↓resV, resG, ↓reduceIte, reduceEqDiff, reduceAdd, reduceSub, reduceLeDiff, reduceCtorEq, ↓asrcV, aggV, Tag.cap, GVal.solid, Nat.reduceBEq, reduceMul, reduceLT, vcA, ↓vcB, vcC, fbFy, e9, dropZ, List.append_nil, drop32y, hsG_len, csG_len, rawsG_len, ints_len, all_hsG, all_csG, all_ints, if32, one32, set33, k10, k20, k21, setO_6, setO_7, d2, d3, eA, vcD, vnT, v33, v32]
            refine ⟨by omega, ?_⟩
            refine cHa.then ?_ (by rfl)
            simp +contextual -implicitDefEqProofs (maxSteps := 2000000) (disch := omega) only [drawC, drawK, keepT, ↓lenV, binV, optV, ↓loadV, ↓storeV, ↓fieldAddrV, ↓indexAddrV, ↓allocV, ↓boxV, ↓buildV, ↓buildSliceV, ↓sliceV, ↓appendV, ↓srcV, ↓minV, bound, cutTag, hiTag, fillG, fillE, place, GVal.cells, GVal.ofConst, ↓resV, resG, ↓reduceIte, reduceEqDiff, reduceAdd, reduceSub, reduceLeDiff, reduceCtorEq, ↓asrcV, aggV, Tag.cap, GVal.solid, Nat.reduceBEq, reduceMul, reduceLT, vcA, ↓vcB, vcC, fbFy, e9, dropZ, List.append_nil, drop32y, hsG_len, csG_len, rawsG_len, ints_len, all_hsG, all_csG, all_ints, if32, one32, set33, k10, k20, k21, setO_6, setO_7, vcD, vnT, v33, v32]
            refine ⟨⟨[], by simp⟩, by omega, by omega, fun sh' => ?_⟩
            exact Into.at ⟨((j + 1, hs ++ [y]), sh'), by show j + 1 ≤ x.hs.length; omega, by show j + 1 ≤ 4; omega, by show (hs ++ [y]).length = j + 1; rw [List.length_append, List.length_singleton, hhl]⟩ (by show 4 - (j + 1) < 4 - j; omega) ⟨[], by simp [hsG_app, hsG]⟩ (by simp [WL, leG_self, leG_any, leG_int])
          · have hh5 : hs.length ≤ 4 := by omega
            have hcase : (((j : Int) < (x.hs.length : Int)) = True ∧ ((j : Int) < 4) = False) ∨ (((j : Int) < (x.hs.length : Int)) = False ∧ (True = True)) := by
              by_cases hh : j < x.hs.length
              · exact .inl ⟨eq_true (by omega), eq_false (by omega)⟩
              · exact .inr ⟨eq_false (by omega), rfl⟩
            rcases hcase with ⟨d2, d3⟩ | ⟨d2, d3⟩
            all_goals
              simp +contextual -implicitDefEqProofs (maxSteps := 2000000) (disch := omega) only [drawC, drawK, keepT, ↓lenV, binV, optV, ↓loadV, ↓storeV, ↓fieldAddrV, ↓indexAddrV, ↓allocV, ↓boxV, ↓buildV, ↓buildSliceV, ↓sliceV, ↓appendV, ↓srcV, ↓minV, bound, cutTag, hiTag, fillG, fillE, place, GVal.cells, GVal.ofConst, ↓resV, resG, ↓reduceIte, reduceEqDiff, reduceAdd, reduceSub, reduceLeDiff, reduceCtorEq, ↓asrcV, aggV, Tag.cap, GVal.solid, Nat.reduceBEq, reduceMul, reduceLT, vcA, ↓vcB, vcC, fbFy, e9, dropZ, List.append_nil, drop32y, hsG_len, csG_len, rawsG_len, ints_len, all_hsG, all_csG, all_ints, if32, one32, set33, k10, k20, k21, setO_6, setO_7, d2, d3, vcD, vnT, v33, v32]
              refine ⟨by decide, ?_⟩
              refine cM.then ?_ (by rfl)
              by_cases hq0 : 0 < q
              · have dq : ((0 : Int) < q) = True := eq_true hq0
                have eMin : (min (x.hs.length : Int) 4).toNat = min x.hs.length 4 := by omega
                have lT : (x.hs.take (min x.hs.length 4)).length ≤ 4 := by rw [List.length_take]; omega
                simp +contextual -implicitDefEqProofs (maxSteps := 2000000) (disch := omega) only [drawC, drawK, keepT, ↓lenV, binV, optV, ↓loadV, ↓storeV, ↓fieldAddrV, ↓indexAddrV, ↓allocV, ↓boxV, ↓buildV, ↓buildSliceV, ↓sliceV, ↓appendV, ↓srcV, ↓minV, bound, cutTag, hiTag, fillG, fillE, place, GVal.cells, GVal.ofConst, ↓resV, resG, ↓reduceIte, reduceEqDiff, reduceAdd, reduceSub, reduceLeDiff, reduceCtorEq, ↓asrcV, aggV, Tag.cap, GVal.solid, Nat.reduceBEq, reduceMul, reduceLT, vcA, ↓vcB, vcC, fbFy, e9, dropZ, List.append_nil, drop32y, hsG_len, csG_len, rawsG_len, ints_len, all_hsG, all_csG, all_ints, if32, one32, set33, k10, k20, k21, setO_6, setO_7, dq, eMin, take_ints, toNat0, List.drop_zero, vcD, vnT, v33, v32]
                refine fun sb => ⟨by omega, by omega, by omega, ?_⟩
                obtain ⟨T0, hT0⟩ : ∃ T, x.hs.take (min x.hs.length 4) = T := ⟨_, rfl⟩
                rw [hT0] at lT ⊢
                refine vcSLoop_by (ι := { p : Nat × (List Bool × List Int) // p.1 ≤ x.l.length ∧ p.1 ≤ 12 ∧ p.2.1.length = 60 ∧ p.2.2.length ≤ 4 + 2 * p.1 }) (fun p => ⟨[.any, .ref (rrG x), .ptr 0 s2 0 0, .ptr 1 s3 0 0] ++ List.replicate 8 .any ++ [.ptr 4 sb 0 0, .slice (ints p.1.2.2) .none, .int .i64 (p.1.1 : Nat)] ++ List.replicate 232 .any, [.row s2 3 [rqZ], .row s3 3 [[.slice (csG cs) (.tok 2 sc), .slice (hsG hs) (.tok 3 sh), .int .i64 gr]], .tok sc 33, .tok sh 32, .row sb 60 [bls p.1.2.1]]⟩) (fun p => 12 - p.1.1) ?_ ?_
                · exact Into.first ⟨(0, (List.replicate 60 false, T0)), Nat.zero_le _, Nat.zero_le _, by simp, by show T0.length ≤ 4 + 2 * 0; omega⟩ ⟨[], rfl⟩ (by simp [WL, leG_self, leG_any])
                · rintro ⟨⟨k, ⟨B, T⟩⟩, hkl, hk, hB, hT⟩
                  change k ≤ x.l.length at hkl
                  change k ≤ 12 at hk
                  have hB : B.length = 60 := hB
                  change T.length ≤ 4 + 2 * k at hT
                  by_cases hk' : k < x.l.length ∧ k < 12
                  · have d4 : ((k : Int) < (x.l.length : Int)) = True := eq_true (by omega)
                    have d5 : ((k : Int) < 12) = True := eq_true (by omega)
                    have eR := rawsG_at x.l k hk'.1
                    generalize x.l.getD k default = r at *
                    obtain ⟨rn, rh, rp⟩ := r
                    have n1 := Int.emod_nonneg rn (by decide : (60 : Int) ≠ 0)
                    have n2 := Int.emod_lt_of_pos rn (by decide : (0 : Int) < 60)
                    have cN := sPick rn 60 (by omega) (by omega)
                    obtain ⟨n, hn⟩ : ∃ n, rn % 60 = n := ⟨_, rfl⟩
                    rw [hn] at cN n1 n2
                    have cA := gAhead n n1 n2
                    have lA := aheadL_len n
                    obtain ⟨A, hA⟩ : ∃ A, aheadL n = A := ⟨_, rfl⟩
                    rw [hA] at cA lA
                    simp +contextual -implicitDefEqProofs (maxSteps := 2000000) (disch := omega) only [drawC, drawK, keepT, ↓lenV, binV, optV, ↓loadV, ↓storeV, ↓fieldAddrV, ↓indexAddrV, ↓allocV, ↓boxV, ↓buildV, ↓buildSliceV, ↓sliceV, ↓appendV, ↓srcV, ↓minV, bound, cutTag, hiTag, fillG, fillE, place, GVal.cells, GVal.ofConst, ↓resV, resG, ↓reduceIte, reduceEqDiff, reduceAdd, reduceSub, reduceLeDiff, reduceCtorEq, ↓asrcV, aggV, Tag.cap, GVal.solid, Nat.reduceBEq, reduceMul, reduceLT, vcA, ↓vcB, vcC, fbFy, e9, dropZ, List.append_nil, drop32y, hsG_len, csG_len, rawsG_len, ints_len, all_hsG, all_csG, all_ints, if32, one32, set33, k10, k20, k21, setO_6, setO_7, d4, d5, eR, rawC, vcD, vnT, v33, v32]
                    refine ⟨by omega, ?_⟩
                    refine cN.then ?_ (by rfl)
                    obtain ⟨m, hm⟩ : ∃ m, n.toNat = m := ⟨_, rfl⟩
                    have hm60 : m < 60 := by omega
                    have eB := bls_put B m (by omega)
                    simp +contextual -implicitDefEqProofs (maxSteps := 2000000) (disch := omega) only [drawC, drawK, keepT, ↓lenV, binV, optV, ↓loadV, ↓storeV, ↓fieldAddrV, ↓indexAddrV, ↓allocV, ↓boxV, ↓buildV, ↓buildSliceV, ↓sliceV, ↓appendV, ↓srcV, ↓minV, bound, cutTag, hiTag, fillG, fillE, place, GVal.cells, GVal.ofConst, ↓resV, resG, ↓reduceIte, reduceEqDiff, reduceAdd, reduceSub, reduceLeDiff, reduceCtorEq, ↓asrcV, aggV, Tag.cap, GVal.solid, Nat.reduceBEq, reduceMul, reduceLT, vcA, ↓vcB, vcC, fbFy, e9, dropZ, List.append_nil, drop32y, hsG_len, csG_len, rawsG_len, ints_len, all_hsG, all_csG, all_ints, if32, one32, set33, k10, k20, k21, setO_6, setO_7, eR, rawC, hm, eB, vcD, vnT, v33, v32]
                    refine ⟨by omega, by omega, by rw [bls_len]; omega, by omega, by omega, by omega, by omega, fun st => ⟨⟨[_], rfl⟩, ?_⟩⟩
                    refine cN.then ?_ (by rfl)
                    simp +contextual -implicitDefEqProofs (maxSteps := 2000000) (disch := omega) only [drawC, drawK, keepT, ↓lenV, binV, optV, ↓loadV, ↓storeV, ↓fieldAddrV, ↓indexAddrV, ↓allocV, ↓boxV, ↓buildV, ↓buildSliceV, ↓sliceV, ↓appendV, ↓srcV, ↓minV, bound, cutTag, hiTag, fillG, fillE, place, GVal.cells, GVal.ofConst, ↓resV, resG, ↓reduceIte, reduceEqDiff, reduceAdd, reduceSub, reduceLeDiff, reduceCtorEq, ↓asrcV, aggV, Tag.cap, GVal.solid, Nat.reduceBEq, reduceMul, reduceLT, vcA, ↓vcB, vcC, fbFy, e9, dropZ, List.append_nil, drop32y, hsG_len, csG_len, rawsG_len, ints_len, all_hsG, all_csG, all_ints, if32, one32, set33, k10, k20, k21, setO_6, setO_7, vcD, vnT, v33, v32]
                    refine cA.then ?_ (by rfl)
                    simp +contextual -implicitDefEqProofs (maxSteps := 2000000) (disch := omega) only [drawC, drawK, keepT, ↓lenV, binV, optV, ↓loadV, ↓storeV, ↓fieldAddrV, ↓indexAddrV, ↓allocV, ↓boxV, ↓buildV, ↓buildSliceV, ↓sliceV, ↓appendV, ↓srcV, ↓minV, bound, cutTag, hiTag, fillG, fillE, place, GVal.cells, GVal.ofConst, ↓resV, resG, ↓reduceIte, reduceEqDiff, reduceAdd, reduceSub, reduceLeDiff, reduceCtorEq, ↓asrcV, aggV, Tag.cap, GVal.solid, Nat.reduceBEq, reduceMul, reduceLT, vcA, ↓vcB, vcC, fbFy, e9, dropZ, List.append_nil, drop32y, hsG_len, csG_len, rawsG_len, ints_len, all_hsG, all_csG, all_ints, if32, one32, set33, k10, k20, k21, setO_6, setO_7, vcD, vnT, v33, v32]
                    refine ⟨by omega, by omega, fun st2 => ?_⟩
                    exact Into.at ⟨(k + 1, (B.set m true, T ++ A)), by show k + 1 ≤ x.l.length; omega, by show k + 1 ≤ 12; omega, by show (B.set m true).length = 60; rw [List.length_set]; exact hB, by show (T ++ A).length ≤ 4 + 2 * (k + 1); rw [List.length_append]; omega⟩ (by show 12 - (k + 1) < 12 - k; omega) ⟨[.tok st2 1], by simp⟩ (by simp [WL, leG_self, leG_any, leG_none, leG_int, ints])
                  · obtain ⟨d4, d5⟩ := hexit k hkl hk hk'
                    simp +contextual -implicitDefEqProofs (maxSteps := 2000000) (disch := omega) only [drawC, drawK, keepT, ↓lenV, binV, optV, ↓loadV, ↓storeV, ↓fieldAddrV, ↓indexAddrV, ↓allocV, ↓boxV, ↓buildV, ↓buildSliceV, ↓sliceV, ↓appendV, ↓srcV, ↓minV, bound, cutTag, hiTag, fillG, fillE, place, GVal.cells, GVal.ofConst, ↓resV, resG, ↓reduceIte, reduceEqDiff, reduceAdd, reduceSub, reduceLeDiff, reduceCtorEq, ↓asrcV, aggV, Tag.cap, GVal.solid, Nat.reduceBEq, reduceMul, reduceLT, vcA, ↓vcB, vcC, fbFy, e9, dropZ, List.append_nil, drop32y, hsG_len, csG_len, rawsG_len, ints_len, all_hsG, all_csG, all_ints, if32, one32, set33, k10, k20, k21, setO_6, setO_7, d4, d5, vcD, vnT, v33, v32]
                    refine vcSLoop_by (ι := { p : (List Cm × Nat) × (List Bool × List Int) // p.2.1.length = 60 ∧ p.1.1.length + p.2.1.count false ≤ 72 ∧ (∀ c ∈ p.1.1, c.2.length ≤ 8) ∧ p.2.2.length + 2 * p.2.1.count false ≤ 200 }) (fun p => ⟨[.any, .ref (rrG x), .ptr 0 s2 0 0, .ptr 1 s3 0 0] ++ List.replicate 8 .any ++ [.ptr 4 sb 0 0, .slice (ints p.1.2.2) .none] ++ List.replicate 233 .any, [.row s2 3 [rqZ], .row s3 3 [[.slice (csG p.1.1.1) (.tok 2 p.1.1.2), .slice (hsG hs) (.tok 3 sh), .int .i64 gr]], .tok p.1.1.2 33, .tok sh 32, .row sb 60 [bls p.1.2.1]]⟩) (fun p => 3 * p.1.2.1.count false + p.1.2.2.length) ?_ ?_
                    · have hcB : B.count false ≤ 60 := by have := List.count_le_length (a := false) (l := B); omega
                      exact Into.first ⟨((cs, sc), (B, T)), hB, by show cs.length + B.count false ≤ 72; omega, hcp, by show T.length + 2 * B.count false ≤ 200; omega⟩ ⟨[], by simp⟩ (by simp [WL, leG_self, leG_any])
                    · clear hk' hT hB d4 d5 hkl hk h12 hcp hcl
                      rintro ⟨⟨⟨cs, sc⟩, ⟨B, T⟩⟩, hB, hcl, hcp, hT⟩
                      have hB : B.length = 60 := hB
                      change cs.length + B.count false ≤ 72 at hcl
                      have hcp : ∀ c ∈ cs, c.2.length ≤ 8 := hcp
                      change T.length + 2 * B.count false ≤ 200 at hT
                      match T, hT with
                      | [], hT =>
                        simp +contextual -implicitDefEqProofs (maxSteps := 2000000) (disch := omega) only [drawC, drawK, keepT, ↓lenV, binV, optV, ↓loadV, ↓storeV, ↓fieldAddrV, ↓indexAddrV, ↓allocV, ↓boxV, ↓buildV, ↓buildSliceV, ↓sliceV, ↓appendV, ↓srcV, ↓minV, bound, cutTag, hiTag, fillG, fillE, place, GVal.cells, GVal.ofConst, ↓resV, resG, ↓reduceIte, reduceEqDiff, reduceAdd, reduceSub, reduceLeDiff, reduceCtorEq, ↓asrcV, aggV, Tag.cap, GVal.solid, Nat.reduceBEq, reduceMul, reduceLT, vcA, ↓vcB, vcC, fbFy, e9, dropZ, List.append_nil, drop32y, hsG_len, csG_len, rawsG_len, ints_len, all_hsG, all_csG, all_ints, if32, one32, set33, k10, k20, k21, setO_6, setO_7, List.length_nil, Int.natCast_zero, Int.lt_irrefl, vcD, vnT, v33, v32]
                        refine cV.then ?_ (by rfl)
                        by_cases v0 : w = 0
                        · subst v0
                          simp +contextual -implicitDefEqProofs (maxSteps := 2000000) (disch := omega) only [drawC, drawK, keepT, ↓lenV, binV, optV, ↓loadV, ↓storeV, ↓fieldAddrV, ↓indexAddrV, ↓allocV, ↓boxV, ↓buildV, ↓buildSliceV, ↓sliceV, ↓appendV, ↓srcV, ↓minV, bound, cutTag, hiTag, fillG, fillE, place, GVal.cells, GVal.ofConst, ↓resV, resG, ↓reduceIte, reduceEqDiff, reduceAdd, reduceSub, reduceLeDiff, reduceCtorEq, ↓asrcV, aggV, Tag.cap, GVal.solid, Nat.reduceBEq, reduceMul, reduceLT, vcA, ↓vcB, vcC, fbFy, e9, dropZ, List.append_nil, drop32y, hsG_len, csG_len, rawsG_len, ints_len, all_hsG, all_csG, all_ints, if32, one32, set33, k10, k20, k21, setO_6, setO_7, vcD, vnT, v33, v32]
                          exact ⟨.agg (reqG cs hs .none x.g), [], _, rfl, fin_le _ _ _ _ _, cs, hs, x.g, ⟨by omega, hcp, by omega⟩, rfl, rfl⟩
                        · by_cases v1 : w = 1
                          · subst v1
                            simp +contextual -implicitDefEqProofs (maxSteps := 2000000) (disch := omega) only [drawC, drawK, keepT, ↓lenV, binV, optV, ↓loadV, ↓storeV, ↓fieldAddrV, ↓indexAddrV, ↓allocV, ↓boxV, ↓buildV, ↓buildSliceV, ↓sliceV, ↓appendV, ↓srcV, ↓minV, bound, cutTag, hiTag, fillG, fillE, place, GVal.cells, GVal.ofConst, ↓resV, resG, ↓reduceIte, reduceEqDiff, reduceAdd, reduceSub, reduceLeDiff, reduceCtorEq, ↓asrcV, aggV, Tag.cap, GVal.solid, Nat.reduceBEq, reduceMul, reduceLT, vcA, ↓vcB, vcC, fbFy, e9, dropZ, List.append_nil, drop32y, hsG_len, csG_len, rawsG_len, ints_len, all_hsG, all_csG, all_ints, if32, one32, set33, k10, k20, k21, setO_6, setO_7, nineH, vcD, vnT, v33, v32]
                            refine ⟨by omega, by omega, fun st => ?_⟩
                            exact ⟨.agg (reqG cs (hs ++ [hq 9 0 0]) .none gr), [], _, rfl, by rw [nine_snoc]; exact fin_le _ _ _ _ _, cs, hs ++ [hq 9 0 0], gr, ⟨by omega, hcp, by rw [List.length_append, List.length_singleton]; omega⟩, rfl, rfl⟩
                          · have e0 : (w = 0) = False := eq_false v0
                            have e1 : (w = 1) = False := eq_false v1
                            simp +contextual -implicitDefEqProofs (maxSteps := 2000000) (disch := omega) only [drawC, drawK, keepT, ↓lenV, binV, optV, ↓loadV, ↓storeV, ↓fieldAddrV, ↓indexAddrV, ↓allocV, ↓boxV, ↓buildV, ↓buildSliceV, ↓sliceV, ↓appendV, ↓srcV, ↓minV, bound, cutTag, hiTag, fillG, fillE, place, GVal.cells, GVal.ofConst, ↓resV, resG, ↓reduceIte, reduceEqDiff, reduceAdd, reduceSub, reduceLeDiff, reduceCtorEq, ↓asrcV, aggV, Tag.cap, GVal.solid, Nat.reduceBEq, reduceMul, reduceLT, vcA, ↓vcB, vcC, fbFy, e9, dropZ, List.append_nil, drop32y, hsG_len, csG_len, rawsG_len, ints_len, all_hsG, all_csG, all_ints, if32, one32, set33, k10, k20, k21, setO_6, setO_7, e0, e1, vcD, vnT, v33, v32]
                            exact ⟨.agg (reqG cs hs .none gr), [], _, rfl, fin_le _ _ _ _ _, cs, hs, gr, ⟨by omega, hcp, by omega⟩, rfl, rfl⟩

                      | a :: T', hT =>
                        have hT' : T'.length + 1 + 2 * B.count false ≤ 200 := by simpa using hT
                        have dT : ((0 : Int) < (T'.length : Int) + 1) = True := eq_true (by omega)
                        have n1 := Int.emod_nonneg a (by decide : (60 : Int) ≠ 0)
                        have n2 := Int.emod_lt_of_pos a (by decide : (0 : Int) < 60)
                        have cN := sPick a 60 (by omega) (by omega)
                        obtain ⟨n, hn⟩ : ∃ n, a % 60 = n := ⟨_, rfl⟩
                        rw [hn] at cN n1 n2
                        have cA := gAhead n n1 n2
                        have lA := aheadL_len n
                        obtain ⟨A, hA⟩ : ∃ A, aheadL n = A := ⟨_, rfl⟩
                        rw [hA] at cA lA
                        obtain ⟨h, hh⟩ : ∃ h, hashF n = h := ⟨_, rfl⟩
                        have cHn := hHashF n
                        rw [hh] at cHn
                        obtain ⟨m, hm⟩ : ∃ m, n.toNat = m := ⟨_, rfl⟩
                        have hm60 : m < 60 := by omega
                        have eB := bls_put B m (by omega)
                        have eG := bls_at B m (by omega)
                        have eT0 : (ints (a :: T')).getD 0 [] = [.int .i64 a] := rfl
                        have eT1 : (ints (a :: T')).drop 1 = ints T' := rfl
                        have tn1 : (Int.toNat 1) = 1 := rfl
                        have eTt : List.take ((T'.length : Int) + 1).toNat (ints (a :: T')) = ints (a :: T') := List.take_of_length_le (by rw [ints_len]; simp)
                        simp +contextual -implicitDefEqProofs (maxSteps := 2000000) (disch := omega) only [drawC, drawK, keepT, ↓lenV, binV, optV, ↓loadV, ↓storeV, ↓fieldAddrV, ↓indexAddrV, ↓allocV, ↓boxV, ↓buildV, ↓buildSliceV, ↓sliceV, ↓appendV, ↓srcV, ↓minV, bound, cutTag, hiTag, fillG, fillE, place, GVal.cells, GVal.ofConst, ↓resV, resG, ↓reduceIte, reduceEqDiff, reduceAdd, reduceSub, reduceLeDiff, reduceCtorEq, ↓asrcV, aggV, Tag.cap, GVal.solid, Nat.reduceBEq, reduceMul, reduceLT, vcA, ↓vcB, vcC, fbFy, e9, dropZ, List.append_nil, drop32y, hsG_len, csG_len, rawsG_len, ints_len, all_hsG, all_csG, all_ints, if32, one32, set33, k10, k20, k21, setO_6, setO_7, dT, eT0, toNat0, List.length_cons, vcD, vnT, v33, v32]
                        refine ⟨by omega, ?_⟩
                        refine cN.then ?_ (by rfl)
                        cases eb : B.getD m false with
                        | true =>
                          rw [eb] at eG
                          simp +contextual -implicitDefEqProofs (maxSteps := 2000000) (disch := omega) only [drawC, drawK, keepT, ↓lenV, binV, optV, ↓loadV, ↓storeV, ↓fieldAddrV, ↓indexAddrV, ↓allocV, ↓boxV, ↓buildV, ↓buildSliceV, ↓sliceV, ↓appendV, ↓srcV, ↓minV, bound, cutTag, hiTag, fillG, fillE, place, GVal.cells, GVal.ofConst, ↓resV, resG, ↓reduceIte, reduceEqDiff, reduceAdd, reduceSub, reduceLeDiff, reduceCtorEq, ↓asrcV, aggV, Tag.cap, GVal.solid, Nat.reduceBEq, reduceMul, reduceLT, vcA, ↓vcB, vcC, fbFy, e9, dropZ, List.append_nil, drop32y, hsG_len, csG_len, rawsG_len, ints_len, all_hsG, all_csG, all_ints, if32, one32, set33, k10, k20, k21, setO_6, setO_7, hm, eG, eTt, eT1, tn1, List.length_cons, vcD, vnT, v33, v32]
                          refine ⟨by omega, by omega, by omega, by omega, by omega, by rw [bls_len]; omega, ?_⟩
                          exact Into.at ⟨((cs, sc), (B, T')), hB, hcl, hcp, by show T'.length + 2 * B.count false ≤ 200; omega⟩ (by show 3 * B.count false + T'.length < 3 * B.count false + (T'.length + 1); omega) ⟨[], by simp⟩ (by simp [WL, leG_self, leG_any])
                        | false =>
                          rw [eb] at eG
                          have hcs := count_set B m (by omega) eb
                          simp +contextual -implicitDefEqProofs (maxSteps := 2000000) (disch := omega) only [drawC, drawK, keepT, ↓lenV, binV, optV, ↓loadV, ↓storeV, ↓fieldAddrV, ↓indexAddrV, ↓allocV, ↓boxV, ↓buildV, ↓buildSliceV, ↓sliceV, ↓appendV, ↓srcV, ↓minV, bound, cutTag, hiTag, fillG, fillE, place, GVal.cells, GVal.ofConst, ↓resV, resG, ↓reduceIte, reduceEqDiff, reduceAdd, reduceSub, reduceLeDiff, reduceCtorEq, ↓asrcV, aggV, Tag.cap, GVal.solid, Nat.reduceBEq, reduceMul, reduceLT, vcA, ↓vcB, vcC, fbFy, e9, dropZ, List.append_nil, drop32y, hsG_len, csG_len, rawsG_len, ints_len, all_hsG, all_csG, all_ints, if32, one32, set33, k10, k20, k21, setO_6, setO_7, hm, eG, eB, eTt, eT1, tn1, List.length_cons, vcD, vnT, v33, v32]
                          refine ⟨by omega, by omega, by omega, by omega, by omega, by rw [bls_len]; omega, by omega, by omega, by rw [bls_len]; omega, ?_⟩
                          obtain ⟨B', hB'⟩ : ∃ B', B.set m true = B' := ⟨_, rfl⟩
                          have hBl' : B'.length = 60 := by rw [← hB', List.length_set]; exact hB
                          rw [hB'] at hcs ⊢
                          refine cHn.then ?_ (by rfl)
                          simp +contextual -implicitDefEqProofs (maxSteps := 2000000) (disch := omega) only [drawC, drawK, keepT, ↓lenV, binV, optV, ↓loadV, ↓storeV, ↓fieldAddrV, ↓indexAddrV, ↓allocV, ↓boxV, ↓buildV, ↓buildSliceV, ↓sliceV, ↓appendV, ↓srcV, ↓minV, bound, cutTag, hiTag, fillG, fillE, place, GVal.cells, GVal.ofConst, ↓resV, resG, ↓reduceIte, reduceEqDiff, reduceAdd, reduceSub, reduceLeDiff, reduceCtorEq, ↓asrcV, aggV, Tag.cap, GVal.solid, Nat.reduceBEq, reduceMul, reduceLT, vcA, ↓vcB, vcC, fbFy, e9, dropZ, List.append_nil, drop32y, hsG_len, csG_len, rawsG_len, ints_len, all_hsG, all_csG, all_ints, if32, one32, set33, k10, k20, k21, setO_6, setO_7, vcD, vnT, v33, v32]
                          intro v
                          refine cA.then ?_ (by rfl)
                          simp +contextual -implicitDefEqProofs (maxSteps := 2000000) (disch := omega) only [drawC, drawK, keepT, ↓lenV, binV, optV, ↓loadV, ↓storeV, ↓fieldAddrV, ↓indexAddrV, ↓allocV, ↓boxV, ↓buildV, ↓buildSliceV, ↓sliceV, ↓appendV, ↓srcV, ↓minV, bound, cutTag, hiTag, fillG, fillE, place, GVal.cells, GVal.ofConst, ↓resV, resG, ↓reduceIte, reduceEqDiff, reduceAdd, reduceSub, reduceLeDiff, reduceCtorEq, ↓asrcV, aggV, Tag.cap, GVal.solid, Nat.reduceBEq, reduceMul, reduceLT, vcA, ↓vcB, vcC, fbFy, e9, dropZ, List.append_nil, drop32y, hsG_len, csG_len, rawsG_len, ints_len, all_hsG, all_csG, all_ints, if32, one32, set33, k10, k20, k21, setO_6, setO_7, vcD, vnT, v33, v32]
                          refine vcSLoop_by (ι := { p : (Nat × List Hs) × Nat // p.1.1 ≤ A.length ∧ p.1.2.length = p.1.1 }) (fun p => ⟨[.any, .ref (rrG x), .ptr 0 s2 0 0, .ptr 1 s3 0 0] ++ List.replicate 8 .any ++ [.ptr 4 sb 0 0, .slice (ints T') .none, .any, .int .i64 n, .ptr 5 v 0 0, .slice (ints A) .none, .int .i64 (p.1.1.1 : Nat)] ++ List.replicate 228 .any, [.row s2 3 [rqZ], .row s3 3 [[.slice (csG cs) (.tok 2 sc), .slice (hsG hs) (.tok 3 sh), .int .i64 gr]], .tok sc 33, .tok sh 32, .row sb 60 [bls B'], .row v 33 [bytesG h.1 ++ [.slice (hsG p.1.1.2) (.tok 6 p.1.2)]], .tok p.1.2 32]⟩) (fun p => A.length - p.1.1.1) ?_ ?_
                          · refine Into.cellTok 5 32 32 [] (tg := .nil) rfl (at33 h _) rfl (len33 h _) ?_
                            simp +contextual -implicitDefEqProofs (maxSteps := 2000000) (disch := omega) only [drawC, drawK, keepT, ↓lenV, binV, optV, ↓loadV, ↓storeV, ↓fieldAddrV, ↓indexAddrV, ↓allocV, ↓boxV, ↓buildV, ↓buildSliceV, ↓sliceV, ↓appendV, ↓srcV, ↓minV, bound, cutTag, hiTag, fillG, fillE, place, GVal.cells, GVal.ofConst, ↓resV, resG, ↓reduceIte, reduceEqDiff, reduceAdd, reduceSub, reduceLeDiff, reduceCtorEq, ↓asrcV, aggV, Tag.cap, GVal.solid, Nat.reduceBEq, reduceMul, reduceLT, vcA, ↓vcB, vcC, fbFy, e9, vcD]
                            intro sp
                            exact Into.first ⟨((0, []), sp), Nat.zero_le _, rfl⟩ ⟨[], by simp [set33, hsG]⟩ (by simp [WL, leG_self, leG_any])
                          · rintro ⟨⟨⟨j, ps⟩, sp⟩, hj, hpl⟩
                            change j ≤ A.length at hj
                            change ps.length = j at hpl
                            by_cases h' : j < A.length
                            · have d2 : ((j : Int) < (A.length : Int)) = True := eq_true (by omega)
                              have eA := ints_at A j h'
                              generalize A.getD j 0 = a at *
                              have cHa := hHashF a
                              obtain ⟨y, hy⟩ : ∃ y, hashF a = y := ⟨_, rfl⟩
                              rw [hy] at cHa
                              simp +contextual -implicitDefEqProofs (maxSteps := 2000000) (disch := omega) only [drawC, drawK, keepT, ↓lenV, binV, optV, ↓loadV, ↓storeV, ↓fieldAddrV, ↓indexAddrV, ↓allocV, ↓boxV, ↓buildV, ↓buildSliceV, ↓sliceV, ↓appendV, ↓srcV, ↓minV, bound, cutTag, hiTag, fillG, fillE, place, GVal.cells, GVal.ofConst, ↓resV, resG, ↓reduceIte, reduceEqDiff, reduceAdd, reduceSub, reduceLeDiff, reduceCtorEq, ↓asrcV, aggV, Tag.cap, GVal.solid, Nat.reduceBEq, reduceMul, reduceLT, vcA, ↓vcB, vcC, fbFy, e9, dropZ, List.append_nil, drop32y, hsG_len, csG_len, rawsG_len, ints_len, all_hsG, all_csG, all_ints, if32, one32, set33, k10, k20, k21, setO_6, setO_7, d2, eA, vcD, vnT, v33, v32]
                              refine ⟨by omega, ?_⟩
                              refine cHa.then ?_ (by rfl)
                              simp +contextual -implicitDefEqProofs (maxSteps := 2000000) (disch := omega) only [drawC, drawK, keepT, ↓lenV, binV, optV, ↓loadV, ↓storeV, ↓fieldAddrV, ↓indexAddrV, ↓allocV, ↓boxV, ↓buildV, ↓buildSliceV, ↓sliceV, ↓appendV, ↓srcV, ↓minV, bound, cutTag, hiTag, fillG, fillE, place, GVal.cells, GVal.ofConst, ↓resV, resG, ↓reduceIte, reduceEqDiff, reduceAdd, reduceSub, reduceLeDiff, reduceCtorEq, ↓asrcV, aggV, Tag.cap, GVal.solid, Nat.reduceBEq, reduceMul, reduceLT, vcA, ↓vcB, vcC, fbFy, e9, dropZ, List.append_nil, drop32y, hsG_len, csG_len, rawsG_len, ints_len, all_hsG, all_csG, all_ints, if32, one32, set33, k10, k20, k21, setO_6, setO_7, vcD, vnT, v33, v32]
                              refine ⟨⟨[], by simp⟩, by omega, by omega, fun sp' => ?_⟩
                              exact Into.at ⟨((j + 1, ps ++ [y]), sp'), by show j + 1 ≤ A.length; omega, by show (ps ++ [y]).length = j + 1; rw [List.length_append, List.length_singleton, hpl]⟩ (by show A.length - (j + 1) < A.length - j; omega) ⟨[], by simp [hsG_app, hsG]⟩ (by simp [WL, leG_self, leG_any, leG_int])
                            · have d2 : ((j : Int) < (A.length : Int)) = False := eq_false (by omega)
                              simp +contextual -implicitDefEqProofs (maxSteps := 2000000) (disch := omega) only [drawC, drawK, keepT, ↓lenV, binV, optV, ↓loadV, ↓storeV, ↓fieldAddrV, ↓indexAddrV, ↓allocV, ↓boxV, ↓buildV, ↓buildSliceV, ↓sliceV, ↓appendV, ↓srcV, ↓minV, bound, cutTag, hiTag, fillG, fillE, place, GVal.cells, GVal.ofConst, ↓resV, resG, ↓reduceIte, reduceEqDiff, reduceAdd, reduceSub, reduceLeDiff, reduceCtorEq, ↓asrcV, aggV, Tag.cap, GVal.solid, Nat.reduceBEq, reduceMul, reduceLT, vcA, ↓vcB, vcC, fbFy, e9, dropZ, List.append_nil, drop32y, hsG_len, csG_len, rawsG_len, ints_len, all_hsG, all_csG, all_ints, if32, one32, set33, k10, k20, k21, setO_6, setO_7, d2, vcD, vnT, v33, v32]
                              refine ⟨by omega, by omega, fun st => ⟨by omega, by omega, fun st2 => ⟨by omega, by omega, fun st3 => ?_⟩⟩⟩
                              refine Into.rowLe (t := s3) (sz := 3) 1 [[.slice (csG cs ++ [bytesG h.1 ++ [.slice (hsG ps) (.tok 6 sp)]]) (.tok 2 st), .slice (hsG hs) (.tok 3 sh), .int .i64 gr]] [[.slice (csG (cs ++ [(h, ps)])) (.tok 2 st), .slice (hsG hs) (.tok 3 sh), .int .i64 gr]] (by simp) ⟨⟨GLe.slice (by rw [csG_app]; exact GLess.app (GLess.refl _) ⟨GLes_com _ _ _, trivial⟩), GLe.refl _, GLe.refl _, trivial⟩, trivial⟩ ?_
                              refine Into.at ⟨((cs ++ [(h, ps)], st), (B', T' ++ A)), hBl', by show (cs ++ [(h, ps)]).length + B'.count false ≤ 72; rw [List.length_append, List.length_singleton]; omega, fun c hc => ?_, by show (T' ++ A).length + 2 * B'.count false ≤ 200; rw [List.length_append]; omega⟩ (by show 3 * B'.count false + (T' ++ A).length < 3 * B.count false + (T'.length + 1); rw [List.length_append]; omega) ⟨[.row v 33 [bytesG h.1 ++ [.slice (hsG ps) (.tok 6 sp)]], .tok sp 32, .tok st3 1], by simp⟩ (by simp [WL, leG_self, leG_any, leG_none, ints])
                              rcases List.mem_append.1 hc with q | q
                              · exact hcp c q
                              · rw [List.mem_singleton.1 q]; show ps.length ≤ 8; omega
              · have dq : ((0 : Int) < q) = False := eq_false hq0
                simp +contextual -implicitDefEqProofs (maxSteps := 2000000) (disch := omega) only [drawC, drawK, keepT, ↓lenV, binV, optV, ↓loadV, ↓storeV, ↓fieldAddrV, ↓indexAddrV, ↓allocV, ↓boxV, ↓buildV, ↓buildSliceV, ↓sliceV, ↓appendV, ↓srcV, ↓minV, bound, cutTag, hiTag, fillG, fillE, place, GVal.cells, GVal.ofConst, ↓resV, resG, ↓reduceIte, reduceEqDiff, reduceAdd, reduceSub, reduceLeDiff, reduceCtorEq, ↓asrcV, aggV, Tag.cap, GVal.solid, Nat.reduceBEq, reduceMul, reduceLT, vcA, ↓vcB, vcC, fbFy, e9, dropZ, List.append_nil, drop32y, hsG_len, csG_len, rawsG_len, ints_len, all_hsG, all_csG, all_ints, if32, one32, set33, k10, k20, k21, setO_6, setO_7, dq, vcD, vnT, v33, v32]
                refine cV.then ?_ (by rfl)
                by_cases v0 : w = 0
                · subst v0
                  simp +contextual -implicitDefEqProofs (maxSteps := 2000000) (disch := omega) only [drawC, drawK, keepT, ↓lenV, binV, optV, ↓loadV, ↓storeV, ↓fieldAddrV, ↓indexAddrV, ↓allocV, ↓boxV, ↓buildV, ↓buildSliceV, ↓sliceV, ↓appendV, ↓srcV, ↓minV, bound, cutTag, hiTag, fillG, fillE, place, GVal.cells, GVal.ofConst, ↓resV, resG, ↓reduceIte, reduceEqDiff, reduceAdd, reduceSub, reduceLeDiff, reduceCtorEq, ↓asrcV, aggV, Tag.cap, GVal.solid, Nat.reduceBEq, reduceMul, reduceLT, vcA, ↓vcB, vcC, fbFy, e9, dropZ, List.append_nil, drop32y, hsG_len, csG_len, rawsG_len, ints_len, all_hsG, all_csG, all_ints, if32, one32, set33, k10, k20, k21, setO_6, setO_7, vcD, vnT, v33, v32]
                  exact ⟨.agg (reqG cs hs .none x.g), [], _, rfl, fin_le _ _ _ _ _, cs, hs, x.g, ⟨by omega, hcp, by omega⟩, rfl, rfl⟩
                · by_cases v1 : w = 1
                  · subst v1
                    simp +contextual -implicitDefEqProofs (maxSteps := 2000000) (disch := omega) only [drawC, drawK, keepT, ↓lenV, binV, optV, ↓loadV, ↓storeV, ↓fieldAddrV, ↓indexAddrV, ↓allocV, ↓boxV, ↓buildV, ↓buildSliceV, ↓sliceV, ↓appendV, ↓srcV, ↓minV, bound, cutTag, hiTag, fillG, fillE, place, GVal.cells, GVal.ofConst, ↓resV, resG, ↓reduceIte, reduceEqDiff, reduceAdd, reduceSub, reduceLeDiff, reduceCtorEq, ↓asrcV, aggV, Tag.cap, GVal.solid, Nat.reduceBEq, reduceMul, reduceLT, vcA, ↓vcB, vcC, fbFy, e9, dropZ, List.append_nil, drop32y, hsG_len, csG_len, rawsG_len, ints_len, all_hsG, all_csG, all_ints, if32, one32, set33, k10, k20, k21, setO_6, setO_7, nineH, vcD, vnT, v33, v32]
                    refine ⟨by omega, by omega, fun st => ?_⟩
                    exact ⟨.agg (reqG cs (hs ++ [hq 9 0 0]) .none gr), [], _, rfl, by rw [nine_snoc]; exact fin_le _ _ _ _ _, cs, hs ++ [hq 9 0 0], gr, ⟨by omega, hcp, by rw [List.length_append, List.length_singleton]; omega⟩, rfl, rfl⟩
                  · have e0 : (w = 0) = False := eq_false v0
                    have e1 : (w = 1) = False := eq_false v1
                    simp +contextual -implicitDefEqProofs (maxSteps := 2000000) (disch := omega) only [drawC, drawK, keepT, ↓lenV, binV, optV, ↓loadV, ↓storeV, ↓fieldAddrV, ↓indexAddrV, ↓allocV, ↓boxV, ↓buildV, ↓buildSliceV, ↓sliceV, ↓appendV, ↓srcV, ↓minV, bound, cutTag, hiTag, fillG, fillE, place, GVal.cells, GVal.ofConst, ↓resV, resG, ↓reduceIte, reduceEqDiff, reduceAdd, reduceSub, reduceLeDiff, reduceCtorEq, ↓asrcV, aggV, Tag.cap, GVal.solid, Nat.reduceBEq, reduceMul, reduceLT, vcA, ↓vcB, vcC, fbFy, e9, dropZ, List.append_nil, drop32y, hsG_len, csG_len, rawsG_len, ints_len, all_hsG, all_csG, all_ints, if32, one32, set33, k10, k20, k21, setO_6, setO_7, e0, e1, vcD, vnT, v33, v32]
                    exact ⟨.agg (reqG cs hs .none gr), [], _, rfl, fin_le _ _ _ _ _, cs, hs, gr, ⟨by omega, hcp, by omega⟩, rfl, rfl⟩

end Gv.Tryz
/- A raw request among a caller's objects; a list of raw requests. -/
set_option linter.unusedVariables false
set_option linter.unusedSimpArgs false
set_option maxRecDepth 20000
set_option maxHeartbeats 8000000
namespace Gv.Tryz
open Go Gv Go.Proofs
theorem look_of_mem {α : Type} : ∀ {m : List (Hs × α)} {p : Hs × α}, (m.map (·.1)).Nodup → p ∈ m → look m p.1 = some p.2
  | q :: r, p, hn, hp => by
    rw [List.map_cons, List.nodup_cons] at hn
    rw [look]
    rcases List.mem_cons.1 hp with e | e
    · rw [e, if_pos rfl]
    · rw [if_neg (fun w => hn.1 (by rw [← w]; exact List.mem_map_of_mem e)), look_of_mem hn.2 e]
theorem GCalls.lift0 {P : Program} {f : FuncId} {args : List GVal} {R : GVal → Prop} (h : GCalls P f args [] (fun g O' => R g ∧ O' = [])) (O : List GObj) (hc : clockOf O = none) : GCalls P f args O (fun g O' => R g ∧ O' = O) := by
  refine GCalls.frame h [] trivial (by simp) (GLes.refl _) rfl hc ?_
  rintro g O' ⟨hr, rfl⟩
  refine ⟨g, O, (List.range O.length).map (fun k => (true, k)), ⟨hr, rfl⟩, GLe.refl g, Comes.of (by simp) fun k z s hz hs => ?_, ?_, hc⟩
  · have hk : k < O.length := (List.getElem?_eq_some_iff.1 hz).1
    simp only [List.getElem?_map, List.getElem?_range hk, Option.map_some, Option.some.injEq] at hs
    subst hs
    exact ⟨by simp, z, hz, .refl _⟩
  · rw [List.nodup_iff_pairwise_ne, List.pairwise_map]
    refine List.Pairwise.imp ?_ (List.pairwise_lt_range (n := O.length))
    intro a b hab
    simp; omega
def rrsG (l : List RR) : List (List GVal) := l.map rrG
instance : Inhabited RR := ⟨⟨[], [], 0, 0⟩⟩
theorem rrsG_len (l : List RR) : (rrsG l).length = l.length := by simp [rrsG]
theorem rrsG_at (l : List RR) (i : Nat) (h : i < l.length) : (rrsG l).getD i [] = rrG (l.getD i default) := by simp [rrsG, List.getD, h]
theorem gRequestO (x : RR) (O : List GObj) (hc : clockOf O = none) : GCalls Tryz.prog 9 [.agg (rrG x)] O (fun g O' => ∃ cs hs gr, ReqOK cs hs ∧ g = .agg (reqG cs hs .none gr) ∧ O' = O) := by
  refine (GCalls.lift0 (R := fun g => ∃ cs hs gr, ReqOK cs hs ∧ g = .agg (reqG cs hs .none gr)) ((gRequest x).mono ?_) O hc).mono ?_
  · rintro g O' ⟨cs, hs, gr, h1, h2, h3⟩
    exact ⟨⟨cs, hs, gr, h1, h2⟩, h3⟩
  · rintro g O' ⟨⟨cs, hs, gr, h1, h2⟩, h3⟩
    exact ⟨cs, hs, gr, h1, h2, h3⟩
end Gv.Tryz
/- IdsRise: the plain law of a round. -/
set_option linter.unusedVariables false
set_option linter.unusedSimpArgs false
set_option maxRecDepth 20000
set_option maxHeartbeats 4000000
namespace Gv.Tryz
open Go Gv Go.Proofs
theorem num_len {m : GM} {M O : List Hs} (h : NumOK m M O) (hk : (m.map (·.1)).Nodup) : (M ++ O).length = m.length := by
  have := same_len h.nd hk fun x => (h.all x).trans ⟨look_key, key_look⟩
  rw [List.length_map] at this
  exact this
theorem joined_len {gr : Int} {m m1 : GM} {cs : List Cm} {hs : List Hs} (hm : Good m) (hj : joinedP gr m cs hs = .ok m1) : m1.length ≤ m.length + cs.length := by
  obtain ⟨e1, e2, e3, e4, e5⟩ := joined_ok hj
  obtain ⟨k1, k2, k3, k4⟩ := join_spec e2 hm.keys
  have := nodup_lenH (m1.map (·.1)) (m.map (·.1) ++ cs.map (·.1)) k1 fun x hx => by
    obtain ⟨l, hl⟩ := Option.isSome_iff_exists.1 (key_look hx)
    rcases k4 x l hl with q | q
    · exact List.mem_append_left _ (look_key (by rw [q]; rfl))
    · exact List.mem_append_right _ (List.mem_map.2 ⟨_, q, rfl⟩)
  rw [List.length_map, List.length_append, List.length_map, List.length_map] at this
  exact this
theorem riseStep {m : GM} {M O ms : List Hs} {k : Nat} (hm : Good m) (hN : NumOK m M O) (hml : m.length ≤ 72 * k) (hk : k < 8) (hms : ∀ x, x ∈ M ↔ x ∈ ancL m ms) (hmt : ∀ x ∈ ms, (look m x).isSome = true) {gr : Int} {cs : List Cm} {hs : List Hs} {m1 : GM} (hcl : cs.length ≤ 72) (hj : joinedP gr m cs hs = .ok m1) :
    ∃ M1 O1 T2, ((gr ≠ 1 ∧ M1 = M ∧ O1 = O) ∨ (gr = 1 ∧ ∃ T1 : WSt, VisL m1 (masterB (ofM M O)) hs ([], []) T1 ∧ M1 = M ++ T1.2 ∧ O1 = woL O T1.2 ∧ (M.length : Int) + T1.2.length ≤ 600 ∧ T1.2.length ≤ 100000)) ∧
      VisL m1 (fun h => (look (ofM M1 O1) h).isSome) (hs ++ cs.map (·.1)) ([], []) T2 ∧ Good m1 ∧ NumOK m1 M1 (O1 ++ T2.2) ∧ m1.length ≤ 72 * (k + 1) ∧ M.length ≤ 1000 ∧ O.length ≤ 1000 ∧ M1.length ≤ 1000 ∧ O1.length + T2.2.length ≤ 1000 ∧
      (∀ x, x ∈ M1 ↔ x ∈ ancL m1 (if gr = 1 then ms ++ hs else ms)) ∧ ∀ x ∈ (if gr = 1 then ms ++ hs else ms), (look m1 x).isSome = true := by
  obtain ⟨e1, e2, e3, e4, e5⟩ := joined_ok hj
  obtain ⟨j1, j2, j3, j4⟩ := join_spec e2 hm.keys
  obtain ⟨_, lh⟩ := lack_none e3
  have hg1 := joined_good hm hj
  have hl1 := joined_len hm hj
  have hMO := num_len hN hm.keys
  rw [List.length_append] at hMO
  have hext : ∀ x l, look m x = some l → look m1 x = some l := j2
  have hcs : ∀ x, (look m1 x).isSome = true → (look m x).isSome = true ∨ x ∈ cs.map (·.1) := fun x hx => by
    obtain ⟨l, hl⟩ := Option.isSome_iff_exists.1 hx
    rcases j4 x l hl with q | q
    · exact .inl (by rw [q]; rfl)
    · exact .inr (List.mem_map.2 ⟨_, q, rfl⟩)
  have key : ∃ M1 O1, ((gr ≠ 1 ∧ M1 = M ∧ O1 = O) ∨ (gr = 1 ∧ ∃ T1 : WSt, VisL m1 (masterB (ofM M O)) hs ([], []) T1 ∧ M1 = M ++ T1.2 ∧ O1 = woL O T1.2)) := by
    by_cases hg : gr = 1
    · obtain ⟨T1, h1, _⟩ := visL_ex m1 (masterB (ofM M O)) (m1.length + 1) hs [] [] List.nodup_nil (by simp) (by simp)
      exact ⟨_, _, .inr ⟨hg, T1, h1, rfl, rfl⟩⟩
    · exact ⟨M, O, .inl ⟨hg, rfl, rfl⟩⟩
  obtain ⟨M1, O1, hcase⟩ := key
  obtain ⟨T2, hT2, _⟩ := visL_ex m1 (fun h => (look (ofM M1 O1) h).isSome) (m1.length + 1) (hs ++ cs.map (·.1)) [] [] List.nodup_nil (by simp) (by simp)
  obtain ⟨hN1, hM1⟩ := num_step hN hg1 hext hcs (by omega) hcase hT2
  have hMO1 := num_len hN1 hg1.keys
  rw [List.length_append, List.length_append] at hMO1
  refine ⟨M1, O1, T2, ?_, hT2, hg1, hN1, by omega, by omega, by omega, by omega, by omega, fun x => ?_, fun x hx => ?_⟩
  · rcases hcase with q | ⟨q, T1, h1, h2, h3⟩
    · exact .inl q
    · have : M1.length = M.length + T1.2.length := by rw [h2, List.length_append]
      exact .inr ⟨q, T1, h1, h2, h3, by omega, by omega⟩
  · rw [hM1, hms, ancL_mem, ancL_mem]
    by_cases hg : gr = 1
    · rw [if_pos hg, reach_app, reach_ext hm hext hmt]
      simp [hg]
    · rw [if_neg hg, reach_ext hm hext hmt]
      simp [hg]
  · have hold : ∀ x ∈ ms, (look m1 x).isSome = true := fun x hx => by
      obtain ⟨l, hl⟩ := Option.isSome_iff_exists.1 (hmt x hx)
      rw [hext x l hl]; rfl
    by_cases hg : gr = 1
    · rw [if_pos hg] at hx
      rcases List.mem_append.1 hx with q | q
      · exact hold x q
      · exact lh x q
    · rw [if_neg hg] at hx
      exact hold x hx
end Gv.Tryz
/- IdsStrips: plain laws. -/
set_option linter.unusedVariables false
set_option linter.unusedSimpArgs false
set_option maxRecDepth 20000
set_option maxHeartbeats 4000000
namespace Gv.Tryz
open Go Gv Go.Proofs
theorem kid_parI {m : GM} (hm : Good m) {x y : Hs} (h : y ∈ kidsM m x) : x ∈ parsM m y := by
  obtain ⟨q, h1, h2, rfl⟩ := kidsM_mem.1 h
  rw [parsM_some (look_of_mem hm.keys h1)]
  exact h2
theorem strip_free {m : GM} (hm : Good m) {M O : List Hs} (h : NumOK m M O) {hs : List Hs} (hh : ∀ x ∈ hs, x ∉ M) {x : Hs} (hx : x ∈ desL m hs) : x ∉ M := by
  have upM := ((UpL.app M O []).1 h.up).1
  rw [desL_mem] at hx
  induction hx with
  | base x hx => exact hh x (List.mem_filter.1 hx).1
  | step z y _ hy ih => exact fun q => ih (reach_pars upM q (kid_parI hm hy))
theorem strip_lists {m : GM} (hm : Good m) {M O : List Hs} (h : NumOK m M O) {hs : List Hs} (hh : ∀ x ∈ hs, x ∉ M) : ((M ++ O).filter fun x => !decide (x ∈ desL m hs)) = M ++ woL O (hs ++ desL m hs) := by
  rw [List.filter_append]
  congr 1
  · refine List.filter_eq_self.2 fun x hx => ?_
    have : x ∉ desL m hs := fun q => strip_free hm h hh q hx
    simp [this]
  · unfold woL
    refine List.filter_congr fun x hx => ?_
    have hth := (h.all x).1 (List.mem_append_right _ hx)
    have : x ∈ hs → x ∈ desL m hs := fun q => (desL_mem m hs x).2 (.base x (List.mem_filter.2 ⟨q, hth⟩))
    by_cases a : x ∈ desL m hs
    · simp [a]
    · have b : x ∉ hs := fun q => a (this q)
      simp [a, b]
theorem first_of {p : Hs → Bool} : ∀ {L : List Hs}, (∃ x ∈ L, p x = true) → ∃ A h B, L = A ++ h :: B ∧ (∀ x ∈ A, p x = false) ∧ p h = true
  | [], ⟨x, hx, _⟩ => by cases hx
  | y :: r, h => by
    cases hp : p y with
    | true => exact ⟨[], y, r, rfl, by simp, hp⟩
    | false =>
      obtain ⟨A, z, B, e, h1, h2⟩ := first_of (L := r) (by
        obtain ⟨x, hx, hq⟩ := h
        rcases List.mem_cons.1 hx with q | q
        · rw [q, hp] at hq; cases hq
        · exact ⟨x, q, hq⟩)
      exact ⟨y :: A, z, B, by rw [e]; rfl, fun x hx => by
        rcases List.mem_cons.1 hx with q | q
        · rw [q]; exact hp
        · exact h1 x q, h2⟩
theorem des_lenI {m : GM} (hm : Good m) (l : List Hs) : (desL m l).length ≤ m.length := by
  have := nodup_lenH (desL m l) (m.map (·.1)) (ss_nodup (desL_ss m l)) fun x hx => by
    refine look_key ?_
    cases (desL_mem m l x).1 hx with
    | base x hx => exact (List.mem_filter.1 hx).2
    | step z x _ hx =>
      obtain ⟨q, h1, _, rfl⟩ := kidsM_mem.1 hx
      exact key_look (List.mem_map_of_mem h1)
  rw [List.length_map] at this
  exact this
theorem id_tells {m : GM} {M O : List Hs} (h : NumOK m M O) (hM : M.length ≤ 1000) (x : Hs) : ∃ (a : Int) (b : Bool), idV (ofM M O) x = .tuple [.int .i64 a, .bool b] ∧ ((b = true ∧ decide (a < 1099511627776) = decide (x ∈ M)) ∨ (b = false ∧ decide (x ∈ M) = false)) := by
  obtain ⟨_, _, hMO⟩ := List.nodup_append.1 h.nd
  by_cases q : x ∈ M
  · obtain ⟨j, hj⟩ := List.getElem?_of_mem q
    have hjl := (List.getElem?_eq_some_iff.1 hj).1
    exact ⟨j, true, by unfold idV; rw [id_m h.nd hj]; rfl, .inl ⟨rfl, by rw [decide_eq_true q]; exact decide_eq_true (by omega)⟩⟩
  · by_cases r : x ∈ O
    · obtain ⟨j, hj⟩ := List.getElem?_of_mem r
      exact ⟨1099511627776 + (j : Int), true, by unfold idV; rw [id_o h.nd hj]; rfl, .inl ⟨rfl, by rw [decide_eq_false q]; exact decide_eq_false (by omega)⟩⟩
    · exact ⟨0, false, by unfold idV; rw [id_no (by simp [q, r])]; rfl, .inr ⟨rfl, decide_eq_false q⟩⟩
end Gv.Tryz
/- errors.As at a target of kind *api.Errno: Go's own text walked (after the worked example toyas). -/
namespace Gv.Tryz
open Go Go.Proofs Go.RowKit Go.Extern.Stop Go.Stop Go.Extern

/-! ### CLOSED FACTS ON THE MODEL's ENTRIES FOR internal/reflectlite, at this program's types: 25: *p.E · 27: **p.E · 23: error · 45: reflectlite's rtype · 1: how many package-level variables the dump has -/
theorem AsD.valueOf27 (t : Addr) (w : World) : (ReflectliteValue.unpack (.iface 112 (.pointer (some t)))).run Tryz.prog w
    = .ok (.agg #[.pointer (some ⟨2, 112, none⟩), .pointer (some ⟨w.heap.size, 0, none⟩), .int .u64 150]) (w.alloc (.cells #[.pointer (some t)] 112)) := by kernel_rfl
theorem AsD.type27 (a : Addr) (w : World) : (ReflectliteValue.methodAny (ReflectliteValue.valueError "reflectlite.Value.Type" 0) (fun t _ _ _ => ReflectliteType.toType t) #[.agg #[.pointer (some ⟨2, 112, none⟩), .pointer (some a), .int .u64 150]]).run Tryz.prog w
    = .ok (.iface 176 (.agg #[.pointer (some ⟨2, 112, none⟩)])) w := by kernel_rfl
theorem AsD.methodKind (h : Value) (w : World) : (Go.method 353 176 (.agg #[h]) "Kind").run Tryz.prog w = .ok (163, h) w := by kernel_rfl
theorem AsD.kind27 (w : World) : ((ReflectliteType.abiMethod fun t => (fun a : Nat => Value.int IntKind.u8 (a : Int)) <$> Rtype.kind t) #[.pointer (some ⟨2, 112, none⟩)]).run Tryz.prog w = .ok (.int .u8 22) w := by kernel_rfl
theorem AsD.kind25 (w : World) : ((ReflectliteType.abiMethod fun t => (fun a : Nat => Value.int IntKind.u8 (a : Int)) <$> Rtype.kind t) #[.pointer (some ⟨2, 52, none⟩)]).run Tryz.prog w = .ok (.int .u8 2) w := by kernel_rfl

/-! ### THE ENTRIES THAT READ OR WRITE MEMORY: laws with a premise on the cell (after Derived/Lib/ReflectliteSlice.lean's manner: each unfolding a lemma of its own, by rfl) -/
theorem rlm (z : Sem Value) (f : TypeId → Addr → Nat → Nat → Sem Value) (v : Value) :
    ReflectliteValue.method z f #[v] = (do match ← ReflectliteValue.parts v with | none => z | some (t, a, fl) => f t a fl (fl % 32)) := rfl
theorem AsD.parts27 (a : Addr) (w : World) : (ReflectliteValue.parts (.agg #[.pointer (some ⟨2, 112, none⟩), .pointer (some a), .int .u64 150])).run Tryz.prog w = .ok (some (112, a, 150)) w := by kernel_rfl
theorem AsD.isNil27 (a p : Addr) (W : World) (ha : W.cell? a = some (.pointer (some p))) :
    (ReflectliteValue.method (ReflectliteValue.valueError "reflectlite.Value.IsNil" 0) ReflectliteValue.isNil #[.agg #[.pointer (some ⟨2, 112, none⟩), .pointer (some a), .int .u64 150]]).run Tryz.prog W = .ok (.bool false) W := by
  rw [rlm]
  simp only [Sem.run_bind, AsD.parts27, Result.andThen]
  simp [ReflectliteValue.isNil, loadVar, isAgg, underlying, Tryz.underlying112, ha, Result.andThen]

theorem AsD.methodElem (h : Value) (w : World) : (Go.method 353 176 (.agg #[h]) "Elem").run Tryz.prog w = .ok (176, .agg #[h]) w := by kernel_rfl
theorem AsD.methodImplements (h : Value) (w : World) : (Go.method 353 176 (.agg #[h]) "Implements").run Tryz.prog w = .ok (177, .agg #[h]) w := by kernel_rfl
theorem AsD.methodAssignableTo (h : Value) (w : World) : (Go.method 353 176 (.agg #[h]) "AssignableTo").run Tryz.prog w = .ok (174, .agg #[h]) w := by kernel_rfl
theorem AsD.elem27 (w : World) : (ReflectliteType.method ReflectliteType.elem #[.agg #[.pointer (some ⟨2, 112, none⟩)]]).run Tryz.prog w = .ok (.iface 176 (.agg #[.pointer (some ⟨2, 52, none⟩)])) w := by kernel_rfl
theorem AsD.implements25 (w : World) : (ReflectliteType.relation "Implements" ReflectliteType.implements_ #[.agg #[.pointer (some ⟨2, 52, none⟩)], .iface 176 (.agg #[.pointer (some ⟨2, 28, none⟩)])]).run Tryz.prog w = .ok (.bool true) w := by kernel_rfl
theorem AsD.typeOf25 (v : Value) (w : World) : (ReflectliteType.typeOf #[.iface 52 v]).run Tryz.prog w = .ok (.iface 176 (.agg #[.pointer (some ⟨2, 52, none⟩)])) w := by kernel_rfl
theorem AsD.assignable25 (w : World) : (ReflectliteType.relation "AssignableTo" ReflectliteType.assignableTo #[.agg #[.pointer (some ⟨2, 52, none⟩)], .iface 176 (.agg #[.pointer (some ⟨2, 52, none⟩)])]).run Tryz.prog w = .ok (.bool true) w := by kernel_rfl
theorem AsD.valueOf25 (e : Int) (w : World) : (ReflectliteValue.unpack (.iface 52 (.int .i64 e))).run Tryz.prog w
    = .ok (.agg #[.pointer (some ⟨2, 52, none⟩), .pointer (some ⟨w.heap.size, 0, none⟩), .int .u64 130]) (w.alloc (.cells #[.int .i64 e] 52)) := by kernel_rfl

theorem AsD.elemOf27 (w : World) : (Rtype.elem? 112).run Tryz.prog w = .ok (some 52) w := by kernel_rfl
theorem AsD.mk25 (p : Addr) (w : World) : (ReflectliteValue.mk 52 p ReflectliteValue.flagAddr).run Tryz.prog w = .ok (.agg #[.pointer (some ⟨2, 52, none⟩), .pointer (some p), .int .u64 386]) w := by kernel_rfl
theorem AsD.elemV27 (a p : Addr) (W : World) (ha : W.cell? a = some (.pointer (some p))) :
    (ReflectliteValue.method (ReflectliteValue.valueError "reflectlite.Value.Elem" 0) ReflectliteValue.elem #[.agg #[.pointer (some ⟨2, 112, none⟩), .pointer (some a), .int .u64 150]]).run Tryz.prog W
      = .ok (.agg #[.pointer (some ⟨2, 52, none⟩), .pointer (some p), .int .u64 386]) W := by
  rw [rlm]
  simp only [Sem.run_bind, AsD.parts27, Result.andThen]
  simp [ReflectliteValue.elem, loadVar, isAgg, underlying, Tryz.underlying112, ha, Result.andThen, AsD.elemOf27, AsD.mk25]
theorem rls (v x : Value) : ReflectliteValue.set #[v, x] = (do
    let (some (dst, a, fl), some (src, b, _)) := (← ReflectliteValue.parts v, ← ReflectliteValue.parts x)
      | unsupported (.noEntry "extern/(internal/reflectlite.Value).Set.zeroValue")
    if fl / ReflectliteValue.flagAddr % 2 == 0 then unsupported (.noEntry "extern/(internal/reflectlite.Value).Set.unaddressable")
    let val ← loadVar src b
    if ← Rtype.directlyAssignable dst src then storeVar dst a val
    else if ← Rtype.implements dst src then
      if (← Rtype.kind src) == 20 then
        match val with
        | .nilIface => unsupported (.noEntry "extern/reflectlite: a nil value of one interface type handed on as a value of another")
        | _ => storeVar dst a val
      else storeVar dst a (.iface src val)
    else panicString ("reflectlite.Set: value of type " ++ (← Rtype.spelt src) ++ " is not assignable to type " ++ (← Rtype.spelt dst))
    pure (.tuple #[])) := rfl
theorem AsD.parts25a (a : Addr) (w : World) : (ReflectliteValue.parts (.agg #[.pointer (some ⟨2, 52, none⟩), .pointer (some a), .int .u64 386])).run Tryz.prog w = .ok (some (52, a, 386)) w := by kernel_rfl
theorem AsD.parts25 (a : Addr) (w : World) : (ReflectliteValue.parts (.agg #[.pointer (some ⟨2, 52, none⟩), .pointer (some a), .int .u64 130])).run Tryz.prog w = .ok (some (52, a, 130)) w := by kernel_rfl
theorem AsD.direct25 (w : World) : (Rtype.directlyAssignable 52 52).run Tryz.prog w = .ok true w := by kernel_rfl
theorem AsD.set25 (ta b : Addr) (e : Int) (old : Value) (W : World) (hb : W.cell? b = some (.int .i64 e)) (ht : W.cell? ta = some old) (hf : W.frozen? ta = false) :
    (ReflectliteValue.set #[.agg #[.pointer (some ⟨2, 52, none⟩), .pointer (some ta), .int .u64 386], .agg #[.pointer (some ⟨2, 52, none⟩), .pointer (some b), .int .u64 130]]).run Tryz.prog W
      = .ok (.tuple #[]) (W.setCell ta (.int .i64 e)) := by
  rw [rls]
  simp only [Sem.run_bind, AsD.parts25a, AsD.parts25, Result.andThen]
  simp [ReflectliteValue.flagAddr, loadVar, isAgg, underlying, Tryz.underlying52, hb, Result.andThen, AsD.direct25, storeVar, Value.cells, storeCells, Addr.add]
  rw [run_store Tryz.prog W ta _ _ (by rfl)]
  simp [ht, hf]

end Gv.Tryz
/- errors.As at *api.Errno where the error is a *oops.Which; at **oops.Which. -/
namespace Gv.Tryz
open Go Go.Proofs Go.RowKit Go.Extern.Stop Go.Stop Go.Extern
theorem AsW.typeOf (v : Value) (w : World) : (ReflectliteType.typeOf #[.iface 113 v]).run Tryz.prog w = .ok (.iface 176 (.agg #[.pointer (some ⟨2, 113, none⟩)])) w := by kernel_rfl
theorem AsW.notAssignable (w : World) : (ReflectliteType.relation "AssignableTo" ReflectliteType.assignableTo #[.agg #[.pointer (some ⟨2, 113, none⟩)], .iface 176 (.agg #[.pointer (some ⟨2, 52, none⟩)])]).run Tryz.prog w = .ok (.bool false) w := by kernel_rfl
theorem AsW.noAs (v : Value) (xT : TypeId) (w : World) : (Instr.typeAssert (.iface 113 v) xT 181 true).run Tryz.prog w = .ok (.tuple #[.nilIface, .bool false]) w := run_typeAssert_lacksB Tryz.underlying181 (by kernel_rfl) (by kernel_rfl) v xT w
theorem AsW.hasUnwrap (v : Value) (xT : TypeId) (w : World) : (Instr.typeAssert (.iface 113 v) xT 184 true).run Tryz.prog w = .ok (.tuple #[.iface 113 v, .bool true]) w := run_typeAssert_hasB Tryz.underlying184 (by kernel_rfl) v xT w
theorem AsW.methodUnwrap (p : Value) (w : World) : (Go.method 353 113 p "Unwrap").run Tryz.prog w = .ok (169, p) w := by kernel_rfl
set_option maxRecDepth 20000 in
set_option maxHeartbeats 4000000 in
theorem as_wrap (b0 off : Nat) (e : Int) (t : Addr) (old : Value) (w : World) (hp : w.cell? ⟨b0, off + 32, none⟩ = some (.iface 52 (.int .i64 e))) (hg : w.cell? ⟨0, 0, none⟩ = some (.iface 176 (.agg #[.pointer (some ⟨2, 28, none⟩)]))) (ht0 : w.cell? t = some old) (hf0 : w.frozen? t = false) :
    Calls Tryz.prog 50 #[.iface 113 (.pointer (some ⟨b0, off, none⟩)), .iface 112 (.pointer (some t))] w fun ev w' => ev = .returned (.bool true) ∧ w' = ((((w.alloc (.cells #[.pointer (some t)] 112)).alloc (.cells #[.pointer (some ⟨2, 112, none⟩), .pointer (some ⟨w.heap.size, 0, none⟩), .int .u64 150] 143)).alloc (.cells #[.pointer (some ⟨2, 112, none⟩), .pointer (some ⟨w.heap.size, 0, none⟩), .int .u64 150] 143)).alloc (.cells #[.int .i64 e] 52)).setCell t (.int .i64 e) := by
  have h6 := @run_callFunc_extern Tryz.prog 83 _ (fun args => ReflectliteValue.unpack (args.getD 0 (.tuple #[]))) Tryz.func83 (by kernel_rfl) (by kernel_rfl) (by kernel_rfl) (by kernel_rfl)
  have h7 := @run_callFunc_extern Tryz.prog 84 _ (ReflectliteValue.methodAny (ReflectliteValue.valueError "reflectlite.Value.Type" 0) (fun t _ _ _ => ReflectliteType.toType t)) Tryz.func84 (by kernel_rfl) (by kernel_rfl) (by kernel_rfl) (by kernel_rfl)
  have h8 := @run_callFunc_extern Tryz.prog 85 _ (ReflectliteValue.method (ReflectliteValue.valueError "reflectlite.Value.IsNil" 0) ReflectliteValue.isNil) Tryz.func85 (by kernel_rfl) (by kernel_rfl) (by kernel_rfl) (by kernel_rfl)
  have h27 := @run_callFunc_extern Tryz.prog 163 _ (ReflectliteType.abiMethod fun t => do pure (.int .u8 (← Rtype.kind t))) Tryz.func163 (by kernel_rfl) (by kernel_rfl) (by kernel_rfl) (by kernel_rfl)
  have h37 := @run_callFunc_extern Tryz.prog 176 _ (ReflectliteType.method ReflectliteType.elem) Tryz.func176 (by kernel_rfl) (by kernel_rfl) (by kernel_rfl) (by kernel_rfl)
  have h38 := @run_callFunc_extern Tryz.prog 177 _ (ReflectliteType.relation "Implements" ReflectliteType.implements_) Tryz.func177 (by kernel_rfl) (by kernel_rfl) (by kernel_rfl) (by kernel_rfl)
  have h10 := @run_callFunc_extern Tryz.prog 110 _ ReflectliteType.typeOf Tryz.func110 (by kernel_rfl) (by kernel_rfl) (by kernel_rfl) (by kernel_rfl)
  have h35 := @run_callFunc_extern Tryz.prog 174 _ (ReflectliteType.relation "AssignableTo" ReflectliteType.assignableTo) Tryz.func174 (by kernel_rfl) (by kernel_rfl) (by kernel_rfl) (by kernel_rfl)
  have h11 := @run_callFunc_extern Tryz.prog 111 _ (ReflectliteValue.method (ReflectliteValue.valueError "reflectlite.Value.Elem" 0) ReflectliteValue.elem) Tryz.func111 (by kernel_rfl) (by kernel_rfl) (by kernel_rfl) (by kernel_rfl)
  have h12 := @run_callFunc_extern Tryz.prog 112 _ ReflectliteValue.set Tryz.func112 (by kernel_rfl) (by kernel_rfl) (by kernel_rfl) (by kernel_rfl)
  have tW := AsW.typeOf
  have nA := AsW.notAssignable
  have noA := AsW.noAs
  have hU := AsW.hasUnwrap
  have mU := AsW.methodUnwrap
  have tO := AsD.typeOf25
  have mA := AsD.methodAssignableTo
  have a25 := AsD.assignable25
  have v25 := AsD.valueOf25
  have f6 := AsD.valueOf27
  have f7 := AsD.type27
  have mK := AsD.methodKind
  have mE := AsD.methodElem
  have mI := AsD.methodImplements
  have k27 := AsD.kind27
  have k25 := AsD.kind25
  have e27 := AsD.elem27
  have i25 := AsD.implements25
  have n8 := AsD.isNil27 ⟨w.heap.size, 0, none⟩ t ((w.alloc (.cells #[.pointer (some t)] 112)).alloc (.cells #[.pointer (some ⟨2, 112, none⟩), .pointer (some ⟨w.heap.size, 0, none⟩), .int .u64 150] 143)) (by simp)
  have hlt : 0 < w.heap.size := by
    rcases Nat.eq_zero_or_pos w.heap.size with h0 | h
    · simp [World.cell?, h0] at hg
    · exact h
  have hg2 : ((w.alloc (.cells #[.pointer (some t)] 112)).alloc (.cells #[.pointer (some ⟨2, 112, none⟩), .pointer (some ⟨w.heap.size, 0, none⟩), .int .u64 150] 143)).cell? ⟨0, 0, none⟩ = some (.iface 176 (.agg #[.pointer (some ⟨2, 28, none⟩)])) := by
    rw [World.cell?_alloc_lt _ _ ⟨0, 0, none⟩ (by simp), World.cell?_alloc_lt _ _ ⟨0, 0, none⟩ hlt]; exact hg
  have htl : t.block < w.heap.size := by
    rcases Nat.lt_or_ge t.block w.heap.size with h | h
    · exact h
    · simp [World.cell?, Array.getElem?_eq_none h] at ht0
  have el := AsD.elemV27 ⟨w.heap.size, 0, none⟩ t (((w.alloc (.cells #[.pointer (some t)] 112)).alloc (.cells #[.pointer (some ⟨2, 112, none⟩), .pointer (some ⟨w.heap.size, 0, none⟩), .int .u64 150] 143)).alloc (.cells #[.pointer (some ⟨2, 112, none⟩), .pointer (some ⟨w.heap.size, 0, none⟩), .int .u64 150] 143)) (by rw [World.cell?_alloc_lt _ _ ⟨w.heap.size, 0, none⟩ (by simp; omega)]; simp)
  have st := AsD.set25 t ⟨w.heap.size + 1 + 1 + 1, 0, none⟩ e old ((((w.alloc (.cells #[.pointer (some t)] 112)).alloc (.cells #[.pointer (some ⟨2, 112, none⟩), .pointer (some ⟨w.heap.size, 0, none⟩), .int .u64 150] 143)).alloc (.cells #[.pointer (some ⟨2, 112, none⟩), .pointer (some ⟨w.heap.size, 0, none⟩), .int .u64 150] 143)).alloc (.cells #[.int .i64 e] 52))
    (by rw [World.cell?_alloc_at _ _ _ _ (by simp)]; rfl)
    (by rw [World.cell?_alloc_lt _ _ t (by simp; omega), World.cell?_alloc_lt _ _ t (by simp; omega), World.cell?_alloc_lt _ _ t (by simp; omega), World.cell?_alloc_lt _ _ t htl]; exact ht0)
    (by rw [World.frozen?_alloc_old _ _ t (by simp; omega), World.frozen?_alloc_old _ _ t (by simp; omega), World.frozen?_alloc_old _ _ t (by simp; omega), World.frozen?_alloc_old _ _ t (Nat.ne_of_lt htl)]; exact hf0)
  have hbl : b0 < w.heap.size := by
    rcases Nat.lt_or_ge b0 w.heap.size with h | h
    · exact h
    · simp [World.cell?, Array.getElem?_eq_none h] at hp
  have hp3 : (((w.alloc (.cells #[.pointer (some t)] 112)).alloc (.cells #[.pointer (some ⟨2, 112, none⟩), .pointer (some ⟨w.heap.size, 0, none⟩), .int .u64 150] 143)).alloc (.cells #[.pointer (some ⟨2, 112, none⟩), .pointer (some ⟨w.heap.size, 0, none⟩), .int .u64 150] 143)).cell? ⟨b0, off + 32, none⟩ = some (.iface 52 (.int .i64 e)) := by
    rw [World.cell?_alloc_lt _ _ ⟨b0, off + 32, none⟩ (by simp; omega), World.cell?_alloc_lt _ _ ⟨b0, off + 32, none⟩ (by simp; omega), World.cell?_alloc_lt _ _ ⟨b0, off + 32, none⟩ hbl]; exact hp
  go_enter Tryz.func50, Tryz.ntmps50
  go_wp2
  refine wp_loop_rounds 2 ?_
  rw [rounds_succ]
  go_wp2
  rw [rounds_succ]
  go_wp2
  go_ret
  exact ⟨rfl, rfl⟩
end Gv.Tryz
/- errors.As at **oops.Which: the error is a *oops.Which; it is a plain api.Errno. -/
namespace Gv.Tryz
open Go Go.Proofs Go.RowKit Go.Extern.Stop Go.Stop Go.Extern
theorem AsX.valueOf27 (t : Addr) (w : World) : (ReflectliteValue.unpack (.iface 114 (.pointer (some t)))).run Tryz.prog w
    = .ok (.agg #[.pointer (some ⟨2, 114, none⟩), .pointer (some ⟨w.heap.size, 0, none⟩), .int .u64 150]) (w.alloc (.cells #[.pointer (some t)] 114)) := by kernel_rfl
theorem AsX.type27 (a : Addr) (w : World) : (ReflectliteValue.methodAny (ReflectliteValue.valueError "reflectlite.Value.Type" 0) (fun t _ _ _ => ReflectliteType.toType t) #[.agg #[.pointer (some ⟨2, 114, none⟩), .pointer (some a), .int .u64 150]]).run Tryz.prog w
    = .ok (.iface 176 (.agg #[.pointer (some ⟨2, 114, none⟩)])) w := by kernel_rfl
theorem AsX.methodKind (h : Value) (w : World) : (Go.method 353 176 (.agg #[h]) "Kind").run Tryz.prog w = .ok (163, h) w := by kernel_rfl
theorem AsX.kind27 (w : World) : ((ReflectliteType.abiMethod fun t => (fun a : Nat => Value.int IntKind.u8 (a : Int)) <$> Rtype.kind t) #[.pointer (some ⟨2, 114, none⟩)]).run Tryz.prog w = .ok (.int .u8 22) w := by kernel_rfl
theorem AsX.kind25 (w : World) : ((ReflectliteType.abiMethod fun t => (fun a : Nat => Value.int IntKind.u8 (a : Int)) <$> Rtype.kind t) #[.pointer (some ⟨2, 113, none⟩)]).run Tryz.prog w = .ok (.int .u8 22) w := by kernel_rfl

theorem AsX.parts27 (a : Addr) (w : World) : (ReflectliteValue.parts (.agg #[.pointer (some ⟨2, 114, none⟩), .pointer (some a), .int .u64 150])).run Tryz.prog w = .ok (some (114, a, 150)) w := by kernel_rfl
theorem AsX.isNil27 (a p : Addr) (W : World) (ha : W.cell? a = some (.pointer (some p))) :
    (ReflectliteValue.method (ReflectliteValue.valueError "reflectlite.Value.IsNil" 0) ReflectliteValue.isNil #[.agg #[.pointer (some ⟨2, 114, none⟩), .pointer (some a), .int .u64 150]]).run Tryz.prog W = .ok (.bool false) W := by
  rw [rlm]
  simp only [Sem.run_bind, AsX.parts27, Result.andThen]
  simp [ReflectliteValue.isNil, loadVar, isAgg, underlying, Tryz.underlying114, ha, Result.andThen]

theorem AsX.methodElem (h : Value) (w : World) : (Go.method 353 176 (.agg #[h]) "Elem").run Tryz.prog w = .ok (176, .agg #[h]) w := by kernel_rfl
theorem AsX.methodImplements (h : Value) (w : World) : (Go.method 353 176 (.agg #[h]) "Implements").run Tryz.prog w = .ok (177, .agg #[h]) w := by kernel_rfl
theorem AsX.methodAssignableTo (h : Value) (w : World) : (Go.method 353 176 (.agg #[h]) "AssignableTo").run Tryz.prog w = .ok (174, .agg #[h]) w := by kernel_rfl
theorem AsX.elem27 (w : World) : (ReflectliteType.method ReflectliteType.elem #[.agg #[.pointer (some ⟨2, 114, none⟩)]]).run Tryz.prog w = .ok (.iface 176 (.agg #[.pointer (some ⟨2, 113, none⟩)])) w := by kernel_rfl
theorem AsX.implements25 (w : World) : (ReflectliteType.relation "Implements" ReflectliteType.implements_ #[.agg #[.pointer (some ⟨2, 113, none⟩)], .iface 176 (.agg #[.pointer (some ⟨2, 28, none⟩)])]).run Tryz.prog w = .ok (.bool true) w := by kernel_rfl
theorem AsX.typeOf25 (v : Value) (w : World) : (ReflectliteType.typeOf #[.iface 113 v]).run Tryz.prog w = .ok (.iface 176 (.agg #[.pointer (some ⟨2, 113, none⟩)])) w := by kernel_rfl
theorem AsX.assignable25 (w : World) : (ReflectliteType.relation "AssignableTo" ReflectliteType.assignableTo #[.agg #[.pointer (some ⟨2, 113, none⟩)], .iface 176 (.agg #[.pointer (some ⟨2, 113, none⟩)])]).run Tryz.prog w = .ok (.bool true) w := by kernel_rfl
theorem AsX.valueOf25 (p : Addr) (w : World) : (ReflectliteValue.unpack (.iface 113 (.pointer (some p)))).run Tryz.prog w
    = .ok (.agg #[.pointer (some ⟨2, 113, none⟩), .pointer (some ⟨w.heap.size, 0, none⟩), .int .u64 150]) (w.alloc (.cells #[.pointer (some p)] 113)) := by kernel_rfl

theorem AsX.elemOf27 (w : World) : (Rtype.elem? 114).run Tryz.prog w = .ok (some 113) w := by kernel_rfl
theorem AsX.mk25 (p : Addr) (w : World) : (ReflectliteValue.mk 113 p ReflectliteValue.flagAddr).run Tryz.prog w = .ok (.agg #[.pointer (some ⟨2, 113, none⟩), .pointer (some p), .int .u64 406]) w := by kernel_rfl
theorem AsX.elemV27 (a p : Addr) (W : World) (ha : W.cell? a = some (.pointer (some p))) :
    (ReflectliteValue.method (ReflectliteValue.valueError "reflectlite.Value.Elem" 0) ReflectliteValue.elem #[.agg #[.pointer (some ⟨2, 114, none⟩), .pointer (some a), .int .u64 150]]).run Tryz.prog W
      = .ok (.agg #[.pointer (some ⟨2, 113, none⟩), .pointer (some p), .int .u64 406]) W := by
  rw [rlm]
  simp only [Sem.run_bind, AsX.parts27, Result.andThen]
  simp [ReflectliteValue.elem, loadVar, isAgg, underlying, Tryz.underlying114, ha, Result.andThen, AsX.elemOf27, AsX.mk25]
theorem AsX.parts25a (a : Addr) (w : World) : (ReflectliteValue.parts (.agg #[.pointer (some ⟨2, 113, none⟩), .pointer (some a), .int .u64 406])).run Tryz.prog w = .ok (some (113, a, 406)) w := by kernel_rfl
theorem AsX.parts25 (a : Addr) (w : World) : (ReflectliteValue.parts (.agg #[.pointer (some ⟨2, 113, none⟩), .pointer (some a), .int .u64 150])).run Tryz.prog w = .ok (some (113, a, 150)) w := by kernel_rfl
theorem AsX.direct25 (w : World) : (Rtype.directlyAssignable 113 113).run Tryz.prog w = .ok true w := by kernel_rfl
theorem AsX.set25 (ta b p : Addr) (old : Value) (W : World) (hb : W.cell? b = some (.pointer (some p))) (ht : W.cell? ta = some old) (hf : W.frozen? ta = false) :
    (ReflectliteValue.set #[.agg #[.pointer (some ⟨2, 113, none⟩), .pointer (some ta), .int .u64 406], .agg #[.pointer (some ⟨2, 113, none⟩), .pointer (some b), .int .u64 150]]).run Tryz.prog W
      = .ok (.tuple #[]) (W.setCell ta (.pointer (some p))) := by
  rw [rls]
  simp only [Sem.run_bind, AsX.parts25a, AsX.parts25, Result.andThen]
  simp [ReflectliteValue.flagAddr, loadVar, isAgg, underlying, Tryz.underlying113, hb, Result.andThen, AsX.direct25, storeVar, Value.cells, storeCells, Addr.add]
  rw [run_store Tryz.prog W ta _ _ (by rfl)]
  simp [ht, hf]

end Gv.Tryz
/- errors.As at **oops.Which: the error is a plain api.Errno. -/
namespace Gv.Tryz
open Go Go.Proofs Go.RowKit Go.Extern.Stop Go.Stop Go.Extern
theorem AsM.typeOf (v : Value) (w : World) : (ReflectliteType.typeOf #[.iface 52 v]).run Tryz.prog w = .ok (.iface 176 (.agg #[.pointer (some ⟨2, 52, none⟩)])) w := by kernel_rfl
theorem AsM.notAssignable (w : World) : (ReflectliteType.relation "AssignableTo" ReflectliteType.assignableTo #[.agg #[.pointer (some ⟨2, 52, none⟩)], .iface 176 (.agg #[.pointer (some ⟨2, 113, none⟩)])]).run Tryz.prog w = .ok (.bool false) w := by kernel_rfl
theorem AsM.noAs (v : Value) (xT : TypeId) (w : World) : (Instr.typeAssert (.iface 52 v) xT 181 true).run Tryz.prog w = .ok (.tuple #[.nilIface, .bool false]) w := run_typeAssert_lacksB Tryz.underlying181 (by kernel_rfl) (by kernel_rfl) v xT w
end Gv.Tryz
/- Kind of an error, for seat u: nil, an api.Errno, an oops.Which about an api.Errno. -/
set_option linter.unusedVariables false
namespace Gv.Tryz
open Go Gv Go.Proofs Go.RowKit
theorem cell_size {w : World} {t : Addr} {v : Value} (h : w.cell? t = some v) : t.block < w.heap.size := by
  rcases Nat.lt_or_ge t.block w.heap.size with h1 | h1
  · exact h1
  · simp [World.cell?, Array.getElem?_eq_none h1] at h
theorem after4 (w : World) (t : Addr) (old v : Value) (o1 o2 o3 o4 : Obj) (ht0 : w.cell? t = some old) :
    ((((((w.alloc o1).alloc o2).alloc o3).alloc o4).setCell t v)).cell? t = some v ∧ Below t.block w ((((((w.alloc o1).alloc o2).alloc o3).alloc o4).setCell t v)) := by
  have htl := cell_size ht0
  have b0 : Below t.block w w := Below.refl _ _
  refine ⟨?_, (((((b0.alloc (by omega) _).alloc (by simp; omega) _).alloc (by simp; omega) _).alloc (by simp; omega) _).setCell (Nat.le_refl _) _)⟩
  refine World.cell?_setCell_same _ t _ (u := old) ?_
  rw [World.cell?_alloc_lt _ _ t (by simp; omega), World.cell?_alloc_lt _ _ t (by simp; omega), World.cell?_alloc_lt _ _ t (by simp; omega), World.cell?_alloc_lt _ _ t htl]; exact ht0
theorem as_wrapB (b0 off : Nat) (e : Int) (t : Addr) (old : Value) (w : World) (hp : w.cell? ⟨b0, off + 32, none⟩ = some (.iface 52 (.int .i64 e))) (hg : w.cell? ⟨0, 0, none⟩ = some (.iface 176 (.agg #[.pointer (some ⟨2, 28, none⟩)]))) (ht0 : w.cell? t = some old) (hf0 : w.frozen? t = false) :
    Calls Tryz.prog 50 #[.iface 113 (.pointer (some ⟨b0, off, none⟩)), .iface 112 (.pointer (some t))] w fun ev w' => ev = .returned (.bool true) ∧ w'.cell? t = some (.int .i64 e) ∧ Below t.block w w' := by
  refine (as_wrap b0 off e t old w hp hg ht0 hf0).mono ?_
  rintro ev w' ⟨rfl, rfl⟩
  obtain ⟨h1, h2⟩ := after4 w t old _ _ _ _ _ ht0
  exact ⟨rfl, h1, h2⟩
set_option maxRecDepth 20000 in
set_option maxHeartbeats 4000000 in
theorem kind_which (b0 off : Nat) (n : Int) (w : World) (hp : w.cell? ⟨b0, off + 32, none⟩ = some (.iface 52 (.int .i64 n))) (hg : w.cell? ⟨0, 0, none⟩ = some (.iface 176 (.agg #[.pointer (some ⟨2, 28, none⟩)]))) :
    Calls Tryz.prog 19 #[.iface 113 (.pointer (some ⟨b0, off, none⟩))] w fun e w' => e = .returned (.int .i64 n) ∧ Below w.heap.size w w' := by
  have hlt := cell_size hg
  have hlp := cell_size hp
  have ht := as_wrapB b0 off n ⟨w.heap.size, 0, none⟩ (.int .i64 0) (w.alloc (.cells #[.int .i64 0] 52)) (by rw [World.cell?_alloc_lt _ _ ⟨b0, off + 32, none⟩ hlp]; exact hp) (by rw [World.cell?_alloc_lt _ _ ⟨0, 0, none⟩ hlt]; exact hg) (by simp) (by simp)
  go_enter Tryz.func19, Tryz.ntmps19
  go_wp2_with (go_at_call 50; refine ht.mono ?_; rintro e w' ⟨rfl, hc, hb⟩)
  go_ret
  exact ⟨rfl, ((Below.refl _ w).alloc (Nat.le_refl _) _).trans hb⟩
end Gv.Tryz
