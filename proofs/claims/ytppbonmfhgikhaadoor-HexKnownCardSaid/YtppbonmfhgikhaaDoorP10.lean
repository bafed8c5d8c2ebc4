/- Contracts: the reference's Text, ParseHash and Begins; what a parse says. -/
import Derived.Test.YtppbonmfhgikhaaDoorP9
import Derived.Test.YtppbonmfhgikhaaDoorProg
import Derived.WalkKit
import Derived.LaidEql
import Derived.Stop.Asserts
import Derived.RowKitTokens
import Derived.Test.YtppbonmfhgikhaaDoorP8
set_option linter.unusedVariables false
set_option linter.unusedSimpArgs false
set_option maxRecDepth 20000
set_option maxHeartbeats 4000000
namespace Gv.Tryd
open Go Gv Go.Proofs
def hexs : List UInt8 := [48, 49, 50, 51, 52, 53, 54, 55, 56, 57, 97, 98, 99, 100, 101, 102]
theorem hexs_cut (n : Nat) (h : n < 16) : List.drop n (List.take (n + 1) hexs) = [hexd n] := by
  match n, h with
  | 0, _ | 1, _ | 2, _ | 3, _ | 4, _ | 5, _ | 6, _ | 7, _ | 8, _ | 9, _ | 10, _ | 11, _ | 12, _ | 13, _ | 14, _ | 15, _ => rfl
  | n + 16, h => omega
theorem textL_take (l : List UInt8) (k : Nat) (h : k < l.length) : textL (l.take (k + 1)) = textL (l.take k) ++ [hexd ((l.getD k 0).toNat / 16)] ++ [hexd ((l.getD k 0).toNat % 16)] := by
  have h4 : l.take (k + 1) = l.take k ++ [l.getD k 0] := by rw [List.take_add_one]; simp [List.getD, h]
  rw [h4, textL, List.flatMap_append, ← textL]; simp
theorem tdiv16 (c : UInt8) : (c.toNat : Int).tdiv 16 = ((c.toNat / 16 : Nat) : Int) := by
  rw [Int.tdiv_eq_ediv_of_nonneg (by omega)]; omega
theorem tmod16 (c : UInt8) : (c.toNat : Int).tmod 16 = ((c.toNat % 16 : Nat) : Int) := by
  rw [Int.tmod_eq_emod_of_nonneg (by omega)]; omega
theorem drop_bytes' (l : List UInt8) (n : Nat) : (bytesG l).drop n = bytesG (l.drop n) := by simp [bytesG, List.map_drop]
theorem drop_cons0' {l : List UInt8} {k : Nat} (h : k < l.length) : l.drop k = l.getD k 0 :: l.drop (k + 1) := by
  rw [List.drop_eq_getElem_cons h]; simp [List.getD, h]
theorem hTextR (a : List UInt8) (ha : a.length = 32) : GPure Tryd.prog 6 [.agg (bytesG a)] (.str (textL a)) := by
  have la := bytesG_len a
  have ta : List.take 32 (bytesG a) = bytesG a := List.take_of_length_le (by omega)
  refine h6.pure mixS (by simp) ?_
  simp only [gstart, s6, List.cons_append, List.nil_append, List.length_cons, List.length_nil, Nat.reduceAdd, Nat.reduceSub, List.replicate_succ, List.replicate_zero]
  simp +contextual -implicitDefEqProofs (maxSteps := 2000000) (disch := omega) only [drawC, binV, optV, ↓loadV, ↓indexAddrV, ↓boxV, ↓sliceV, bound, cutTag, hiTag, GVal.cells, grp, GVal.ofConst, ↓resV, resG, List.map, List.headD, List.take, List.drop, ↓reduceIte, Nat.reduceEqDiff, Nat.reduceAdd, Nat.reduceSub, Nat.reduceLeDiff, reduceCtorEq, implies_true, ne_eq, Tag.cap, List.replicate, allSolid, GVal.solid, Nat.reduceBEq, Nat.reduceMul, Nat.reduceLT, List.length_map, List.length_range, splice, vcA, ↓vcB, vcC, fbHxD, e6, ta, sol_bytes]
  refine vcSLoop_by (ι := { k : Nat // k ≤ 32 }) (fun k => ⟨[.any, .ref (bytesG a), .any, .str (textL (a.take k.1)), .str hexs, .int .i64 (k.1 : Nat)] ++ List.replicate 30 .any, []⟩) (fun k => 32 - k.1) ?_ ?_
  · exact Into.first ⟨0, by omega⟩ ⟨[], by simp⟩ (by simp [WL, leG_self, leG_any, leG_int, textL, hexs])
  · rintro ⟨k, hk⟩
    by_cases h : k < 32
    · have d0 : ((k : Int) < 32) = True := eq_true (by omega)
      have et := textL_take a k (by omega)
      have lt : (textL (a.take k)).length = 2 * k := by rw [textL_len, List.length_take]; omega
      obtain ⟨c, ec⟩ : ∃ c, a.getD k 0 = c := ⟨_, rfl⟩
      obtain ⟨ra, ea⟩ : ∃ ra, List.drop (k * 1) (bytesG a) = .int .u8 c.toNat :: ra := ⟨bytesG (a.drop (k + 1)), by rw [Nat.mul_one, drop_bytes', drop_cons0' (by omega), ec]; rfl⟩
      have ta1 : List.take 1 (List.drop (k * 1) (bytesG a)) = [.int .u8 c.toNat] := by rw [ea]; rfl
      have la1 : (1 ≤ (List.drop (k * 1) (bytesG a)).length) = True := by rw [ea]; simp
      have q1 := tdiv16 c
      have q2 := tmod16 c
      have n1 := (nib c).1
      have n2 := (nib c).2
      have c1 := hexs_cut _ n1
      have c2 := hexs_cut _ n2
      have hx := c.toNat_lt
      rw [ec] at et
      generalize c.toNat / 16 = x at *
      generalize c.toNat % 16 = y at *
      generalize textL (a.take k) = A at *
      have z1 : ((x : Int) + 1).toNat = x + 1 := by omega
      have z2 : ((y : Int) + 1).toNat = y + 1 := by omega
      have hl : hexs.length = 16 := rfl
      simp +contextual -implicitDefEqProofs (maxSteps := 2000000) (disch := omega) only [drawC, binV, optV, ↓loadV, ↓indexAddrV, ↓boxV, ↓sliceV, bound, cutTag, hiTag, GVal.cells, grp, GVal.ofConst, ↓resV, resG, List.map, List.headD, List.take, List.drop, ↓reduceIte, Nat.reduceEqDiff, Nat.reduceAdd, Nat.reduceSub, Nat.reduceLeDiff, reduceCtorEq, implies_true, ne_eq, Tag.cap, List.replicate, allSolid, GVal.solid, Nat.reduceBEq, Nat.reduceMul, Nat.reduceLT, List.length_map, List.length_range, splice, vcA, ↓vcB, vcC, fbHxD, e6, d0, ta1, la1, q1, q2, norm_u8, z1, z2, c1, c2, hl, List.length_append]
      have la2 := bytesG_len a
      repeat (refine ⟨by omega, ?_⟩)
      refine Into.at ⟨k + 1, by omega⟩ (by show _ < _; simp; omega) ⟨[], by simp⟩ (by simp [WL, leG_self, leG_any, leG_int, et])
    · have d0 : ((k : Int) < 32) = False := eq_false (by omega)
      have e : k = 32 := by omega
      subst e
      have e2 : a.take 32 = a := List.take_of_length_le (by omega)
      simp +contextual -implicitDefEqProofs (maxSteps := 2000000) (disch := omega) only [drawC, binV, optV, ↓loadV, ↓indexAddrV, ↓boxV, ↓sliceV, bound, cutTag, hiTag, GVal.cells, grp, GVal.ofConst, ↓resV, resG, List.map, List.headD, List.take, List.drop, ↓reduceIte, Nat.reduceEqDiff, Nat.reduceAdd, Nat.reduceSub, Nat.reduceLeDiff, reduceCtorEq, implies_true, ne_eq, Tag.cap, List.replicate, allSolid, GVal.solid, Nat.reduceBEq, Nat.reduceMul, Nat.reduceLT, List.length_map, List.length_range, splice, vcA, ↓vcB, vcC, fbHxD, e6, d0, false_imp_iff, true_and, e2]
      exact ⟨fun h => absurd h (by omega), fun _ => by unfold leA; simp [leG_self]⟩
/-- what a text is parsed to -/
def goodT (s : List UInt8) : Prop := s.length = 64 ∧ isPre s = true
instance (s : List UInt8) : Decidable (goodT s) := by unfold goodT; infer_instance
def pL (s : List UInt8) : List UInt8 := if goodT s then (List.range 32).map fun i => UInt8.ofNat (norm .u8 (pairB s i)).toNat else List.replicate 32 0
def errG (s : List UInt8) : GVal := if goodT s then .lit .nilIface else errForm
def errN (s : List UInt8) : Int := if goodT s then 0 else 2
theorem pL_len (s : List UInt8) : (pL s).length = 32 := by unfold pL; split <;> simp
theorem norm_u8_range (n : Int) : 0 ≤ norm .u8 n ∧ norm .u8 n ≤ 255 := by
  have h : norm .u8 n = n % 256 := rfl
  rw [h]; omega
theorem pL_good {s : List UInt8} (h : goodT s) : bytesG (pL s) = (List.range 32).map fun i => .int .u8 (norm .u8 (pairB s i)) := by
  unfold pL bytesG
  rw [if_pos h, List.map_map]
  apply List.map_congr_left
  intro i _
  have := norm_u8_range (pairB s i)
  simp only [Function.comp, UInt8.toNat_ofNat']
  congr 1; omega
theorem pL_bad {s : List UInt8} (h : ¬ goodT s) : bytesG (pL s) = List.replicate 32 (.int .u8 0) := by
  unfold pL bytesG
  rw [if_neg h]; rfl
theorem hParseA (s : List UInt8) (hs : s.length ≤ 9223372036854775807) : GPure Tryd.prog 9 [.str s] (.tuple [.agg (bytesG (pL s)), errG s]) := by
  by_cases h : goodT s
  · rw [pL_good h, errG, if_pos h]
    exact hParse s h.1 h.2
  · rw [pL_bad h, errG, if_neg h]
    exact hParseBad s hs fun e => by
      cases hp : isPre s with
      | false => rfl
      | true => exact absurd ⟨e, hp⟩ h
theorem digits_at : ∀ {s : List UInt8}, digits s = true → ∀ i, i < s.length → 0 ≤ dig (s.getD i 0).toNat
  | [], _, i, h => by simp at h
  | c :: r, hd, i, h => by
    simp only [digits, List.all_cons, Bool.and_eq_true, decide_eq_true_eq] at hd
    cases i with
    | zero => exact hd.1
    | succ i => exact digits_at (s := r) hd.2 i (by simpa using h)
theorem pairB_eq (s : List UInt8) (i : Nat) (h1 : 0 ≤ dig (s.getD (2 * i) 0).toNat) (h2 : 0 ≤ dig (s.getD (2 * i + 1) 0).toNat) : norm .u8 (pairB s i) = norm .u8 (16 * dig (s.getD (2 * i) 0).toNat + dig (s.getD (2 * i + 1) 0).toNat) := by
  unfold pairB
  have b1 := dig_le (s.getD (2 * i) 0).toNat
  have b2 := dig_le (s.getD (2 * i + 1) 0).toNat
  generalize dig (s.getD (2 * i) 0).toNat = x at *
  generalize dig (s.getD (2 * i + 1) 0).toNat = y at *
  obtain ⟨q, rfl⟩ := Int.eq_ofNat_of_zero_le h1
  obtain ⟨r, rfl⟩ := Int.eq_ofNat_of_zero_le h2
  rw [or_nib q (by omega) r (by omega), norm_u8 (by omega)]
  omega
theorem hParseR (s : List UInt8) (hs : s.length = 64) (hp : isPre s = true) : GPure Tryd.prog 10 [.str s] (.tuple [.agg ((List.range 32).map fun i => .int .u8 (norm .u8 (pairB s i))), .int .i64 0]) := by
  have hdg : ∀ i, i < s.length → 0 ≤ dig (s.getD i 0).toNat := digits_at (by unfold isPre at hp; rw [Bool.and_eq_true] at hp; exact hp.1)
  refine h10.pureF mixS (by simp) ?_
  simp only [gstart, s10, List.cons_append, List.nil_append, List.length_cons, List.length_nil, Nat.reduceAdd, Nat.reduceSub, List.replicate_succ, List.replicate_zero]
  have d0 : ((s.length : Int) = 64) = True := eq_true (by omega)
  simp +contextual -implicitDefEqProofs (maxSteps := 2000000) (disch := omega) only [drawC, ↓lenV, binV, ↓unV, ↓convV, ↓loadV, ↓storeV, ↓indexAddrV, ↓indexV, ↓allocV, GVal.cells, grp, GVal.ofConst, ↓resV, resG, List.map, List.headD, List.take, List.drop, ↓reduceIte, Nat.reduceEqDiff, Nat.reduceAdd, Nat.reduceSub, Nat.reduceLeDiff, reduceCtorEq, implies_true, ne_eq, aggV, Tag.cap, List.replicate, allSolid, GVal.solid, Nat.reduceBEq, Nat.reduceMul, Nat.reduceLT, List.length_map, List.length_range, splice, vcA, ↓vcB, vcC, fbHxD, e10, d0, not_true_eq_false, false_imp_iff, true_imp_iff, true_and]
  intro st st_1
  have c := hIsPrefixR s (by omega)
  rw [hp] at c
  refine c.then ?_ (by rfl)
  simp +contextual -implicitDefEqProofs (maxSteps := 2000000) (disch := omega) only [drawC, ↓lenV, binV, ↓unV, ↓convV, ↓loadV, ↓storeV, ↓indexAddrV, ↓indexV, ↓allocV, GVal.cells, grp, GVal.ofConst, ↓resV, resG, List.map, List.headD, List.take, List.drop, ↓reduceIte, Nat.reduceEqDiff, Nat.reduceAdd, Nat.reduceSub, Nat.reduceLeDiff, reduceCtorEq, implies_true, ne_eq, aggV, Tag.cap, List.replicate, allSolid, GVal.solid, Nat.reduceBEq, Nat.reduceMul, Nat.reduceLT, List.length_map, List.length_range, splice, vcA, ↓vcB, vcC, fbHxD, e10]
  obtain ⟨Z, hZ⟩ : ∃ Z, Z = bytesG (List.replicate 32 0) := ⟨_, rfl⟩
  have zl : Z.length = 32 := by rw [hZ]; simp [bytesG]
  refine vcSLoop_by (ι := { p : Nat × List GVal // p.1 ≤ 32 ∧ p.2.length = 32 ∧ (∀ i, i < p.1 → p.2.getD i .any = .int .u8 (norm .u8 (pairB s i))) ∧ ∀ c ∈ p.2, c.solid = true }) (fun p => ⟨[.str s, .any, .ptr 0 st 0 0, .any, .ptr 1 st_1 0 0, .int .i64 (p.1.1 : Nat)] ++ List.replicate 30 .any, [.row st 32 [Z], .row st_1 32 [p.1.2]]⟩) (fun p => 32 - p.1.1) ?_ ?_
  · exact Into.first ⟨(0, Z), by omega, zl, by omega, by rw [hZ]; simp [bytesG, GVal.solid]⟩ ⟨[], by simp [hZ, bytesG]⟩ (by simp [WL, leG_self, leG_any, leG_int])
  · rintro ⟨⟨k, H⟩, hk, hH, hi, hsol⟩
    simp only [] at hk hH hi hsol
    by_cases h : k < 32
    · have d1 : ((k : Int) < 32) = True := eq_true (by omega)
      have e1 : ((2 : Int) * k).toNat = 2 * k := by omega
      have e2 : ((2 : Int) * k + 1).toNat = 2 * k + 1 := by omega
      have b1 := byte_le (s.getD (2 * k) 0)
      have b2 := byte_le (s.getD (2 * k + 1) 0)
      have ep := pairB_eq s k (hdg _ (by omega)) (hdg _ (by omega))
      obtain ⟨x, ex⟩ : ∃ x, s.getD (2 * k) 0 = x := ⟨_, rfl⟩
      obtain ⟨y, ey⟩ : ∃ y, s.getD (2 * k + 1) 0 = y := ⟨_, rfl⟩
      rw [ex, ey] at ep
      rw [ex] at b1
      rw [ey] at b2
      have b3 := dig_le x.toNat
      have b4 := dig_le y.toNat
      simp +contextual -implicitDefEqProofs (maxSteps := 2000000) (disch := omega) only [drawC, ↓lenV, binV, ↓unV, ↓convV, ↓loadV, ↓storeV, ↓indexAddrV, ↓indexV, ↓allocV, GVal.cells, grp, GVal.ofConst, ↓resV, resG, List.map, List.headD, List.take, List.drop, ↓reduceIte, Nat.reduceEqDiff, Nat.reduceAdd, Nat.reduceSub, Nat.reduceLeDiff, reduceCtorEq, implies_true, ne_eq, aggV, Tag.cap, List.replicate, allSolid, GVal.solid, Nat.reduceBEq, Nat.reduceMul, Nat.reduceLT, List.length_map, List.length_range, splice, vcA, ↓vcB, vcC, fbHxD, e10, d1, e1, e2, ex, ey]
      repeat (refine ⟨by omega, ?_⟩)
      refine (hDigitR x.toNat b1).then ?_ (by rfl)
      simp +contextual -implicitDefEqProofs (maxSteps := 2000000) (disch := omega) only [drawC, ↓lenV, binV, ↓unV, ↓convV, ↓loadV, ↓storeV, ↓indexAddrV, ↓indexV, ↓allocV, GVal.cells, grp, GVal.ofConst, ↓resV, resG, List.map, List.headD, List.take, List.drop, ↓reduceIte, Nat.reduceEqDiff, Nat.reduceAdd, Nat.reduceSub, Nat.reduceLeDiff, reduceCtorEq, implies_true, ne_eq, aggV, Tag.cap, List.replicate, allSolid, GVal.solid, Nat.reduceBEq, Nat.reduceMul, Nat.reduceLT, List.length_map, List.length_range, splice, vcA, ↓vcB, vcC, fbHxD, e10, d1, e1, e2, ex, ey]
      refine (hDigitR y.toNat b2).then ?_ (by rfl)
      simp +contextual -implicitDefEqProofs (maxSteps := 2000000) (disch := omega) only [drawC, ↓lenV, binV, ↓unV, ↓convV, ↓loadV, ↓storeV, ↓indexAddrV, ↓indexV, ↓allocV, GVal.cells, grp, GVal.ofConst, ↓resV, resG, List.map, List.headD, List.take, List.drop, ↓reduceIte, Nat.reduceEqDiff, Nat.reduceAdd, Nat.reduceSub, Nat.reduceLeDiff, reduceCtorEq, implies_true, ne_eq, aggV, Tag.cap, List.replicate, allSolid, GVal.solid, Nat.reduceBEq, Nat.reduceMul, Nat.reduceLT, List.length_map, List.length_range, splice, vcA, ↓vcB, vcC, fbHxD, e10, d1, e1, e2, ex, ey]
      generalize norm .u8 (16 * dig x.toNat + dig y.toNat) = q at *
      rw [Nat.mul_one]
      refine ⟨by omega, by omega, ?_⟩
      refine Into.at ⟨(k + 1, H.take k ++ [.int .u8 q] ++ H.drop (k + 1)), by show k + 1 ≤ 32; omega, by simp; omega, fun i hi' => ?_, fun c hc => ?_⟩ (by show _ < _; simp; omega) ⟨[], by simp⟩ (by simp [WL, leG_self, leG_any, leG_int])
      · show (H.take k ++ [GVal.int .u8 q] ++ H.drop (k + 1)).getD i .any = _
        have hi2 : i < k + 1 := hi'
        by_cases e : i = k
        · subst e
          rw [ep]
          simp [List.getD, List.getElem?_append, hH, hk]
        · have := hi i (by omega)
          rw [← this]
          simp only [List.getD]
          rw [List.append_assoc, List.getElem?_append_left (by simp; omega), List.getElem?_take_of_lt (by omega)]
      · change c ∈ H.take k ++ [GVal.int .u8 q] ++ H.drop (k + 1) at hc
        simp only [List.mem_append, List.mem_singleton] at hc
        rcases hc with (hc | rfl) | hc
        · exact hsol c (List.mem_of_mem_take hc)
        · rfl
        · exact hsol c (List.mem_of_mem_drop hc)
    · have d1 : ((k : Int) < 32) = False := eq_false (by omega)
      have tH : List.take 32 H = H := List.take_of_length_le (by omega)
      have eH : H = ((List.range 32).map fun i => norm .u8 (pairB s i)).map (.int .u8) := by
        apply List.ext_getElem (by simp [hH])
        intro i h1 h2
        have := hi i (by omega)
        simp only [List.getD, List.getElem?_eq_getElem h1, Option.getD_some] at this
        rw [this]; simp
      have aS := allSolid_u8 ((List.range 32).map fun i => norm .u8 (pairB s i))
      rw [← eH] at aS
      have dZ : List.drop H.length Z = [] := List.drop_of_length_le (by omega)
      simp +contextual -implicitDefEqProofs (maxSteps := 2000000) (disch := omega) only [drawC, ↓lenV, binV, ↓unV, ↓convV, ↓loadV, ↓storeV, ↓indexAddrV, ↓indexV, ↓allocV, GVal.cells, grp, GVal.ofConst, ↓resV, resG, List.map, List.headD, List.take, List.drop, ↓reduceIte, Nat.reduceEqDiff, Nat.reduceAdd, Nat.reduceSub, Nat.reduceLeDiff, reduceCtorEq, implies_true, ne_eq, aggV, Tag.cap, List.replicate, allSolid, GVal.solid, Nat.reduceBEq, Nat.reduceMul, Nat.reduceLT, List.length_map, List.length_range, splice, vcA, ↓vcB, vcC, fbHxD, e10, d1, false_imp_iff, true_and, tH, aS, zl, dZ, List.append_nil]
      refine ⟨by omega, hH, by omega, 4, (.tuple [.agg ((List.range 32).map fun i => .int .u8 (norm .u8 (pairB s i))), .int .i64 0]), ?_, WL_self _⟩
      have q1 : Gv.frz [.row st 32 [H], .row st_1 32 [H]] 3 (.agg H) = some (.agg ((List.range 32).map fun i => .int .u8 (norm .u8 (pairB s i)))) := by
        have := frzL_u8 [.row st 32 [H], .row st_1 32 [H]] 1 ((List.range 32).map fun i => norm .u8 (pairB s i))
        rw [← eH] at this
        simp only [Gv.frz, this]
        rw [eH, List.map_map]; rfl
      have q2 : Gv.frz [.row st 32 [H], .row st_1 32 [H]] 3 (.int .i64 0) = some (.int .i64 0) := by simp only [Gv.frz]
      rw [Gv.frz, frzL, q1, frzL, q2]; rfl
theorem hParseRBad (s : List UInt8) (hs : s.length ≤ 9223372036854775807) (hp : s.length = 64 → isPre s = false) : GPure Tryd.prog 10 [.str s] (.tuple [.agg (List.replicate 32 (.int .u8 0)), .int .i64 2]) := by
  refine h10.pure mixS (by simp) ?_
  simp only [gstart, s10, List.cons_append, List.nil_append, List.length_cons, List.length_nil, Nat.reduceAdd, Nat.reduceSub, List.replicate_succ, List.replicate_zero]
  by_cases h : s.length = 64
  · have d0 : ((s.length : Int) = 64) = True := eq_true (by omega)
    simp +contextual -implicitDefEqProofs (maxSteps := 2000000) (disch := omega) only [drawC, ↓lenV, binV, ↓unV, ↓convV, ↓loadV, ↓storeV, ↓indexAddrV, ↓indexV, ↓allocV, GVal.cells, grp, GVal.ofConst, ↓resV, resG, List.map, List.headD, List.take, List.drop, ↓reduceIte, Nat.reduceEqDiff, Nat.reduceAdd, Nat.reduceSub, Nat.reduceLeDiff, reduceCtorEq, implies_true, ne_eq, aggV, Tag.cap, List.replicate, allSolid, GVal.solid, Nat.reduceBEq, Nat.reduceMul, Nat.reduceLT, List.length_map, List.length_range, splice, vcA, ↓vcB, vcC, fbHxD, e10, d0]
    intro st st1
    refine ⟨fun hh => (hh trivial).elim, ?_⟩
    refine (hIsPrefixR s hs).then ?_ (by rfl)
    rw [hp h]
    simp +contextual -implicitDefEqProofs (maxSteps := 2000000) (disch := omega) only [drawC, ↓lenV, binV, ↓unV, ↓convV, ↓loadV, ↓storeV, ↓indexAddrV, ↓indexV, ↓allocV, GVal.cells, grp, GVal.ofConst, ↓resV, resG, List.map, List.headD, List.take, List.drop, ↓reduceIte, Nat.reduceEqDiff, Nat.reduceAdd, Nat.reduceSub, Nat.reduceLeDiff, reduceCtorEq, implies_true, ne_eq, aggV, Tag.cap, List.replicate, allSolid, GVal.solid, Nat.reduceBEq, Nat.reduceMul, Nat.reduceLT, List.length_map, List.length_range, splice, vcA, ↓vcB, vcC, fbHxD, e10, d0]
  · have d0 : ((s.length : Int) = 64) = False := eq_false (by omega)
    simp +contextual -implicitDefEqProofs (maxSteps := 2000000) (disch := omega) only [drawC, ↓lenV, binV, ↓unV, ↓convV, ↓loadV, ↓storeV, ↓indexAddrV, ↓indexV, ↓allocV, GVal.cells, grp, GVal.ofConst, ↓resV, resG, List.map, List.headD, List.take, List.drop, ↓reduceIte, Nat.reduceEqDiff, Nat.reduceAdd, Nat.reduceSub, Nat.reduceLeDiff, reduceCtorEq, implies_true, ne_eq, aggV, Tag.cap, List.replicate, allSolid, GVal.solid, Nat.reduceBEq, Nat.reduceMul, Nat.reduceLT, List.length_map, List.length_range, splice, vcA, ↓vcB, vcC, fbHxD, e10, d0]
theorem hParseRA (s : List UInt8) (hs : s.length ≤ 9223372036854775807) : GPure Tryd.prog 10 [.str s] (.tuple [.agg (bytesG (pL s)), .int .i64 (errN s)]) := by
  by_cases h : goodT s
  · rw [pL_good h, errN, if_pos h]
    exact hParseR s h.1 h.2
  · rw [pL_bad h, errN, if_neg h]
    exact hParseRBad s hs fun e => by
      cases hp : isPre s with
      | false => rfl
      | true => exact absurd ⟨e, hp⟩ h
theorem hBeginsR (a p : List UInt8) (ha : a.length = 32) (hp : p.length ≤ 9223372036854775807) : GPure Tryd.prog 19 [.agg (bytesG a), .str p] (.bool (decide ((textL a).take p.length = p))) := by
  have la := bytesG_len a
  have ta : List.take 32 (bytesG a) = bytesG a := List.take_of_length_le (by omega)
  have lt : (textL a).length = 64 := by rw [textL_len]; omega
  refine h19.pure mixS (by simp) ?_
  simp only [gstart, s19, List.cons_append, List.nil_append, List.length_cons, List.length_nil, Nat.reduceAdd, Nat.reduceSub, List.replicate_succ, List.replicate_zero]
  by_cases h : p.length ≤ 64
  · have d0 : ((p.length : Int) ≤ 64) = True := eq_true (by omega)
    simp +contextual -implicitDefEqProofs (maxSteps := 2000000) (disch := omega) only [↓lenV, binV, optV, ↓loadV, ↓boxV, ↓sliceV, bound, cutTag, hiTag, GVal.cells, grp, GVal.ofConst, ↓resV, resG, List.map, List.headD, List.take, List.drop, ↓reduceIte, Nat.reduceEqDiff, Nat.reduceAdd, Nat.reduceSub, Nat.reduceLeDiff, reduceCtorEq, implies_true, ne_eq, aggV, Tag.cap, List.replicate, allSolid, GVal.solid, Nat.reduceBEq, Nat.reduceMul, Nat.reduceLT, List.length_map, List.length_range, splice, vcA, ↓vcB, vcC, fbHxD, e19, ta, sol_bytes, d0]
    refine ⟨by omega, ?_⟩
    refine (hTextR a ha).then ?_ (by rfl)
    simp +contextual -implicitDefEqProofs (maxSteps := 2000000) (disch := omega) only [↓lenV, binV, optV, ↓loadV, ↓boxV, ↓sliceV, bound, cutTag, hiTag, GVal.cells, grp, GVal.ofConst, ↓resV, resG, List.map, List.headD, List.take, List.drop, ↓reduceIte, Nat.reduceEqDiff, Nat.reduceAdd, Nat.reduceSub, Nat.reduceLeDiff, reduceCtorEq, implies_true, ne_eq, aggV, Tag.cap, List.replicate, allSolid, GVal.solid, Nat.reduceBEq, Nat.reduceMul, Nat.reduceLT, List.length_map, List.length_range, splice, vcA, ↓vcB, vcC, fbHxD, e19, ta, sol_bytes, d0, lt, Int.toNat_zero, List.drop_zero]
    exact ⟨by omega, by omega, by rw [Bool.eq_iff_iff]; simp⟩
  · have d0 : ((p.length : Int) ≤ 64) = False := eq_false (by omega)
    have e : decide ((textL a).take p.length = p) = false := decide_eq_false fun e => by
      have := congrArg List.length e
      rw [List.length_take] at this; omega
    rw [e]
    simp +contextual -implicitDefEqProofs (maxSteps := 2000000) (disch := omega) only [↓lenV, binV, optV, ↓loadV, ↓boxV, ↓sliceV, bound, cutTag, hiTag, GVal.cells, grp, GVal.ofConst, ↓resV, resG, List.map, List.headD, List.take, List.drop, ↓reduceIte, Nat.reduceEqDiff, Nat.reduceAdd, Nat.reduceSub, Nat.reduceLeDiff, reduceCtorEq, implies_true, ne_eq, aggV, Tag.cap, List.replicate, allSolid, GVal.solid, Nat.reduceBEq, Nat.reduceMul, Nat.reduceLT, List.length_map, List.length_range, splice, vcA, ↓vcB, vcC, fbHxD, e19, ta, sol_bytes, d0]
    refine ⟨by omega, ?_⟩
    refine (hTextR a ha).then ?_ (by rfl)
    simp +contextual -implicitDefEqProofs (maxSteps := 2000000) (disch := omega) only [↓lenV, binV, optV, ↓loadV, ↓boxV, ↓sliceV, bound, cutTag, hiTag, GVal.cells, grp, GVal.ofConst, ↓resV, resG, List.map, List.headD, List.take, List.drop, ↓reduceIte, Nat.reduceEqDiff, Nat.reduceAdd, Nat.reduceSub, Nat.reduceLeDiff, reduceCtorEq, implies_true, ne_eq, aggV, Tag.cap, List.replicate, allSolid, GVal.solid, Nat.reduceBEq, Nat.reduceMul, Nat.reduceLT, List.length_map, List.length_range, splice, vcA, ↓vcB, vcC, fbHxD, e19, ta, sol_bytes, d0]
end Gv.Tryd
/- HexBack: the walk. -/
set_option linter.unusedVariables false
set_option linter.unusedSimpArgs false
set_option maxRecDepth 20000
set_option maxHeartbeats 4000000
namespace Gv.Tryd
open Go Gv Go.Proofs
theorem cells32 (a b : List UInt8) (ha : a.length = 32) (hb : b.length = 32) : cellsEq [Sk.int, Sk.int, Sk.int, Sk.int, Sk.int, Sk.int, Sk.int, Sk.int, Sk.int, Sk.int, Sk.int, Sk.int, Sk.int, Sk.int, Sk.int, Sk.int, Sk.int, Sk.int, Sk.int, Sk.int, Sk.int, Sk.int, Sk.int, Sk.int, Sk.int, Sk.int, Sk.int, Sk.int, Sk.int, Sk.int, Sk.int, Sk.int] (bytesG a) (bytesG b) = some (decide (a = b)) := cells_eq a b 32 ha hb
theorem drop32 (a : List UInt8) (ha : a.length = 32) : List.drop (bytesG a).length ([.int .u8 0, .int .u8 0, .int .u8 0, .int .u8 0, .int .u8 0, .int .u8 0, .int .u8 0, .int .u8 0, .int .u8 0, .int .u8 0, .int .u8 0, .int .u8 0, .int .u8 0, .int .u8 0, .int .u8 0, .int .u8 0, .int .u8 0, .int .u8 0, .int .u8 0, .int .u8 0, .int .u8 0, .int .u8 0, .int .u8 0, .int .u8 0, .int .u8 0, .int .u8 0, .int .u8 0, .int .u8 0, .int .u8 0, .int .u8 0, .int .u8 0, .int .u8 0] : List GVal) = [] := List.drop_of_length_le (by rw [bytesG_len, ha]; decide)
theorem begins_self {l : List UInt8} {k : Nat} : decide ((l).take (List.drop (Int.toNat 0) (List.take k l)).length = List.drop (Int.toNat 0) (List.take k l)) = true := by
  rw [Int.toNat_zero, List.drop_zero, List.length_take]
  simp [List.take_eq_take_min]
theorem begins_other {a b : List UInt8} (ha : a.length = 32) (hb : b.length = 32) : decide ((textL b).take (textL a).length = textL a) = decide (a = b) := by
  rw [List.take_of_length_le (by rw [textL_len, textL_len]; omega)]
  by_cases h : a = b
  · simp [h]
  · have : textL b ≠ textL a := fun e => h (textL_inj e).symm
    simp [h, this]
end Gv.Tryd
/- Contracts: reference Less, SameHashes, Hash. -/
set_option linter.unusedVariables false
set_option linter.unusedSimpArgs false
set_option maxRecDepth 20000
set_option maxHeartbeats 4000000
namespace Gv.Tryd
open Go Gv Go.Proofs
def h0 : Hs := ⟨List.replicate 32 0, by simp⟩
theorem hsG_len (l : List Hs) : (hsG l).length = l.length := by simp [hsG]
theorem hsG_at (l : List Hs) (i : Nat) (h : i < l.length) : (hsG l).getD i [] = bytesG (l.getD i h0).1 := by simp [hsG, List.getD, h]
theorem all_hsG (l : List Hs) : (∀ x ∈ hsG l, x.length = 32) = True := eq_true fun x hx => by obtain ⟨s, _, rfl⟩ := List.mem_map.1 hx; rw [bytesG_len, s.2]
theorem hsG_app (a b : List Hs) : hsG (a ++ b) = hsG a ++ hsG b := by simp [hsG]
theorem bytesG_at (l : List UInt8) (i : Nat) (h : i < l.length) : (bytesG l).getD i .any = .int .u8 (l.getD i 0).toNat := by simp [bytesG, List.getD, h]
theorem take_bytes (l : List UInt8) (n : Nat) : (bytesG l).take n = bytesG (l.take n) := by simp [bytesG, List.map_take]
theorem drop_bytes (l : List UInt8) (n : Nat) : (bytesG l).drop n = bytesG (l.drop n) := by simp [bytesG, List.map_drop]
theorem ltB_drop : ∀ (a b : List UInt8) (k : Nat), a.length = b.length → k < a.length → ltB (a.drop k) (b.drop k) = if (a.getD k 0) = (b.getD k 0) then ltB (a.drop (k + 1)) (b.drop (k + 1)) else decide (a.getD k 0 < b.getD k 0) := by
  intro a b k h hk
  have ea : a.drop k = a.getD k 0 :: a.drop (k + 1) := by rw [List.drop_eq_getElem_cons hk]; simp [List.getD, hk]
  have eb : b.drop k = b.getD k 0 :: b.drop (k + 1) := by rw [List.drop_eq_getElem_cons (by omega)]; simp [List.getD, (by omega : k < b.length)]
  rw [ea, eb]
  simp only [ltB]
theorem drop_cons0 {l : List UInt8} {k : Nat} (h : k < l.length) : l.drop k = l.getD k 0 :: l.drop (k + 1) := by
  rw [List.drop_eq_getElem_cons h]; simp [List.getD, h]
theorem hLessR (a b : List UInt8) (ha : a.length = 32) (hb : b.length = 32) : GPure Tryd.prog 21 [.agg (bytesG a), .agg (bytesG b)] (.bool (ltB a b)) := by
  refine h21.pure mixS (by simp) ?_
  simp only [gstart, s21, List.cons_append, List.nil_append, List.length_cons, List.length_nil, Nat.reduceAdd, Nat.reduceSub, List.replicate_succ, List.replicate_zero]
  have la := bytesG_len a
  have lb := bytesG_len b
  have ta : List.take 32 (bytesG a) = bytesG a := List.take_of_length_le (by omega)
  have tb : List.take 32 (bytesG b) = bytesG b := List.take_of_length_le (by omega)
  simp +contextual -implicitDefEqProofs (maxSteps := 2000000) (disch := omega) only [drawC, binV, ↓loadV, ↓indexAddrV, ↓boxV, GVal.cells, grp, GVal.ofConst, ↓resV, resG, List.map, List.headD, List.take, List.drop, ↓reduceIte, Nat.reduceEqDiff, Nat.reduceAdd, Nat.reduceSub, Nat.reduceLeDiff, reduceCtorEq, implies_true, ne_eq, aggV, Tag.cap, List.replicate, allSolid, GVal.solid, Nat.reduceBEq, Nat.reduceMul, Nat.reduceLT, List.length_map, List.length_range, splice, vcA, ↓vcB, vcC, fbHxD, e21, ta, tb, sol_bytes]
  refine vcSLoop_by (ι := { k : Nat // k ≤ 32 ∧ ltB (a.drop k) (b.drop k) = ltB a b }) (fun k => ⟨[.any, .any, .ref (bytesG a), .ref (bytesG b), .any, .int .i64 (k.1 : Nat)] ++ List.replicate 18 .any, []⟩) (fun k => 32 - k.1) ?_ ?_
  · exact Into.first ⟨0, by omega, by simp⟩ ⟨[], by simp⟩ (by simp [WL, leG_self, leG_any, leG_int])
  · rintro ⟨k, hk, he⟩
    by_cases h : k < 32
    · have d0 : ((k : Int) < 32) = True := eq_true (by omega)
      rw [ltB_drop a b k (by omega) (by omega)] at he
      obtain ⟨ra, ea⟩ : ∃ ra, List.drop (k * 1) (bytesG a) = .int .u8 (a.getD k 0).toNat :: ra :=
        ⟨bytesG (a.drop (k + 1)), by rw [Nat.mul_one, drop_bytes, drop_cons0 (by omega)]; rfl⟩
      obtain ⟨rb, eb⟩ : ∃ rb, List.drop (k * 1) (bytesG b) = .int .u8 (b.getD k 0).toNat :: rb :=
        ⟨bytesG (b.drop (k + 1)), by rw [Nat.mul_one, drop_bytes, drop_cons0 (by omega)]; rfl⟩
      obtain ⟨x, ex⟩ : ∃ x, a.getD k 0 = x := ⟨_, rfl⟩
      obtain ⟨y, ey⟩ : ∃ y, b.getD k 0 = y := ⟨_, rfl⟩
      rw [ex, ey] at he
      rw [ex] at ea
      rw [ey] at eb
      have ta1 : List.take 1 (List.drop (k * 1) (bytesG a)) = [.int .u8 x.toNat] := by rw [ea]; rfl
      have tb1 : List.take 1 (List.drop (k * 1) (bytesG b)) = [.int .u8 y.toNat] := by rw [eb]; rfl
      have la1 : (1 ≤ (List.drop (k * 1) (bytesG a)).length) = True := by rw [ea]; simp
      have lb1 : (1 ≤ (List.drop (k * 1) (bytesG b)).length) = True := by rw [eb]; simp
      have hx := x.toNat_lt
      have hy := y.toNat_lt
      simp +contextual -implicitDefEqProofs (maxSteps := 2000000) (disch := omega) only [drawC, binV, ↓loadV, ↓indexAddrV, ↓boxV, GVal.cells, grp, GVal.ofConst, ↓resV, resG, List.map, List.headD, List.take, List.drop, ↓reduceIte, Nat.reduceEqDiff, Nat.reduceAdd, Nat.reduceSub, Nat.reduceLeDiff, reduceCtorEq, implies_true, ne_eq, aggV, Tag.cap, List.replicate, allSolid, GVal.solid, Nat.reduceBEq, Nat.reduceMul, Nat.reduceLT, List.length_map, List.length_range, splice, vcA, ↓vcB, vcC, fbHxD, e21, d0, ta1, tb1, la1, lb1]
      refine ⟨by omega, by omega, by omega, by omega, fun c => ⟨by omega, by omega, by omega, by omega, ?_⟩, fun c => ?_⟩
      · rw [if_neg (fun e => c (by rw [e]))] at he
        rw [← he]
        exact decide_eq_decide.2 (by rw [UInt8.lt_iff_toNat_lt]; omega)
      · rw [if_pos (UInt8.toNat_inj.1 (by omega))] at he
        exact Into.at ⟨k + 1, by omega, he⟩ (by show _ < _; simp; omega) ⟨[], by simp⟩ (by simp [WL, leG_self, leG_any, leG_int])
    · have d0 : ((k : Int) < 32) = False := eq_false (by omega)
      rw [List.drop_of_length_le (by omega), List.drop_of_length_le (by omega)] at he
      simp +contextual -implicitDefEqProofs (maxSteps := 2000000) (disch := omega) only [drawC, binV, ↓loadV, ↓indexAddrV, ↓boxV, GVal.cells, grp, GVal.ofConst, ↓resV, resG, List.map, List.headD, List.take, List.drop, ↓reduceIte, Nat.reduceEqDiff, Nat.reduceAdd, Nat.reduceSub, Nat.reduceLeDiff, reduceCtorEq, implies_true, ne_eq, aggV, Tag.cap, List.replicate, allSolid, GVal.solid, Nat.reduceBEq, Nat.reduceMul, Nat.reduceLT, List.length_map, List.length_range, splice, vcA, ↓vcB, vcC, fbHxD, e21, d0, false_imp_iff, true_and]
      rw [← he]; rfl
theorem cellsEq_hs (a b : Hs) : cellsEq [Sk.int, Sk.int, Sk.int, Sk.int, Sk.int, Sk.int, Sk.int, Sk.int, Sk.int, Sk.int, Sk.int, Sk.int, Sk.int, Sk.int, Sk.int, Sk.int, Sk.int, Sk.int, Sk.int, Sk.int, Sk.int, Sk.int, Sk.int, Sk.int, Sk.int, Sk.int, Sk.int, Sk.int, Sk.int, Sk.int, Sk.int, Sk.int] (bytesG a.1) (bytesG b.1) = some (decide (a = b)) := by
  refine (cells32 a.1 b.1 a.2 b.2).trans ?_
  exact congrArg some (decide_eq_decide.2 ⟨Subtype.ext, fun h => by rw [h]⟩)
theorem take32 (a : Hs) : List.take 32 (bytesG a.1) = bytesG a.1 := List.take_of_length_le (by rw [bytesG_len, a.2]; omega)
theorem len32 (a : Hs) : (bytesG a.1).length = 32 := by rw [bytesG_len, a.2]
theorem takeH {l : List Hs} {k : Nat} (h : k < l.length) : l.take (k + 1) = l.take k ++ [l.getD k h0] := by
  rw [List.take_add_one]; simp [List.getD, h]
theorem dropH {l : List Hs} {k : Nat} (h : k < l.length) : l.drop k = l.getD k h0 :: l.drop (k + 1) := by
  rw [List.drop_eq_getElem_cons h]; simp [List.getD, h]
theorem norm_u8c (x : Int) : ∃ c : UInt8, norm .u8 x = (c.toNat : Int) := by
  have h : norm .u8 x = x % 256 := rfl
  refine ⟨UInt8.ofNat (x % 256).toNat, ?_⟩
  rw [h, UInt8.toNat_ofNat']
  omega
theorem six (m : Int) (h : 0 ≤ m) : ∃ c : UInt8, List.take 1 (List.drop ((m.tmod 6).toNat * 1) ([.int .u8 171, .int .u8 171, .int .u8 160, .int .u8 18, .int .u8 254, .int .u8 171] : List GVal)) = [.int .u8 c.toNat] := by
  have h1 := Int.tmod_nonneg 6 h
  have h2 := Int.tmod_lt_of_pos m (by decide : (0 : Int) < 6)
  have : (m.tmod 6).toNat < 6 := by omega
  generalize (m.tmod 6).toNat = k at *
  match k, this with
  | 0, _ => exact ⟨171, rfl⟩
  | 1, _ => exact ⟨171, rfl⟩
  | 2, _ => exact ⟨160, rfl⟩
  | 3, _ => exact ⟨18, rfl⟩
  | 4, _ => exact ⟨254, rfl⟩
  | 5, _ => exact ⟨171, rfl⟩
theorem hHash (n : Int) : ∃ f : Hs, GPure Tryd.prog 7 [.int .i64 n] (.agg (bytesG f.1)) := by
  have b1 := Int.emod_nonneg n (by decide : (60 : Int) ≠ 0)
  have b2 := Int.emod_lt_of_pos n (by decide : (0 : Int) < 60)
  obtain ⟨m, em⟩ : ∃ m, n % 60 = m := ⟨_, rfl⟩
  rw [em] at b1 b2
  obtain ⟨c, hc⟩ := six m b1
  obtain ⟨p, hp⟩ := norm_u8c (norm .i64 (norm .i64 (m.tdiv 6) * 16))
  obtain ⟨q, hq⟩ := norm_u8c (m * 7)
  obtain ⟨r, hr⟩ := norm_u8c m
  refine ⟨⟨c :: p :: q :: (List.replicate 28 0 ++ [r]), by simp⟩, ?_⟩
  have fin : bytesG (c :: p :: q :: (List.replicate 28 0 ++ [r])) = [.int .u8 c.toNat, .int .u8 p.toNat, .int .u8 q.toNat, .int .u8 0, .int .u8 0, .int .u8 0, .int .u8 0, .int .u8 0, .int .u8 0, .int .u8 0, .int .u8 0, .int .u8 0, .int .u8 0, .int .u8 0, .int .u8 0, .int .u8 0, .int .u8 0, .int .u8 0, .int .u8 0, .int .u8 0, .int .u8 0, .int .u8 0, .int .u8 0, .int .u8 0, .int .u8 0, .int .u8 0, .int .u8 0, .int .u8 0, .int .u8 0, .int .u8 0, .int .u8 0, .int .u8 r.toNat] := rfl
  rw [fin]
  refine h7.pure mixS (by simp) ?_
  simp only [gstart, s7, List.cons_append, List.nil_append, List.length_cons, List.length_nil, Nat.reduceAdd, Nat.reduceSub, List.replicate_succ, List.replicate_zero]
  simp +contextual -implicitDefEqProofs (maxSteps := 2000000) (disch := omega) only [binV, ↓convV, ↓loadV, ↓storeV, ↓indexAddrV, ↓indexV, ↓allocV, ↓buildV, fillG, place, GVal.cells, grp, GVal.ofConst, ↓resV, resG, List.map, List.headD, List.take, List.drop, ↓reduceIte, Nat.reduceEqDiff, Nat.reduceAdd, Nat.reduceSub, Nat.reduceLeDiff, reduceCtorEq, implies_true, ne_eq, Tag.cap, List.replicate, allSolid, GVal.solid, Nat.reduceBEq, Nat.reduceMul, Nat.reduceLT, List.length_map, List.length_range, splice, vcA, ↓vcB, vcC, fbHxD, e7]
  intro st
  refine (sPick n 60 (by omega) (by omega)).then ?_ (by rfl)
  have d6 := Int.tmod_nonneg 6 b1
  have d7 := Int.tmod_lt_of_pos m (by decide : (0 : Int) < 6)
  have t0 : Int.toNat 0 = 0 := rfl
  have t1 : Int.toNat 1 = 1 := rfl
  have t2 : Int.toNat 2 = 2 := rfl
  have t3 : Int.toNat 31 = 31 := rfl
  simp +contextual -implicitDefEqProofs (maxSteps := 2000000) (disch := omega) only [binV, ↓convV, ↓loadV, ↓storeV, ↓indexAddrV, ↓indexV, ↓allocV, ↓buildV, fillG, place, GVal.cells, grp, GVal.ofConst, ↓resV, resG, List.map, List.headD, List.take, List.drop, ↓reduceIte, Nat.reduceEqDiff, Nat.reduceAdd, Nat.reduceSub, Nat.reduceLeDiff, reduceCtorEq, implies_true, ne_eq, Tag.cap, List.replicate, allSolid, GVal.solid, Nat.reduceBEq, Nat.reduceMul, Nat.reduceLT, List.length_map, List.length_range, splice, vcA, ↓vcB, vcC, fbHxD, e7, em, hc, hp, hq, hr, t0, t1, t2, t3, Nat.zero_mul, List.cons_append, List.nil_append, List.length_cons, List.length_nil]
  exact fun st => ⟨by omega, d6, d7, by omega, by omega, by omega, by omega, by omega, by omega, by omega, by omega, by omega, by omega⟩
end Gv.Tryd
/- errors.As at a target of kind *api.Errno: Go's own text walked (after the worked example toyas). -/
namespace Gv.Tryd
open Go Go.Proofs Go.RowKit Go.Extern.Stop Go.Stop Go.Extern

/-- errors.As(nil, target). -/
theorem as_nil (t : Value) (w : World) :
    Calls Tryd.prog 23 #[.nilIface, t] w fun e w' => e = .returned (.bool false) ∧ w' = w := by
  go_enter Tryd.func23, Tryd.ntmps23
  go_wp2
  go_ret
  exact ⟨rfl, rfl⟩

/-! ### CLOSED FACTS ON THE MODEL's ENTRIES FOR internal/reflectlite, at this program's types: 25: *p.E · 27: **p.E · 23: error · 45: reflectlite's rtype · 1: how many package-level variables the dump has -/
theorem AsD.valueOf27 (t : Addr) (w : World) : (ReflectliteValue.unpack (.iface 48 (.pointer (some t)))).run Tryd.prog w
    = .ok (.agg #[.pointer (some ⟨2, 48, none⟩), .pointer (some ⟨w.heap.size, 0, none⟩), .int .u64 150]) (w.alloc (.cells #[.pointer (some t)] 48)) := by kernel_rfl
theorem AsD.type27 (a : Addr) (w : World) : (ReflectliteValue.methodAny (ReflectliteValue.valueError "reflectlite.Value.Type" 0) (fun t _ _ _ => ReflectliteType.toType t) #[.agg #[.pointer (some ⟨2, 48, none⟩), .pointer (some a), .int .u64 150]]).run Tryd.prog w
    = .ok (.iface 74 (.agg #[.pointer (some ⟨2, 48, none⟩)])) w := by kernel_rfl
theorem AsD.methodKind (h : Value) (w : World) : (Go.method 236 74 (.agg #[h]) "Kind").run Tryd.prog w = .ok (75, h) w := by kernel_rfl
theorem AsD.kind27 (w : World) : ((ReflectliteType.abiMethod fun t => (fun a : Nat => Value.int IntKind.u8 (a : Int)) <$> Rtype.kind t) #[.pointer (some ⟨2, 48, none⟩)]).run Tryd.prog w = .ok (.int .u8 22) w := by kernel_rfl
theorem AsD.kind25 (w : World) : ((ReflectliteType.abiMethod fun t => (fun a : Nat => Value.int IntKind.u8 (a : Int)) <$> Rtype.kind t) #[.pointer (some ⟨2, 32, none⟩)]).run Tryd.prog w = .ok (.int .u8 2) w := by kernel_rfl

/-! ### THE ENTRIES THAT READ OR WRITE MEMORY: laws with a premise on the cell (after Derived/Lib/ReflectliteSlice.lean's manner: each unfolding a lemma of its own, by rfl) -/
theorem rlm (z : Sem Value) (f : TypeId → Addr → Nat → Nat → Sem Value) (v : Value) :
    ReflectliteValue.method z f #[v] = (do match ← ReflectliteValue.parts v with | none => z | some (t, a, fl) => f t a fl (fl % 32)) := rfl
theorem AsD.parts27 (a : Addr) (w : World) : (ReflectliteValue.parts (.agg #[.pointer (some ⟨2, 48, none⟩), .pointer (some a), .int .u64 150])).run Tryd.prog w = .ok (some (48, a, 150)) w := by kernel_rfl
/-- (Value).IsNil at the Value of a **p.E that is not nil. -/
theorem AsD.isNil27 (a p : Addr) (W : World) (ha : W.cell? a = some (.pointer (some p))) :
    (ReflectliteValue.method (ReflectliteValue.valueError "reflectlite.Value.IsNil" 0) ReflectliteValue.isNil #[.agg #[.pointer (some ⟨2, 48, none⟩), .pointer (some a), .int .u64 150]]).run Tryd.prog W = .ok (.bool false) W := by
  rw [rlm]
  simp only [Sem.run_bind, AsD.parts27, Result.andThen]
  simp [ReflectliteValue.isNil, loadVar, isAgg, underlying, Tryd.underlying48, ha, Result.andThen]

theorem AsD.methodElem (h : Value) (w : World) : (Go.method 236 74 (.agg #[h]) "Elem").run Tryd.prog w = .ok (86, .agg #[h]) w := by kernel_rfl
theorem AsD.methodImplements (h : Value) (w : World) : (Go.method 236 74 (.agg #[h]) "Implements").run Tryd.prog w = .ok (87, .agg #[h]) w := by kernel_rfl
theorem AsD.methodAssignableTo (h : Value) (w : World) : (Go.method 236 74 (.agg #[h]) "AssignableTo").run Tryd.prog w = .ok (84, .agg #[h]) w := by kernel_rfl
theorem AsD.elem27 (w : World) : (ReflectliteType.method ReflectliteType.elem #[.agg #[.pointer (some ⟨2, 48, none⟩)]]).run Tryd.prog w = .ok (.iface 74 (.agg #[.pointer (some ⟨2, 32, none⟩)])) w := by kernel_rfl
theorem AsD.implements25 (w : World) : (ReflectliteType.relation "Implements" ReflectliteType.implements_ #[.agg #[.pointer (some ⟨2, 32, none⟩)], .iface 74 (.agg #[.pointer (some ⟨2, 29, none⟩)])]).run Tryd.prog w = .ok (.bool true) w := by kernel_rfl
theorem AsD.typeOf25 (v : Value) (w : World) : (ReflectliteType.typeOf #[.iface 32 v]).run Tryd.prog w = .ok (.iface 74 (.agg #[.pointer (some ⟨2, 32, none⟩)])) w := by kernel_rfl
theorem AsD.assignable25 (w : World) : (ReflectliteType.relation "AssignableTo" ReflectliteType.assignableTo #[.agg #[.pointer (some ⟨2, 32, none⟩)], .iface 74 (.agg #[.pointer (some ⟨2, 32, none⟩)])]).run Tryd.prog w = .ok (.bool true) w := by kernel_rfl
theorem AsD.valueOf25 (e : Int) (w : World) : (ReflectliteValue.unpack (.iface 32 (.int .i64 e))).run Tryd.prog w
    = .ok (.agg #[.pointer (some ⟨2, 32, none⟩), .pointer (some ⟨w.heap.size, 0, none⟩), .int .u64 130]) (w.alloc (.cells #[.int .i64 e] 32)) := by kernel_rfl

theorem AsD.elemOf27 (w : World) : (Rtype.elem? 48).run Tryd.prog w = .ok (some 32) w := by kernel_rfl
theorem AsD.mk25 (p : Addr) (w : World) : (ReflectliteValue.mk 32 p ReflectliteValue.flagAddr).run Tryd.prog w = .ok (.agg #[.pointer (some ⟨2, 32, none⟩), .pointer (some p), .int .u64 386]) w := by kernel_rfl
/-- (Value).Elem at the Value of a **p.E that is not nil: the Value of the *p.E variable that it points to, addressable. -/
theorem AsD.elemV27 (a p : Addr) (W : World) (ha : W.cell? a = some (.pointer (some p))) :
    (ReflectliteValue.method (ReflectliteValue.valueError "reflectlite.Value.Elem" 0) ReflectliteValue.elem #[.agg #[.pointer (some ⟨2, 48, none⟩), .pointer (some a), .int .u64 150]]).run Tryd.prog W
      = .ok (.agg #[.pointer (some ⟨2, 32, none⟩), .pointer (some p), .int .u64 386]) W := by
  rw [rlm]
  simp only [Sem.run_bind, AsD.parts27, Result.andThen]
  simp [ReflectliteValue.elem, loadVar, isAgg, underlying, Tryd.underlying48, ha, Result.andThen, AsD.elemOf27, AsD.mk25]
theorem rls (v x : Value) : ReflectliteValue.set #[v, x] = (do
    let (some (dst, a, fl), some (src, b, _)) := (← ReflectliteValue.parts v, ← ReflectliteValue.parts x)
      | unsupported (.noEntry "extern/(internal/reflectlite.Value).Set.zeroValue")
    if fl / ReflectliteValue.flagAddr % 2 == 0 then unsupported (.noEntry "extern/(internal/reflectlite.Value).Set.unaddressable")
    let val ← loadVar src b
    if ← Rtype.directlyAssignable dst src then storeVar dst a val
    else if ← Rtype.implements dst src then
      if (← Rtype.kind src) == 20 then
        match val with
        | .nilIface => unsupported (.noEntry "extern/reflectlite: a nil value of one interface type handed on as a value of another")
        | _ => storeVar dst a val
      else storeVar dst a (.iface src val)
    else panicString ("reflectlite.Set: value of type " ++ (← Rtype.spelt src) ++ " is not assignable to type " ++ (← Rtype.spelt dst))
    pure (.tuple #[])) := rfl
theorem AsD.parts25a (a : Addr) (w : World) : (ReflectliteValue.parts (.agg #[.pointer (some ⟨2, 32, none⟩), .pointer (some a), .int .u64 386])).run Tryd.prog w = .ok (some (32, a, 386)) w := by kernel_rfl
theorem AsD.parts25 (a : Addr) (w : World) : (ReflectliteValue.parts (.agg #[.pointer (some ⟨2, 32, none⟩), .pointer (some a), .int .u64 130])).run Tryd.prog w = .ok (some (32, a, 130)) w := by kernel_rfl
theorem AsD.direct25 (w : World) : (Rtype.directlyAssignable 32 32).run Tryd.prog w = .ok true w := by kernel_rfl
theorem AsD.size25 (w : World) : (Go.sizeOf 32).run Tryd.prog w = .ok 1 w := by kernel_rfl
/-- (Value).Set: the *p.E variable at 'ta' gets what the Value's own variable 'b' holds. -/
theorem AsD.set25 (ta b : Addr) (e : Int) (old : Value) (W : World) (hb : W.cell? b = some (.int .i64 e)) (ht : W.cell? ta = some old) (hf : W.frozen? ta = false) :
    (ReflectliteValue.set #[.agg #[.pointer (some ⟨2, 32, none⟩), .pointer (some ta), .int .u64 386], .agg #[.pointer (some ⟨2, 32, none⟩), .pointer (some b), .int .u64 130]]).run Tryd.prog W
      = .ok (.tuple #[]) (W.setCell ta (.int .i64 e)) := by
  rw [rls]
  simp only [Sem.run_bind, AsD.parts25a, AsD.parts25, Result.andThen]
  simp [ReflectliteValue.flagAddr, loadVar, isAgg, underlying, Tryd.underlying32, hb, Result.andThen, AsD.direct25, storeVar, Value.cells, storeCells, Addr.add]
  rw [run_store Tryd.prog W ta _ _ (by rfl)]
  simp [ht, hf]

set_option maxHeartbeats 4000000 in
theorem as_hit (e : Int) (t : Addr) (old : Value) (w : World) (hg : w.cell? ⟨0, 0, none⟩ = some (.iface 74 (.agg #[.pointer (some ⟨2, 29, none⟩)]))) (ht0 : w.cell? t = some old) (hf0 : w.frozen? t = false) :
    Calls Tryd.prog 23 #[.iface 32 (.int .i64 e), .iface 48 (.pointer (some t))] w fun ev w' => ev = .returned (.bool true) ∧ w' = ((((w.alloc (.cells #[.pointer (some t)] 48)).alloc (.cells #[.pointer (some ⟨2, 48, none⟩), .pointer (some ⟨w.heap.size, 0, none⟩), .int .u64 150] 61)).alloc (.cells #[.pointer (some ⟨2, 48, none⟩), .pointer (some ⟨w.heap.size, 0, none⟩), .int .u64 150] 61)).alloc (.cells #[.int .i64 e] 32)).setCell t (.int .i64 e) := by
  have h6 := @run_callFunc_extern Tryd.prog 32 _ (fun args => ReflectliteValue.unpack (args.getD 0 (.tuple #[]))) Tryd.func32 (by kernel_rfl) (by kernel_rfl) (by kernel_rfl) (by kernel_rfl)
  have h7 := @run_callFunc_extern Tryd.prog 33 _ (ReflectliteValue.methodAny (ReflectliteValue.valueError "reflectlite.Value.Type" 0) (fun t _ _ _ => ReflectliteType.toType t)) Tryd.func33 (by kernel_rfl) (by kernel_rfl) (by kernel_rfl) (by kernel_rfl)
  have h8 := @run_callFunc_extern Tryd.prog 34 _ (ReflectliteValue.method (ReflectliteValue.valueError "reflectlite.Value.IsNil" 0) ReflectliteValue.isNil) Tryd.func34 (by kernel_rfl) (by kernel_rfl) (by kernel_rfl) (by kernel_rfl)
  have h27 := @run_callFunc_extern Tryd.prog 75 _ (ReflectliteType.abiMethod fun t => do pure (.int .u8 (← Rtype.kind t))) Tryd.func75 (by kernel_rfl) (by kernel_rfl) (by kernel_rfl) (by kernel_rfl)
  have h37 := @run_callFunc_extern Tryd.prog 86 _ (ReflectliteType.method ReflectliteType.elem) Tryd.func86 (by kernel_rfl) (by kernel_rfl) (by kernel_rfl) (by kernel_rfl)
  have h38 := @run_callFunc_extern Tryd.prog 87 _ (ReflectliteType.relation "Implements" ReflectliteType.implements_) Tryd.func87 (by kernel_rfl) (by kernel_rfl) (by kernel_rfl) (by kernel_rfl)
  have h10 := @run_callFunc_extern Tryd.prog 41 _ ReflectliteType.typeOf Tryd.func41 (by kernel_rfl) (by kernel_rfl) (by kernel_rfl) (by kernel_rfl)
  have h35 := @run_callFunc_extern Tryd.prog 84 _ (ReflectliteType.relation "AssignableTo" ReflectliteType.assignableTo) Tryd.func84 (by kernel_rfl) (by kernel_rfl) (by kernel_rfl) (by kernel_rfl)
  have h11 := @run_callFunc_extern Tryd.prog 42 _ (ReflectliteValue.method (ReflectliteValue.valueError "reflectlite.Value.Elem" 0) ReflectliteValue.elem) Tryd.func42 (by kernel_rfl) (by kernel_rfl) (by kernel_rfl) (by kernel_rfl)
  have h12 := @run_callFunc_extern Tryd.prog 43 _ ReflectliteValue.set Tryd.func43 (by kernel_rfl) (by kernel_rfl) (by kernel_rfl) (by kernel_rfl)
  have tO := AsD.typeOf25
  have mA := AsD.methodAssignableTo
  have a25 := AsD.assignable25
  have v25 := AsD.valueOf25
  have f6 := AsD.valueOf27
  have f7 := AsD.type27
  have mK := AsD.methodKind
  have mE := AsD.methodElem
  have mI := AsD.methodImplements
  have k27 := AsD.kind27
  have k25 := AsD.kind25
  have e27 := AsD.elem27
  have i25 := AsD.implements25
  have n8 := AsD.isNil27 ⟨w.heap.size, 0, none⟩ t ((w.alloc (.cells #[.pointer (some t)] 48)).alloc (.cells #[.pointer (some ⟨2, 48, none⟩), .pointer (some ⟨w.heap.size, 0, none⟩), .int .u64 150] 61)) (by simp)
  have hlt : 0 < w.heap.size := by
    rcases Nat.eq_zero_or_pos w.heap.size with h0 | h
    · simp [World.cell?, h0] at hg
    · exact h
  have hg2 : ((w.alloc (.cells #[.pointer (some t)] 48)).alloc (.cells #[.pointer (some ⟨2, 48, none⟩), .pointer (some ⟨w.heap.size, 0, none⟩), .int .u64 150] 61)).cell? ⟨0, 0, none⟩ = some (.iface 74 (.agg #[.pointer (some ⟨2, 29, none⟩)])) := by
    rw [World.cell?_alloc_lt _ _ ⟨0, 0, none⟩ (by simp), World.cell?_alloc_lt _ _ ⟨0, 0, none⟩ hlt]; exact hg
  have htl : t.block < w.heap.size := by
    rcases Nat.lt_or_ge t.block w.heap.size with h | h
    · exact h
    · simp [World.cell?, Array.getElem?_eq_none h] at ht0
  have el := AsD.elemV27 ⟨w.heap.size, 0, none⟩ t (((w.alloc (.cells #[.pointer (some t)] 48)).alloc (.cells #[.pointer (some ⟨2, 48, none⟩), .pointer (some ⟨w.heap.size, 0, none⟩), .int .u64 150] 61)).alloc (.cells #[.pointer (some ⟨2, 48, none⟩), .pointer (some ⟨w.heap.size, 0, none⟩), .int .u64 150] 61)) (by rw [World.cell?_alloc_lt _ _ ⟨w.heap.size, 0, none⟩ (by simp; omega)]; simp)
  have st := AsD.set25 t ⟨w.heap.size + 1 + 1 + 1, 0, none⟩ e old ((((w.alloc (.cells #[.pointer (some t)] 48)).alloc (.cells #[.pointer (some ⟨2, 48, none⟩), .pointer (some ⟨w.heap.size, 0, none⟩), .int .u64 150] 61)).alloc (.cells #[.pointer (some ⟨2, 48, none⟩), .pointer (some ⟨w.heap.size, 0, none⟩), .int .u64 150] 61)).alloc (.cells #[.int .i64 e] 32))
    (by rw [World.cell?_alloc_at _ _ _ _ (by simp)]; rfl)
    (by rw [World.cell?_alloc_lt _ _ t (by simp; omega), World.cell?_alloc_lt _ _ t (by simp; omega), World.cell?_alloc_lt _ _ t (by simp; omega), World.cell?_alloc_lt _ _ t htl]; exact ht0)
    (by rw [World.frozen?_alloc_old _ _ t (by simp; omega), World.frozen?_alloc_old _ _ t (by simp; omega), World.frozen?_alloc_old _ _ t (by simp; omega), World.frozen?_alloc_old _ _ t (Nat.ne_of_lt htl)]; exact hf0)
  go_enter Tryd.func23, Tryd.ntmps23
  go_wp2
  refine wp_loop_rounds 1 ?_
  rw [rounds_succ]
  go_wp2
  go_ret
  exact ⟨rfl, rfl⟩
end Gv.Tryd
/- Kind of an error: nil, or an api.Errno. -/
set_option linter.unusedVariables false
namespace Gv.Tryd
open Go Go.Proofs Go.RowKit
theorem kind_nil (w : World) : Calls Tryd.prog 14 #[.nilIface] w fun e w' => e = .returned (.int .i64 0) ∧ w' = w := by
  go_enter Tryd.func14, Tryd.ntmps14
  go_wp2
  go_ret
  exact ⟨rfl, rfl⟩
theorem as_hitB (e : Int) (t : Addr) (old : Value) (w : World) (hg : w.cell? ⟨0, 0, none⟩ = some (.iface 74 (.agg #[.pointer (some ⟨2, 29, none⟩)]))) (ht0 : w.cell? t = some old) (hf0 : w.frozen? t = false) :
    Calls Tryd.prog 23 #[.iface 32 (.int .i64 e), .iface 48 (.pointer (some t))] w fun ev w' => ev = .returned (.bool true) ∧ w'.cell? t = some (.int .i64 e) ∧ Below t.block w w' := by
  have htl : t.block < w.heap.size := by
    rcases Nat.lt_or_ge t.block w.heap.size with h | h
    · exact h
    · simp [World.cell?, Array.getElem?_eq_none h] at ht0
  refine (as_hit e t old w hg ht0 hf0).mono ?_
  rintro ev w' ⟨rfl, rfl⟩
  have b0 : Below t.block w w := Below.refl _ _
  refine ⟨rfl, ?_, (((((b0.alloc (by omega) _).alloc (by simp; omega) _).alloc (by simp; omega) _).alloc (by simp; omega) _).setCell (Nat.le_refl _) _)⟩
  refine World.cell?_setCell_same _ t _ (u := old) ?_
  rw [World.cell?_alloc_lt _ _ t (by simp; omega), World.cell?_alloc_lt _ _ t (by simp; omega), World.cell?_alloc_lt _ _ t (by simp; omega), World.cell?_alloc_lt _ _ t htl]; exact ht0
set_option maxRecDepth 20000 in
set_option maxHeartbeats 4000000 in
theorem kind_hit (n : Int) (w : World) (hg : w.cell? ⟨0, 0, none⟩ = some (.iface 74 (.agg #[.pointer (some ⟨2, 29, none⟩)]))) :
    Calls Tryd.prog 14 #[.iface 32 (.int .i64 n)] w fun e w' => e = .returned (.int .i64 n) ∧ Below w.heap.size w w' := by
  have hlt : 0 < w.heap.size := by
    rcases Nat.eq_zero_or_pos w.heap.size with h0 | h
    · simp [World.cell?, h0] at hg
    · exact h
  have ht := as_hitB n ⟨w.heap.size, 0, none⟩ (.int .i64 0) (w.alloc (.cells #[.int .i64 0] 32)) (by rw [World.cell?_alloc_lt _ _ ⟨0, 0, none⟩ hlt]; exact hg) (by simp) (by simp)
  go_enter Tryd.func14, Tryd.ntmps14
  go_wp2_with (go_at_call 23; refine ht.mono ?_; rintro e w' ⟨rfl, hc, hb⟩)
  go_ret
  exact ⟨rfl, ((Below.refl _ w).alloc (Nat.le_refl _) _).trans hb⟩
end Gv.Tryd
/- Kind of an error: the contracts. -/
set_option linter.unusedVariables false
namespace Gv.Tryd
open Go Gv Go.Proofs Go.RowKit
theorem glob_cell {E : Env} {O : List GObj} {w : World} (h : HSim E O w) : w.cell? ⟨0, 0, none⟩ = some (.iface 74 (.agg #[.pointer (some ⟨2, 29, none⟩)])) :=
  h.sealed _ _ _ (h.glob (0, 0, .iface 74 (.agg #[.pointer (some ⟨2, 29, none⟩)])) (by simp [globs]))
theorem args_one {E : Env} {vs : Array Value} {g : GVal} (h : ArgsR E vs [g]) : ∃ v, vs = #[v] ∧ VR E v g := by
  obtain ⟨h1, h2⟩ := h
  have h3 := h2 0 _ rfl
  refine ⟨vs.getD 0 undef, ?_, h3⟩
  apply Array.ext (by simpa using h1)
  intro i hi hi2
  simp at hi2; subst hi2
  simp [Array.getD, hi]
theorem hKindNil : GPure Tryd.prog 14 [.lit .nilIface] (.int .i64 0) :=
  GPure.ofBelow (by kernel_rfl) fun E w vs hs ha => by
    obtain ⟨v, rfl, hv⟩ := args_one ha
    cases hv
    exact (kind_nil w).mono fun e w' ⟨h1, h2⟩ => ⟨_, h1, by rw [h2]; exact Below.refl _ _, .int _ _⟩
theorem hKindErr (n : Int) : GPure Tryd.prog 14 [.iface 32 (.int .i64 n)] (.int .i64 n) :=
  GPure.ofBelow (by kernel_rfl) fun E w vs hs ha => by
    obtain ⟨v, rfl, hv⟩ := args_one ha
    cases hv with
    | iface t v g h =>
      cases h
      exact (kind_hit n w (glob_cell hs)).mono fun e w' ⟨h1, h2⟩ => ⟨_, h1, h2, .int _ _⟩
end Gv.Tryd
/- Kind's contracts, under this name. -/
/- HexDigits: the walk. -/
set_option linter.unusedVariables false
set_option linter.unusedSimpArgs false
set_option maxRecDepth 20000
set_option maxHeartbeats 4000000
namespace Gv.Tryd
open Go Gv Go.Proofs
theorem hKindA (s : List UInt8) : GPure Tryd.prog 14 [errG s] (.int .i64 (errN s)) := by
  unfold errG errN
  split
  · exact hKindNil
  · exact hKindErr 2
/-- a text with one byte turned -/
def turnT (t : List UInt8) (k : Nat) (c : UInt8) : List UInt8 := t.take k ++ [c] ++ t.drop (k + 1)
theorem spec3 (c : UInt8) (n at_ : Int) : GPure Tryd.prog 3 [.int .u8 c.toNat, .int .i64 n, .int .i64 at_] (.bool true) := by
  have b1 := Int.emod_nonneg at_ (by decide : (64 : Int) ≠ 0)
  have b2 := Int.emod_lt_of_pos at_ (by decide : (0 : Int) < 64)
  obtain ⟨f, hf⟩ := hHash n
  have lt : (textL f.1).length = 64 := by rw [textL_len, f.2]
  have hc := byte_le c
  have lp : ∀ s, (pL s).length = 32 := pL_len
  refine h3.pure mixS (by simp) ?_
  simp only [gstart, s3, List.cons_append, List.nil_append, List.length_cons, List.length_nil, Nat.reduceAdd, Nat.reduceSub, List.replicate_succ, List.replicate_zero]
  simp +contextual -implicitDefEqProofs (maxSteps := 2000000) (disch := omega) only [drawC, binV, ↓convV, optV, ↓loadV, ↓storeV, ↓allocV, ↓buildSliceV, ↓sliceV, bound, cutTag, hiTag, fillE, GVal.cells, grp, GVal.ofConst, ↓resV, resG, List.map, List.headD, List.take, List.drop, ↓reduceIte, Nat.reduceEqDiff, Nat.reduceAdd, Nat.reduceSub, Nat.reduceLeDiff, reduceCtorEq, implies_true, ne_eq, aggV, Tag.cap, List.replicate, allSolid, GVal.solid, Nat.reduceBEq, Nat.reduceMul, Nat.reduceLT, List.length_map, List.length_range, splice, vcA, ↓vcB, vcC, fbHxD, e3]
  refine hf.then ?_ (by rfl)
  simp +contextual -implicitDefEqProofs (maxSteps := 2000000) (disch := omega) only [drawC, binV, ↓convV, optV, ↓loadV, ↓storeV, ↓allocV, ↓buildSliceV, ↓sliceV, bound, cutTag, hiTag, fillE, GVal.cells, grp, GVal.ofConst, ↓resV, resG, List.map, List.headD, List.take, List.drop, ↓reduceIte, Nat.reduceEqDiff, Nat.reduceAdd, Nat.reduceSub, Nat.reduceLeDiff, reduceCtorEq, implies_true, ne_eq, aggV, Tag.cap, List.replicate, allSolid, GVal.solid, Nat.reduceBEq, Nat.reduceMul, Nat.reduceLT, List.length_map, List.length_range, splice, vcA, ↓vcB, vcC, fbHxD, e3]
  refine (hTextR f.1 f.2).then ?_ (by rfl)
  generalize textL f.1 = T at *
  simp +contextual -implicitDefEqProofs (maxSteps := 2000000) (disch := omega) only [drawC, binV, ↓convV, optV, ↓loadV, ↓storeV, ↓allocV, ↓buildSliceV, ↓sliceV, bound, cutTag, hiTag, fillE, GVal.cells, grp, GVal.ofConst, ↓resV, resG, List.map, List.headD, List.take, List.drop, ↓reduceIte, Nat.reduceEqDiff, Nat.reduceAdd, Nat.reduceSub, Nat.reduceLeDiff, reduceCtorEq, implies_true, ne_eq, aggV, Tag.cap, List.replicate, allSolid, GVal.solid, Nat.reduceBEq, Nat.reduceMul, Nat.reduceLT, List.length_map, List.length_range, splice, vcA, ↓vcB, vcC, fbHxD, e3]
  refine (sPick at_ 64 (by omega) (by omega)).then ?_ (by rfl)
  obtain ⟨k, ek⟩ := Int.eq_ofNat_of_zero_le b1
  rw [ek] at b2 ⊢
  have z1 : ((k : Int) + 1).toNat = k + 1 := by omega
  have z0 : Int.toNat 0 = 0 := rfl
  have bb : bytesOfG [[.int .u8 (c.toNat : Int)]] = some [c] := by
    simp [bytesOfG, hc]
  simp +contextual -implicitDefEqProofs (maxSteps := 2000000) (disch := omega) only [drawC, binV, ↓convV, optV, ↓loadV, ↓storeV, ↓allocV, ↓buildSliceV, ↓sliceV, bound, cutTag, hiTag, fillE, GVal.cells, grp, GVal.ofConst, ↓resV, resG, List.map, List.headD, List.take, List.drop, ↓reduceIte, Nat.reduceEqDiff, Nat.reduceAdd, Nat.reduceSub, Nat.reduceLeDiff, reduceCtorEq, implies_true, ne_eq, aggV, Tag.cap, List.replicate, allSolid, GVal.solid, Nat.reduceBEq, Nat.reduceMul, Nat.reduceLT, List.length_map, List.length_range, splice, vcA, ↓vcB, vcC, fbHxD, e3, lt, z1, z0, bb, Int.toNat_natCast, List.drop_zero, List.length_append]
  have l1 : (List.take k T).length = k := by rw [List.length_take]; omega
  have l2 : List.take (Int.toNat 64) T = T := List.take_of_length_le (by rw [lt]; decide)
  have l3 : (List.drop (k + 1) T).length = 63 - k := by rw [List.length_drop]; omega
  rw [l2, l1, l3]
  refine ⟨by omega, by omega, by omega, by omega, by omega, by omega, by omega, by omega, ?_⟩
  have lz : (List.take k T ++ [c] ++ List.drop (k + 1) T).length = 64 := by rw [List.length_append, List.length_append, l1, l3]; simp; omega
  generalize List.take k T ++ [c] ++ List.drop (k + 1) T = Z at *
  have lpZ := pL_len Z
  have tp : List.take 32 (bytesG (pL Z)) = bytesG (pL Z) := List.take_of_length_le (by rw [bytesG_len, lpZ]; omega)
  have lb := bytesG_len (pL Z)
  refine (hParseA Z (by omega)).then ?_ (by rfl)
  simp +contextual -implicitDefEqProofs (maxSteps := 2000000) (disch := omega) only [drawC, binV, ↓convV, optV, ↓loadV, ↓storeV, ↓allocV, ↓buildSliceV, ↓sliceV, bound, cutTag, hiTag, fillE, GVal.cells, grp, GVal.ofConst, ↓resV, resG, List.map, List.headD, List.take, List.drop, ↓reduceIte, Nat.reduceEqDiff, Nat.reduceAdd, Nat.reduceSub, Nat.reduceLeDiff, reduceCtorEq, implies_true, ne_eq, aggV, Tag.cap, List.replicate, allSolid, GVal.solid, Nat.reduceBEq, Nat.reduceMul, Nat.reduceLT, List.length_map, List.length_range, splice, vcA, ↓vcB, vcC, fbHxD, e3, tp, sol_bytes, drop32 (pL Z) lpZ, List.append_nil, lb, lpZ]
  intro st
  refine (hParseRA Z (by omega)).then ?_ (by rfl)
  simp +contextual -implicitDefEqProofs (maxSteps := 2000000) (disch := omega) only [drawC, binV, ↓convV, optV, ↓loadV, ↓storeV, ↓allocV, ↓buildSliceV, ↓sliceV, bound, cutTag, hiTag, fillE, GVal.cells, grp, GVal.ofConst, ↓resV, resG, List.map, List.headD, List.take, List.drop, ↓reduceIte, Nat.reduceEqDiff, Nat.reduceAdd, Nat.reduceSub, Nat.reduceLeDiff, reduceCtorEq, implies_true, ne_eq, aggV, Tag.cap, List.replicate, allSolid, GVal.solid, Nat.reduceBEq, Nat.reduceMul, Nat.reduceLT, List.length_map, List.length_range, splice, vcA, ↓vcB, vcC, fbHxD, e3, tp, sol_bytes, drop32 (pL Z) lpZ, List.append_nil, lb, lpZ]
  intro st1
  refine hKnown.then ?_ (by rfl)
  simp +contextual -implicitDefEqProofs (maxSteps := 2000000) (disch := omega) only [drawC, binV, ↓convV, optV, ↓loadV, ↓storeV, ↓allocV, ↓buildSliceV, ↓sliceV, bound, cutTag, hiTag, fillE, GVal.cells, grp, GVal.ofConst, ↓resV, resG, List.map, List.headD, List.take, List.drop, ↓reduceIte, Nat.reduceEqDiff, Nat.reduceAdd, Nat.reduceSub, Nat.reduceLeDiff, reduceCtorEq, implies_true, ne_eq, aggV, Tag.cap, List.replicate, allSolid, GVal.solid, Nat.reduceBEq, Nat.reduceMul, Nat.reduceLT, List.length_map, List.length_range, splice, vcA, ↓vcB, vcC, fbHxD, e3, tp, sol_bytes, drop32 (pL Z) lpZ, List.append_nil, lb, lpZ]
  refine (hDigit c.toNat hc).then ?_ (by rfl)
  simp +contextual -implicitDefEqProofs (maxSteps := 2000000) (disch := omega) only [drawC, binV, ↓convV, optV, ↓loadV, ↓storeV, ↓allocV, ↓buildSliceV, ↓sliceV, bound, cutTag, hiTag, fillE, GVal.cells, grp, GVal.ofConst, ↓resV, resG, List.map, List.headD, List.take, List.drop, ↓reduceIte, Nat.reduceEqDiff, Nat.reduceAdd, Nat.reduceSub, Nat.reduceLeDiff, reduceCtorEq, implies_true, ne_eq, aggV, Tag.cap, List.replicate, allSolid, GVal.solid, Nat.reduceBEq, Nat.reduceMul, Nat.reduceLT, List.length_map, List.length_range, splice, vcA, ↓vcB, vcC, fbHxD, e3, tp, sol_bytes, drop32 (pL Z) lpZ, List.append_nil, lb, lpZ]
  refine (hDigitR c.toNat hc).then ?_ (by rfl)
  simp +contextual -implicitDefEqProofs (maxSteps := 2000000) (disch := omega) only [drawC, binV, ↓convV, optV, ↓loadV, ↓storeV, ↓allocV, ↓buildSliceV, ↓sliceV, bound, cutTag, hiTag, fillE, GVal.cells, grp, GVal.ofConst, ↓resV, resG, List.map, List.headD, List.take, List.drop, ↓reduceIte, Nat.reduceEqDiff, Nat.reduceAdd, Nat.reduceSub, Nat.reduceLeDiff, reduceCtorEq, implies_true, ne_eq, aggV, Tag.cap, List.replicate, allSolid, GVal.solid, Nat.reduceBEq, Nat.reduceMul, Nat.reduceLT, List.length_map, List.length_range, splice, vcA, ↓vcB, vcC, fbHxD, e3, tp, sol_bytes, drop32 (pL Z) lpZ, List.append_nil, lb, lpZ, cells32 (pL Z) (pL Z) lpZ lpZ]
  have vcs : (errN Z == errN Z) = true := by simp
  refine (hKindA Z).then ?_ (by rfl)
  simp +contextual -implicitDefEqProofs (maxSteps := 2000000) (disch := omega) only [drawC, binV, ↓convV, optV, ↓loadV, ↓storeV, ↓allocV, ↓buildSliceV, ↓sliceV, bound, cutTag, hiTag, fillE, GVal.cells, grp, GVal.ofConst, ↓resV, resG, List.map, List.headD, List.take, List.drop, ↓reduceIte, Nat.reduceEqDiff, Nat.reduceAdd, Nat.reduceSub, Nat.reduceLeDiff, reduceCtorEq, implies_true, ne_eq, aggV, Tag.cap, List.replicate, allSolid, GVal.solid, Nat.reduceBEq, Nat.reduceMul, Nat.reduceLT, List.length_map, List.length_range, splice, vcA, ↓vcB, vcC, fbHxD, e3, vcs]
  refine (hIsPrefix Z (by omega)).then ?_ (by rfl)
  simp +contextual -implicitDefEqProofs (maxSteps := 2000000) (disch := omega) only [drawC, binV, ↓convV, optV, ↓loadV, ↓storeV, ↓allocV, ↓buildSliceV, ↓sliceV, bound, cutTag, hiTag, fillE, GVal.cells, grp, GVal.ofConst, ↓resV, resG, List.map, List.headD, List.take, List.drop, ↓reduceIte, Nat.reduceEqDiff, Nat.reduceAdd, Nat.reduceSub, Nat.reduceLeDiff, reduceCtorEq, implies_true, ne_eq, aggV, Tag.cap, List.replicate, allSolid, GVal.solid, Nat.reduceBEq, Nat.reduceMul, Nat.reduceLT, List.length_map, List.length_range, splice, vcA, ↓vcB, vcC, fbHxD, e3, vcs]
  refine (hIsPrefixR Z (by omega)).then ?_ (by rfl)
  have vcb : (isPre Z == isPre Z) = true := by simp
  simp +contextual -implicitDefEqProofs (maxSteps := 2000000) (disch := omega) only [drawC, binV, ↓convV, optV, ↓loadV, ↓storeV, ↓allocV, ↓buildSliceV, ↓sliceV, bound, cutTag, hiTag, fillE, GVal.cells, grp, GVal.ofConst, ↓resV, resG, List.map, List.headD, List.take, List.drop, ↓reduceIte, Nat.reduceEqDiff, Nat.reduceAdd, Nat.reduceSub, Nat.reduceLeDiff, reduceCtorEq, implies_true, ne_eq, aggV, Tag.cap, List.replicate, allSolid, GVal.solid, Nat.reduceBEq, Nat.reduceMul, Nat.reduceLT, List.length_map, List.length_range, splice, vcA, ↓vcB, vcC, fbHxD, e3, vcb]
end Gv.Tryd
/- Contracts: reference Put, Sort. -/
set_option linter.unusedVariables false
set_option linter.unusedSimpArgs false
set_option maxRecDepth 20000
set_option maxHeartbeats 4000000
namespace Gv.Tryd
open Go Gv Go.Proofs
def idxH : List Hs → Hs → Nat
  | [], _ => 0
  | x :: r, h => if ltB x.1 h.1 = true then idxH r h + 1 else 0
def putH (l : List Hs) (h : Hs) : List Hs :=
  if idxH l h < l.length ∧ l.getD (idxH l h) h0 = h then l else l.take (idxH l h) ++ [h] ++ l.drop (idxH l h)
theorem idxH_le : ∀ (l : List Hs) (h : Hs), idxH l h ≤ l.length
  | [], _ => Nat.le_refl _
  | x :: r, h => by
    unfold idxH; split
    · have := idxH_le r h; simp; omega
    · simp
theorem take_hs (l : List Hs) (n : Nat) : (hsG l).take n = hsG (l.take n) := by simp [hsG, List.map_take]
theorem drop_hs (l : List Hs) (n : Nat) : (hsG l).drop n = hsG (l.drop n) := by simp [hsG, List.map_drop]
theorem takeAll (l : List Hs) : List.take l.length (hsG l) = hsG l := List.take_of_length_le (by rw [hsG_len]; exact Nat.le_refl _)
theorem toNat0 : Int.toNat 0 = 0 := rfl
theorem if32 {α : Type} (a : Hs) (x y : α) : (if (bytesG a.1).length = 32 then x else y) = x := if_pos (len32 a)
theorem one32 (a : Hs) : (∀ y ∈ [bytesG a.1], y.length = 32) = True := eq_true (by simp [len32])
theorem idxH_cons (x : Hs) (r : List Hs) (h : Hs) : idxH (x :: r) h = if ltB x.1 h.1 = true then idxH r h + 1 else 0 := rfl
theorem put_fin {l : List Hs} {h : Hs} {k : Nat} (e : k = idxH l h) (n : ¬ (idxH l h < l.length ∧ l.getD (idxH l h) h0 = h)) :
    hsG (List.take k l) ++ [bytesG h.1] ++ hsG (List.drop k (List.take l.length l)) = hsG (putH l h) := by
  unfold putH
  rw [if_neg n, List.take_length, e, hsG_app, hsG_app]; rfl
theorem putH_len (l : List Hs) (h : Hs) : (putH l h).length ≤ l.length + 1 := by
  unfold putH; split
  · omega
  · simp; omega
def sortR (l : List Hs) : List Hs := l.foldl putH []
end Gv.Tryd
/- Hashes in order, each once: the plain theory. -/
set_option linter.unusedVariables false
namespace Gv.Tryd
open Go Gv Go.Proofs
abbrev LT (a b : Hs) : Prop := ltB a.1 b.1 = true
abbrev SS (l : List Hs) : Prop := l.Pairwise LT
theorem LT.trans {a b c : Hs} (h : LT a b) (k : LT b c) : LT a c := ltB_trans (by rw [a.2, b.2]) (by rw [b.2, c.2]) h k
theorem LT.irrefl (a : Hs) : ¬ LT a a := by unfold LT; rw [ltB_irrefl]; simp
theorem LT.total {a b : Hs} (h : ltB a.1 b.1 = false) (n : a ≠ b) : LT b a := by
  cases e : ltB b.1 a.1 with
  | true => exact e
  | false => exact absurd (Subtype.ext (ltB_total (by rw [a.2, b.2]) h e)) n
theorem putH_nil (h : Hs) : putH [] h = [h] := by simp [putH]
theorem putH_cons (x : Hs) (r : List Hs) (h : Hs) : putH (x :: r) h = if LT x h then x :: putH r h else if x = h then x :: r else h :: x :: r := by
  unfold putH
  rw [idxH_cons]
  by_cases c : LT x h
  · rw [if_pos c, if_pos c]
    simp only [List.length_cons, List.getD_cons_succ, Nat.add_lt_add_iff_right, List.take_succ_cons, List.drop_succ_cons, List.cons_append]
    split <;> rfl
  · rw [if_neg c, if_neg c]
    simp
theorem putH_mem : ∀ (l : List Hs) (h z : Hs), z ∈ putH l h ↔ z ∈ l ∨ z = h
  | [], h, z => by rw [putH_nil]; simp
  | x :: r, h, z => by
    rw [putH_cons]
    have := putH_mem r h z
    split
    · simp only [List.mem_cons, this, or_assoc]
    · split
      · rename_i e; subst e; simp only [List.mem_cons]
        constructor
        · exact .inl
        · rintro (h | h)
          · exact h
          · exact .inl h
      · simp only [List.mem_cons]
        constructor
        · rintro (h | h)
          · exact .inr h
          · exact .inl h
        · rintro (h | h)
          · exact .inr h
          · exact .inl h
theorem putH_ss : ∀ {l : List Hs} (h : Hs), SS l → SS (putH l h)
  | [], h, _ => by rw [putH_nil]; simp [SS]
  | x :: r, h, hs => by
    rw [putH_cons]
    obtain ⟨h1, h2⟩ := List.pairwise_cons.1 hs
    split
    · rename_i c
      refine List.pairwise_cons.2 ⟨fun z hz => ?_, putH_ss h h2⟩
      rcases (putH_mem r h z).1 hz with h3 | rfl
      · exact h1 z h3
      · exact c
    · rename_i c
      split
      · exact hs
      · rename_i n
        have c' : ltB x.1 h.1 = false := by cases e : ltB x.1 h.1 with | true => exact absurd e c | false => rfl
        have hx := LT.total c' n
        refine List.pairwise_cons.2 ⟨fun z hz => ?_, hs⟩
        rcases List.mem_cons.1 hz with rfl | h3
        · exact hx
        · exact hx.trans (h1 z h3)
theorem foldl_put : ∀ (l acc : List Hs), SS acc → SS (l.foldl putH acc) ∧ ∀ z, z ∈ l.foldl putH acc ↔ z ∈ l ∨ z ∈ acc
  | [], acc, h => ⟨h, by simp⟩
  | x :: r, acc, h => by
    obtain ⟨h1, h2⟩ := foldl_put r (putH acc x) (putH_ss x h)
    refine ⟨h1, fun z => ?_⟩
    rw [List.foldl_cons, h2, putH_mem, List.mem_cons]
    constructor
    · rintro (h | h | h)
      · exact .inl (.inr h)
      · exact .inr h
      · exact .inl (.inl h)
    · rintro ((h | h) | h)
      · exact .inr (.inr h)
      · exact .inl h
      · exact .inr (.inl h)
theorem sortR_ss (l : List Hs) : SS (sortR l) := (foldl_put l [] List.Pairwise.nil).1
theorem sortR_mem (l : List Hs) (z : Hs) : z ∈ sortR l ↔ z ∈ l := by
  have := (foldl_put l [] List.Pairwise.nil).2 z
  simpa [sortR] using this
theorem ss_eq : ∀ {a b : List Hs}, SS a → SS b → (∀ z, z ∈ a ↔ z ∈ b) → a = b
  | [], b, _, _, h => by
    cases b with
    | nil => rfl
    | cons y s => exact absurd ((h y).2 (by simp)) (by simp)
  | x :: r, [], _, _, h => absurd ((h x).1 (by simp)) (by simp)
  | x :: r, y :: s, ha, hb, h => by
    obtain ⟨a1, a2⟩ := List.pairwise_cons.1 ha
    obtain ⟨b1, b2⟩ := List.pairwise_cons.1 hb
    have e : x = y := by
      rcases List.mem_cons.1 ((h x).1 (by simp)) with e | hx
      · exact e
      · rcases List.mem_cons.1 ((h y).2 (by simp)) with e | hy
        · exact e.symm
        · exact absurd ((b1 x hx).trans (a1 y hy)) (LT.irrefl y)
    subst e
    refine congrArg (x :: ·) (ss_eq a2 b2 fun z => ⟨fun hz => ?_, fun hz => ?_⟩)
    · rcases List.mem_cons.1 ((h z).1 (List.mem_cons_of_mem _ hz)) with rfl | h3
      · exact absurd (a1 z hz) (LT.irrefl z)
      · exact h3
    · rcases List.mem_cons.1 ((h z).2 (List.mem_cons_of_mem _ hz)) with rfl | h3
      · exact absurd (b1 z hz) (LT.irrefl z)
      · exact h3
def ddT : Hs → List Hs → List Hs
  | _, [] => []
  | x, y :: r => if y = x then ddT y r else y :: ddT y r
theorem ddT_cons (x y : Hs) (r : List Hs) : ddT x (y :: r) = if y = x then ddT y r else y :: ddT y r := rfl
def dd : List Hs → List Hs
  | [] => []
  | x :: r => x :: ddT x r
abbrev WS (l : List Hs) : Prop := l.Pairwise (fun a b => ltB b.1 a.1 = false)
theorem ddT_ss : ∀ (x : Hs) (r : List Hs), WS (x :: r) → SS (x :: ddT x r) ∧ ∀ z, z ∈ x :: ddT x r ↔ z ∈ x :: r
  | x, [], _ => ⟨by simp [ddT, SS], by simp [ddT]⟩
  | x, y :: r, h => by
    obtain ⟨h1, h2⟩ := List.pairwise_cons.1 h
    obtain ⟨i1, i2⟩ := ddT_ss y r h2
    rw [ddT_cons]
    split
    · rename_i e; subst e
      refine ⟨i1, fun z => ?_⟩
      rw [i2]; simp
    · rename_i n
      have hxy : LT x y := LT.total (h1 y (by simp)) n
      refine ⟨List.pairwise_cons.2 ⟨fun z hz => ?_, i1⟩, fun z => ?_⟩
      · rcases List.mem_cons.1 hz with rfl | h3
        · exact hxy
        · exact hxy.trans ((List.pairwise_cons.1 i1).1 z h3)
      · rw [List.mem_cons, i2, List.mem_cons (a := z) (b := x)]
theorem dd_sortR {ys l : List Hs} (hp : ys.Perm l) (hw : WS ys) : dd ys = sortR l := by
  refine ss_eq ?_ (sortR_ss l) fun z => ?_
  · cases ys with
    | nil => exact List.Pairwise.nil
    | cons x r => exact (ddT_ss x r hw).1
  · rw [sortR_mem, ← hp.mem_iff]
    cases ys with
    | nil => rfl
    | cons x r => exact (ddT_ss x r hw).2 z
end Gv.Tryd
/- Contracts: Clone, Compact, hex.Sort. -/
set_option linter.unusedVariables false
set_option linter.unusedSimpArgs false
set_option maxRecDepth 20000
set_option maxHeartbeats 4000000
namespace Gv.Tryd
open Go Gv Go.Proofs
theorem hClone (l : List Hs) (t : Tag) (hl : l.length ≤ 4398046511104) (ht : t = .nil → l = []) : GCalls Tryd.prog 28 [.slice (hsG l) t] [] (fun g O' => (l = [] ∧ g = .slice [] .nil ∧ O' = []) ∨ ∃ st, g = .own 0 st 0 l.length ∧ O' = [.row st 32 (hsG l)]) := by
  refine h28.calls mixS (by simp) ?_
  simp only [gstart, s28, List.cons_append, List.nil_append, List.length_cons, List.length_nil, Nat.reduceAdd, Nat.reduceSub, List.replicate_succ, List.replicate_zero]
  simp +contextual -implicitDefEqProofs (maxSteps := 2000000) (disch := omega) only [binV, optV, ↓buildSliceV, ↓sliceV, ↓appendV, ↓srcV, bound, cutTag, hiTag, fillE, GVal.cells, grp, GVal.ofConst, ↓resV, resG, List.map, List.headD, List.take, List.drop, ↓reduceIte, Nat.reduceEqDiff, Nat.reduceAdd, Nat.reduceSub, Nat.reduceLeDiff, reduceCtorEq, implies_true, ne_eq, ↓asrcV, aggV, Tag.cap, List.replicate, allSolid, GVal.solid, Nat.reduceBEq, Nat.reduceMul, Nat.reduceLT, List.length_map, List.length_range, splice, vcA, ↓vcB, vcC, fbHxD, e28, hsG_len, all_hsG]
  refine ⟨fun h => .inl (ht h), fun _ => ⟨fun h => ?_, fun h => ⟨by omega, by omega, by simp, fun st => .inr ⟨st, rfl, rfl⟩⟩⟩⟩
  have h0 : l = [] := by
    cases l with
    | nil => rfl
    | cons a r => simp [hsG] at h
  exact ⟨.inl h0, .inr trivial, fun st => .inr ⟨st, by rw [h0]; rfl, rfl⟩⟩
theorem hSortNil {st : Nat} : GCalls Tryd.prog 29 [.own 0 st 0 0, .func (.func 30) [] []] [.row st 32 []] (fun r O' => r = .tuple [] ∧ O' = [.row st 32 []]) := by
  refine (sSort [] (by simp) (O := [.row st 32 []]) (o := 0) rfl rfl).mono ?_
  rintro g O' ⟨rfl, ys, h1, h2, rfl⟩
  rw [h1.eq_nil]; exact ⟨rfl, rfl⟩
theorem GCalls.nilArg {P : Program} {f : FuncId} {rest : List GVal} {sz : Nat} {K : GVal → List GObj → Prop} (h : ∀ t, GCalls P f (.own 0 t 0 0 :: rest) [.row t sz []] K) : GCalls P f (.slice [] .nil :: rest) [] K := by
  refine ⟨(h 0).1, fun E w vs hs ha => ?_⟩
  obtain ⟨t, hk, ht, hnx, hs, hkeep⟩ := hs.stamp (K := fun t => GCalls P f (.own 0 t 0 0 :: rest) [.row t sz []] K) (show Gv.stamp [] _ from h)
  obtain ⟨h1, h2⟩ := hs.objNil (.row t sz []) (l := ⟨none, 0, sz, 0⟩) ht hnx rfl ⟨_, Env.addLoc_self _ _ _, rfl, by simp, rfl⟩ (by simp [GObj.blk, Env.addLoc_self])
  have ha' : ArgsR (E.addLoc t ⟨none, 0, sz, 0⟩) vs (.own 0 t 0 0 :: rest) := by
    refine ⟨by rw [ha.1]; simp, fun k g hg => ?_⟩
    cases k with
    | zero =>
      simp at hg; subst hg
      have := ha.2 0 _ rfl
      revert this
      generalize vs.getD 0 undef = tv
      intro this
      cases this with
      | slice a len cap xs tag sz c hlen hcap hsz ha hc htag =>
        obtain ⟨_, h1⟩ := htag
        have h0 : len = 0 := by simpa using hlen
        subst h0
        exact .own a 0 cap _ t 0 _ (Env.addLoc_self _ _ _) (Nat.zero_le _) (.inl h1)
    | succ k => exact (ha.2 (k + 1) g (by simpa using hg)).mono h2.ext
  refine (hk.2 _ w vs h1 ha').mono ?_
  rintro e w' ⟨v, E', O', g, q1, q2, q3, q4, q5⟩
  exact ⟨v, E', O', g, q1, q2, (hkeep.trans h2).trans q3, q4, q5⟩
theorem getD_set_ne {l : List Hs} {i j : Nat} {a : Hs} (h : i ≠ j) : (l.set i a).getD j h0 = l.getD j h0 := by
  simp [List.getD, List.getElem?_set, h]
theorem getD_set_eq {l : List Hs} {i : Nat} {a : Hs} (h : i < l.length) : (l.set i a).getD i h0 = a := by
  simp [List.getD, List.getElem?_set, h]
theorem hsG_set (l : List Hs) (i : Nat) (s : Hs) : (hsG l).set i (bytesG s.1) = hsG (l.set i s) := by simp [hsG, List.map_set]
theorem dd_len1 {ys : List Hs} (h : ys.length < 2) : dd ys = ys := by
  match ys, h with
  | [], _ => rfl
  | [x], _ => rfl
theorem hCompact (ys : List Hs) (hl : ys.length ≤ 4398046511104) (st : Nat) :
    GCalls Tryd.prog 31 [.own 0 st 0 ys.length] [.row st 32 (hsG ys)] (fun g O' => g = .own 0 st 0 (dd ys).length ∧ O' = [.row st 32 (hsG (dd ys))]) := by
  refine h31.calls mixS (by simp) ?_
  simp only [gstart, s31, List.cons_append, List.nil_append, List.length_cons, List.length_nil, Nat.reduceAdd, Nat.reduceSub, List.replicate_succ, List.replicate_zero]
  simp +contextual -implicitDefEqProofs (maxSteps := 2000000) (disch := omega) only [drawC, ↓op_clear, ↓lenV, binV, optV, ↓loadV, ↓storeV, ↓indexAddrV, ↓sliceV, bound, cutTag, hiTag, GVal.cells, grp, GVal.ofConst, ↓resV, resG, List.map, List.headD, List.take, List.drop, ↓reduceIte, Nat.reduceEqDiff, Nat.reduceAdd, Nat.reduceSub, Nat.reduceLeDiff, reduceCtorEq, implies_true, ne_eq, ↓clearV, aggV, Tag.cap, List.replicate, allSolid, GVal.solid, Nat.reduceBEq, Nat.reduceMul, Nat.reduceLT, List.length_map, List.length_range, splice, vcA, ↓vcB, vcC, fbHxD, e31, hsG_len, all_hsG]
  refine ⟨fun h => by rw [dd_len1 (by omega)]; exact ⟨rfl, rfl⟩, fun hn => ?_⟩
  refine vcSLoop_by (ι := { k : Nat // 1 ≤ k ∧ k ≤ ys.length ∧ dd ys = ys.take k ++ ddT (ys.getD (k - 1) h0) (ys.drop k) }) (fun k => ⟨[.own 0 st 0 ys.length, .any, .any, .int .i64 (k.1 : Nat)] ++ List.replicate 57 .any, [.row st 32 (hsG ys)]⟩) (fun k => ys.length - k.1) ?_ ?_
  · refine Into.first ⟨1, by omega, by omega, ?_⟩ ⟨[], by simp⟩ (by simp [WL, leG_self, leG_any, leG_int])
    match ys, hn with
    | x :: r, _ => rfl
  · rintro ⟨k, hk1, hk, he⟩
    by_cases h' : k < ys.length
    · have d0 : ((k : Int) < (ys.length : Int)) = True := eq_true (by omega)
      have ea := hsG_at ys k h'
      have eb := hsG_at ys (k - 1) (by omega)
      rw [dropH h', ddT_cons] at he
      obtain ⟨x, ex⟩ : ∃ x, ys.getD k h0 = x := ⟨_, rfl⟩
      obtain ⟨y, ey⟩ : ∃ y, ys.getD (k - 1) h0 = y := ⟨_, rfl⟩
      rw [ex] at ea he
      rw [ey] at eb he
      have tn : ((k : Int) - 1).toNat = k - 1 := by omega
      simp +contextual -implicitDefEqProofs (maxSteps := 2000000) (disch := omega) only [drawC, ↓op_clear, ↓lenV, binV, optV, ↓loadV, ↓storeV, ↓indexAddrV, ↓sliceV, bound, cutTag, hiTag, GVal.cells, grp, GVal.ofConst, ↓resV, resG, List.map, List.headD, List.take, List.drop, ↓reduceIte, Nat.reduceEqDiff, Nat.reduceAdd, Nat.reduceSub, Nat.reduceLeDiff, reduceCtorEq, implies_true, ne_eq, ↓clearV, aggV, Tag.cap, List.replicate, allSolid, GVal.solid, Nat.reduceBEq, Nat.reduceMul, Nat.reduceLT, List.length_map, List.length_range, splice, vcA, ↓vcB, vcC, fbHxD, e31, hsG_len, d0, ea, eb, tn, all_hsG, take32, len32, cellsEq_hs x y, Nat.zero_add]
      refine ⟨by omega, by omega, by omega, by omega, by omega, by omega, by omega, fun c => ⟨by omega, by omega, by omega, ?_⟩, fun c => ?_⟩
      · rw [if_pos c] at he
        refine vcSLoop_by (ι := { p : Nat × Nat × List Hs // 1 ≤ p.2.1 ∧ k + p.2.1 ≤ ys.length ∧ p.1 + 1 ≤ k + p.2.1 ∧ p.2.2.length = ys.length ∧ (∀ i, k + p.2.1 ≤ i + 1 → p.2.2.getD i h0 = ys.getD i h0) ∧ dd ys = p.2.2.take p.1 ++ ddT (ys.getD (k + p.2.1 - 1) h0) (ys.drop (k + p.2.1)) }) (fun p => ⟨[.own 0 st 0 ys.length, .any, .any, .int .i64 (p.1.1 : Nat), .own 0 st k (ys.length - k), .int .i64 (p.1.2.1 : Nat)] ++ List.replicate 55 .any, [.row st 32 (hsG p.1.2.2)]⟩) (fun p => ys.length - p.1.2.1) ?_ ?_
        · refine Into.first ⟨(k, 1, ys), by show 1 ≤ 1; omega, by show k + 1 ≤ _; omega, by show k + 1 ≤ k + 1; omega, rfl, fun _ _ => rfl, ?_⟩ ⟨[], by simp⟩ (by simp [WL, leG_self, leG_any, leG_int])
          show dd ys = ys.take k ++ ddT (ys.getD (k + 1 - 1) h0) (ys.drop (k + 1))
          rw [he, Nat.add_sub_cancel, ex, c]
        · rintro ⟨⟨w, q, zs⟩, hq1, hq, hw, hz, hu, hd⟩
          simp only [] at hq1 hq hw hz hu hd
          by_cases h2 : q < ys.length - k
          · have d1 : ((q : Int) < ((ys.length - k : Nat) : Int)) = True := eq_true (by omega)
            have ea := hsG_at zs (k + q) (by omega)
            have eb := hsG_at zs (k + (q - 1)) (by omega)
            rw [dropH (by omega), ddT_cons, ← hu (k + q) (by omega)] at hd
            obtain ⟨x2, ex2⟩ : ∃ x, zs.getD (k + q) h0 = x := ⟨_, rfl⟩
            have ey2 : zs.getD (k + (q - 1)) h0 = ys.getD (k + q - 1) h0 := by rw [hu _ (by omega)]; congr 1; omega
            obtain ⟨y2, ey3⟩ : ∃ x, ys.getD (k + q - 1) h0 = x := ⟨_, rfl⟩
            rw [ex2] at ea hd
            rw [ey2, ey3] at eb
            rw [ey3] at hd
            have tn : ((q : Int) - 1).toNat = q - 1 := by omega
            have ew : List.drop 32 ((hsG zs).getD w []) = [] := by rw [hsG_at zs w (by omega)]; exact List.drop_of_length_le (by rw [len32]; omega)
            simp +contextual -implicitDefEqProofs (maxSteps := 2000000) (disch := omega) only [drawC, ↓op_clear, ↓lenV, binV, optV, ↓loadV, ↓storeV, ↓indexAddrV, ↓sliceV, bound, cutTag, hiTag, GVal.cells, grp, GVal.ofConst, ↓resV, resG, List.map, List.headD, List.take, List.drop, ↓reduceIte, Nat.reduceEqDiff, Nat.reduceAdd, Nat.reduceSub, Nat.reduceLeDiff, reduceCtorEq, implies_true, ne_eq, ↓clearV, aggV, Tag.cap, List.replicate, allSolid, GVal.solid, Nat.reduceBEq, Nat.reduceMul, Nat.reduceLT, List.length_map, List.length_range, splice, vcA, ↓vcB, vcC, fbHxD, e31, hsG_len, hz, d1, ea, eb, tn, all_hsG, take32, len32, cellsEq_hs x2 y2, Nat.zero_add, ew, List.append_nil, hsG_set]
            refine ⟨by omega, by omega, by omega, by omega, by omega, by omega, by omega, fun c2 => ?_, fun c2 => ?_⟩
            · rw [if_pos c2] at hd
              refine Into.at ⟨(w, q + 1, zs), by show 1 ≤ q + 1; omega, by show k + (q + 1) ≤ _; omega, by show w + 1 ≤ k + (q + 1); omega, hz, fun i hi => hu i (by have : k + (q + 1) ≤ i + 1 := hi; omega), ?_⟩ (by show _ < _; simp; omega) ⟨[], by simp⟩ (by simp [WL, leG_self, leG_any, leG_int])
              show dd ys = zs.take w ++ ddT (ys.getD (k + (q + 1) - 1) h0) (ys.drop (k + (q + 1)))
              have e1 : k + (q + 1) - 1 = k + q := by omega
              have e2 : k + (q + 1) = k + q + 1 := by omega
              rw [hd, e1, e2, ← hu (k + q) (by omega), ex2]
            · rw [if_neg c2] at hd
              refine ⟨by omega, by omega, by omega, by omega, by omega, by omega, by rw [sol_bytes]; trivial, by omega, by rw [hsG_at zs w (by omega), len32]; omega, ?_⟩
              refine Into.at ⟨(w + 1, q + 1, zs.set w x2), by show 1 ≤ q + 1; omega, by show k + (q + 1) ≤ _; omega, by show w + 1 + 1 ≤ k + (q + 1); omega, by show (zs.set w x2).length = _; rw [List.length_set, hz], fun i hi => ?_, ?_⟩ (by show _ < _; simp; omega) ⟨[], by simp⟩ (by simp [WL, leG_self, leG_any, leG_int])
              · have hi' : k + (q + 1) ≤ i + 1 := hi
                show (zs.set w x2).getD i h0 = _
                rw [getD_set_ne (by omega), hu i (by omega)]
              · show dd ys = (zs.set w x2).take (w + 1) ++ ddT (ys.getD (k + (q + 1) - 1) h0) (ys.drop (k + (q + 1)))
                have e1 : k + (q + 1) - 1 = k + q := by omega
                have e2 : k + (q + 1) = k + q + 1 := by omega
                rw [hd, e1, e2, ← hu (k + q) (by omega), ex2, takeH (by rw [List.length_set]; omega), List.take_set_of_le (by omega), getD_set_eq (by omega), List.append_assoc]; rfl
          · have d1 : ((q : Int) < ((ys.length - k : Nat) : Int)) = False := eq_false (by omega)
            simp +contextual -implicitDefEqProofs (maxSteps := 2000000) (disch := omega) only [drawC, ↓op_clear, ↓lenV, binV, optV, ↓loadV, ↓storeV, ↓indexAddrV, ↓sliceV, bound, cutTag, hiTag, GVal.cells, grp, GVal.ofConst, ↓resV, resG, List.map, List.headD, List.take, List.drop, ↓reduceIte, Nat.reduceEqDiff, Nat.reduceAdd, Nat.reduceSub, Nat.reduceLeDiff, reduceCtorEq, implies_true, ne_eq, ↓clearV, aggV, Tag.cap, List.replicate, allSolid, GVal.solid, Nat.reduceBEq, Nat.reduceMul, Nat.reduceLT, List.length_map, List.length_range, splice, vcA, ↓vcB, vcC, fbHxD, e31, hsG_len, hz, d1, false_imp_iff, true_and, take_hs]
            rw [List.drop_of_length_le (by omega)] at hd
            have e : dd ys = zs.take w := by rw [hd]; simp [ddT]
            refine ⟨by omega, by omega, by omega, by omega, by omega, by omega, ?_, by rw [e]⟩
            have e2 : (dd ys).length = w := by rw [e, List.length_take]; omega
            rw [e2]; rfl
      · rw [if_neg c] at he
        refine Into.at ⟨k + 1, by omega, by omega, ?_⟩ (by show _ < _; simp; omega) ⟨[], by simp⟩ (by simp [WL, leG_self, leG_any, leG_int])
        rw [takeH h', he, Nat.add_sub_cancel, ex, List.append_assoc]; rfl
    · have d0 : ((k : Int) < (ys.length : Int)) = False := eq_false (by omega)
      rw [List.drop_of_length_le (by omega), List.take_of_length_le (by omega)] at he
      simp +contextual -implicitDefEqProofs (maxSteps := 2000000) (disch := omega) only [drawC, ↓op_clear, ↓lenV, binV, optV, ↓loadV, ↓storeV, ↓indexAddrV, ↓sliceV, bound, cutTag, hiTag, GVal.cells, grp, GVal.ofConst, ↓resV, resG, List.map, List.headD, List.take, List.drop, ↓reduceIte, Nat.reduceEqDiff, Nat.reduceAdd, Nat.reduceSub, Nat.reduceLeDiff, reduceCtorEq, implies_true, ne_eq, ↓clearV, aggV, Tag.cap, List.replicate, allSolid, GVal.solid, Nat.reduceBEq, Nat.reduceMul, Nat.reduceLT, List.length_map, List.length_range, splice, vcA, ↓vcB, vcC, fbHxD, e31, hsG_len, d0, false_imp_iff, true_and]
      have e : dd ys = ys := by rw [he]; simp [ddT]
      rw [e]; exact ⟨rfl, rfl⟩
theorem hCompactNil : GPure Tryd.prog 31 [.slice [] .nil] (.slice [] .none) := by
  refine h31.pure mixS (by simp) ?_
  simp only [gstart, s31, List.cons_append, List.nil_append, List.length_cons, List.length_nil, Nat.reduceAdd, Nat.reduceSub, List.replicate_succ, List.replicate_zero]
  simp +contextual -implicitDefEqProofs (maxSteps := 2000000) (disch := omega) only [drawC, ↓op_clear, ↓lenV, binV, optV, ↓loadV, ↓storeV, ↓indexAddrV, ↓sliceV, bound, cutTag, hiTag, GVal.cells, grp, GVal.ofConst, ↓resV, resG, List.map, List.headD, List.take, List.drop, ↓reduceIte, Nat.reduceEqDiff, Nat.reduceAdd, Nat.reduceSub, Nat.reduceLeDiff, reduceCtorEq, implies_true, ne_eq, ↓clearV, aggV, Tag.cap, List.replicate, allSolid, GVal.solid, Nat.reduceBEq, Nat.reduceMul, Nat.reduceLT, List.length_map, List.length_range, splice, vcA, ↓vcB, vcC, fbHxD, e31]
  exact fun h => absurd h (by omega)
theorem cSort (l : List Hs) (t : Tag) (hl : l.length ≤ 4398046511104) (ht : t = .nil → l = []) : GCalls Tryd.prog 22 [.slice (hsG l) t] [] (fun g O' => (l = [] ∧ g = .slice [] .none) ∨ ∃ st ys, List.Perm ys l ∧ ys.Pairwise (fun a b => ltB b.1 a.1 = false) ∧ g = .own 0 st 0 (dd ys).length ∧ O' = [.row st 32 (hsG (dd ys))]) := by
  refine h22.calls mixS (by simp) ?_
  simp only [gstart, s22, List.cons_append, List.nil_append, List.length_cons, List.length_nil, Nat.reduceAdd, Nat.reduceSub, List.replicate_succ, List.replicate_zero]
  simp +contextual -implicitDefEqProofs (maxSteps := 2000000) (disch := omega) only [optV, ↓sliceV, bound, cutTag, hiTag, GVal.cells, grp, GVal.ofConst, ↓resV, resG, List.map, List.headD, List.take, List.drop, ↓reduceIte, Nat.reduceEqDiff, Nat.reduceAdd, Nat.reduceSub, Nat.reduceLeDiff, reduceCtorEq, implies_true, ne_eq, Tag.cap, List.replicate, allSolid, GVal.solid, Nat.reduceBEq, Nat.reduceMul, Nat.reduceLT, List.length_map, List.length_range, splice, vcA, ↓vcB, vcC, fbHxD, e22]
  refine (hClone l t hl ht).mono ?_
  rintro g O' (⟨rfl, rfl, rfl⟩ | ⟨st, rfl, rfl⟩)
  · simp +contextual -implicitDefEqProofs (maxSteps := 2000000) (disch := omega) only [optV, ↓sliceV, bound, cutTag, hiTag, GVal.cells, grp, GVal.ofConst, ↓resV, resG, List.map, List.headD, List.take, List.drop, ↓reduceIte, Nat.reduceEqDiff, Nat.reduceAdd, Nat.reduceSub, Nat.reduceLeDiff, reduceCtorEq, implies_true, ne_eq, Tag.cap, List.replicate, allSolid, GVal.solid, Nat.reduceBEq, Nat.reduceMul, Nat.reduceLT, List.length_map, List.length_range, splice, vcA, ↓vcB, vcC, fbHxD, e22]
    refine GCalls.nilArg (sz := 32) fun st => hSortNil.mono ?_
    rintro g O' ⟨rfl, rfl⟩
    simp +contextual -implicitDefEqProofs (maxSteps := 2000000) (disch := omega) only [optV, ↓sliceV, bound, cutTag, hiTag, GVal.cells, grp, GVal.ofConst, ↓resV, resG, List.map, List.headD, List.take, List.drop, ↓reduceIte, Nat.reduceEqDiff, Nat.reduceAdd, Nat.reduceSub, Nat.reduceLeDiff, reduceCtorEq, implies_true, ne_eq, Tag.cap, List.replicate, allSolid, GVal.solid, Nat.reduceBEq, Nat.reduceMul, Nat.reduceLT, List.length_map, List.length_range, splice, vcA, ↓vcB, vcC, fbHxD, e22]
    refine hCompactNil.then ?_ (by rfl)
    simp +contextual -implicitDefEqProofs (maxSteps := 2000000) (disch := omega) only [optV, ↓sliceV, bound, cutTag, hiTag, GVal.cells, grp, GVal.ofConst, ↓resV, resG, List.map, List.headD, List.take, List.drop, ↓reduceIte, Nat.reduceEqDiff, Nat.reduceAdd, Nat.reduceSub, Nat.reduceLeDiff, reduceCtorEq, implies_true, ne_eq, Tag.cap, List.replicate, allSolid, GVal.solid, Nat.reduceBEq, Nat.reduceMul, Nat.reduceLT, List.length_map, List.length_range, splice, vcA, ↓vcB, vcC, fbHxD, e22]
    exact .inl trivial
  · simp +contextual -implicitDefEqProofs (maxSteps := 2000000) (disch := omega) only [optV, ↓sliceV, bound, cutTag, hiTag, GVal.cells, grp, GVal.ofConst, ↓resV, resG, List.map, List.headD, List.take, List.drop, ↓reduceIte, Nat.reduceEqDiff, Nat.reduceAdd, Nat.reduceSub, Nat.reduceLeDiff, reduceCtorEq, implies_true, ne_eq, Tag.cap, List.replicate, allSolid, GVal.solid, Nat.reduceBEq, Nat.reduceMul, Nat.reduceLT, List.length_map, List.length_range, splice, vcA, ↓vcB, vcC, fbHxD, e22]
    refine (sSort l (by omega) rfl rfl).mono ?_
    rintro _ _ ⟨rfl, ys, hp, hw, rfl⟩
    have hpl := hp.length_eq
    simp +contextual -implicitDefEqProofs (maxSteps := 2000000) (disch := omega) only [optV, ↓sliceV, bound, cutTag, hiTag, GVal.cells, grp, GVal.ofConst, ↓resV, resG, List.map, List.headD, List.take, List.drop, ↓reduceIte, Nat.reduceEqDiff, Nat.reduceAdd, Nat.reduceSub, Nat.reduceLeDiff, reduceCtorEq, implies_true, ne_eq, Tag.cap, List.replicate, allSolid, GVal.solid, Nat.reduceBEq, Nat.reduceMul, Nat.reduceLT, List.length_map, List.length_range, splice, vcA, ↓vcB, vcC, fbHxD, e22]
    rw [← hpl]
    refine (hCompact ys (by omega) st).mono ?_
    rintro g O' ⟨rfl, rfl⟩
    simp +contextual -implicitDefEqProofs (maxSteps := 2000000) (disch := omega) only [optV, ↓sliceV, bound, cutTag, hiTag, GVal.cells, grp, GVal.ofConst, ↓resV, resG, List.map, List.headD, List.take, List.drop, ↓reduceIte, Nat.reduceEqDiff, Nat.reduceAdd, Nat.reduceSub, Nat.reduceLeDiff, reduceCtorEq, implies_true, ne_eq, Tag.cap, List.replicate, allSolid, GVal.solid, Nat.reduceBEq, Nat.reduceMul, Nat.reduceLT, List.length_map, List.length_range, splice, vcA, ↓vcB, vcC, fbHxD, e22]
    exact .inr ⟨st, ys, hp, hw, rfl, rfl⟩
theorem frzL_same {f : GVal → Option GVal} : ∀ {xs : List GVal}, (∀ x ∈ xs, f x = some x) → frzL f xs = some xs
  | [], _ => rfl
  | x :: xs, h => by rw [frzL, h x (by simp), frzL_same fun y hy => h y (by simp [hy])]
theorem frz_hs (O : List GObj) (n : Nat) (l : List Hs) : frzLL (Gv.frz O (n + 1)) (hsG l) = some (hsG l) :=
  frzLL_same fun x hx => by
    obtain ⟨s, _, rfl⟩ := List.mem_map.1 hx
    exact frzL_same fun y hy => by
      obtain ⟨c, _, rfl⟩ := List.mem_map.1 hy
      simp only [Gv.frz]
theorem hSort (l : List Hs) (t : Tag) (hl : l.length ≤ 4398046511104) (ht : t = .nil → l = []) : GPure Tryd.prog 22 [.slice (hsG l) t] (.slice (hsG (sortR l)) .none) :=
  GCalls.toPure ((cSort l t hl ht).mono fun g O' h => by
    rcases h with ⟨rfl, rfl⟩ | ⟨st, ys, hp, hw, rfl, rfl⟩
    · exact ⟨4, .slice [] .none, by rw [Gv.frz]; rfl, by rw [leA_slice]; rfl⟩
    · rw [dd_sortR hp hw]
      exact ⟨4, .slice (hsG (sortR l)) .none, frz_own rfl (hsG_len _).symm (frz_hs _ 2 _), by rw [leA_slice]⟩)
end Gv.Tryd
/- HexKnown: the walk. -/
set_option linter.unusedVariables false
set_option linter.unusedSimpArgs false
set_option maxRecDepth 20000
set_option maxHeartbeats 4000000
namespace Gv.Tryd
open Go Gv Go.Proofs
def kA : List UInt8 := [0xab, 0x01, 0, 0, 0, 0, 0, 0, 0, 0, 0, 0, 0, 0, 0, 0, 0, 0, 0, 0, 0, 0, 0, 0, 0, 0, 0, 0, 0, 0, 0, 0]
def kOne : List UInt8 := [1, 0, 0, 0, 0, 0, 0, 0, 0, 0, 0, 0, 0, 0, 0, 0, 0, 0, 0, 0, 0, 0, 0, 0, 0, 0, 0, 0, 0, 0, 0, 0]
def kTwo : List UInt8 := [2, 0, 0, 0, 0, 0, 0, 0, 0, 0, 0, 0, 0, 0, 0, 0, 0, 0, 0, 0, 0, 0, 0, 0, 0, 0, 0, 0, 0, 0, 0, 0]
def kS : List UInt8 := [97, 98, 48, 49, 48, 48, 48, 48, 48, 48, 48, 48, 48, 48, 48, 48, 48, 48, 48, 48, 48, 48, 48, 48, 48, 48, 48, 48, 48, 48, 48, 48, 48, 48, 48, 48, 48, 48, 48, 48, 48, 48, 48, 48, 48, 48, 48, 48, 48, 48, 48, 48, 48, 48, 48, 48, 48, 48, 48, 48, 48, 48, 48, 48]
theorem kText : textL kA = kS := by decide
theorem kGood : goodT kS := ⟨rfl, by decide⟩
theorem kSort : sortR [⟨kTwo, rfl⟩, ⟨kOne, rfl⟩, ⟨kTwo, rfl⟩] = [⟨kOne, rfl⟩, ⟨kTwo, rfl⟩] := by decide
theorem kEA : ([.int .u8 171, .int .u8 1, .int .u8 0, .int .u8 0, .int .u8 0, .int .u8 0, .int .u8 0, .int .u8 0, .int .u8 0, .int .u8 0, .int .u8 0, .int .u8 0, .int .u8 0, .int .u8 0, .int .u8 0, .int .u8 0, .int .u8 0, .int .u8 0, .int .u8 0, .int .u8 0, .int .u8 0, .int .u8 0, .int .u8 0, .int .u8 0, .int .u8 0, .int .u8 0, .int .u8 0, .int .u8 0, .int .u8 0, .int .u8 0, .int .u8 0, .int .u8 0] : List GVal) = bytesG kA := rfl
theorem kE1 : ([.int .u8 1, .int .u8 0, .int .u8 0, .int .u8 0, .int .u8 0, .int .u8 0, .int .u8 0, .int .u8 0, .int .u8 0, .int .u8 0, .int .u8 0, .int .u8 0, .int .u8 0, .int .u8 0, .int .u8 0, .int .u8 0, .int .u8 0, .int .u8 0, .int .u8 0, .int .u8 0, .int .u8 0, .int .u8 0, .int .u8 0, .int .u8 0, .int .u8 0, .int .u8 0, .int .u8 0, .int .u8 0, .int .u8 0, .int .u8 0, .int .u8 0, .int .u8 0] : List GVal) = bytesG kOne := rfl
theorem kE2 : ([.int .u8 2, .int .u8 0, .int .u8 0, .int .u8 0, .int .u8 0, .int .u8 0, .int .u8 0, .int .u8 0, .int .u8 0, .int .u8 0, .int .u8 0, .int .u8 0, .int .u8 0, .int .u8 0, .int .u8 0, .int .u8 0, .int .u8 0, .int .u8 0, .int .u8 0, .int .u8 0, .int .u8 0, .int .u8 0, .int .u8 0, .int .u8 0, .int .u8 0, .int .u8 0, .int .u8 0, .int .u8 0, .int .u8 0, .int .u8 0, .int .u8 0, .int .u8 0] : List GVal) = bytesG kTwo := rfl
def kZ : List UInt8 := List.replicate 32 0
theorem kE0 : (List.replicate 32 (GVal.int .u8 0)) = bytesG kZ := rfl
theorem kEZ : ([.int .u8 0, .int .u8 0, .int .u8 0, .int .u8 0, .int .u8 0, .int .u8 0, .int .u8 0, .int .u8 0, .int .u8 0, .int .u8 0, .int .u8 0, .int .u8 0, .int .u8 0, .int .u8 0, .int .u8 0, .int .u8 0, .int .u8 0, .int .u8 0, .int .u8 0, .int .u8 0, .int .u8 0, .int .u8 0, .int .u8 0, .int .u8 0, .int .u8 0, .int .u8 0, .int .u8 0, .int .u8 0, .int .u8 0, .int .u8 0, .int .u8 0, .int .u8 0] : List GVal) = bytesG kZ := rfl
theorem kPre : decide (kS.take ([97, 98, 48] : List UInt8).length = [97, 98, 48]) = true := by decide
theorem kPre2 : decide (kS.take ([97, 98, 49] : List UInt8).length = [97, 98, 49]) = false := by decide
theorem kPre3 : decide (kS.take ([] : List UInt8).length = []) = true := by decide
theorem kLt : ltB kOne kA = true := by decide
theorem kLt2 : ltB kA kA = false := by decide
theorem spec5 : GPure Tryd.prog 5 [] (.bool true) := by
  have cT := hText kA rfl
  rw [kText] at cT
  have cP := hParse kS rfl kGood.2
  have eP : ((List.range 32).map fun i => GVal.int .u8 (norm .u8 (pairB kS i))) = bytesG kA := by rw [← kText]; exact parse_text rfl
  rw [eP] at cP
  have cP2 := hParseBad [97, 98] (by decide) (fun h => by simp at h)
  have cS := hSort [⟨kTwo, rfl⟩, ⟨kOne, rfl⟩, ⟨kTwo, rfl⟩] .full (by decide) (fun h => by cases h)
  rw [kSort] at cS
  have tA : List.take 32 (bytesG kA) = bytesG kA := rfl
  have lA : (bytesG kA).length = 32 := rfl
  rw [kE0] at cP2
  have l1 : (bytesG kOne).length = 32 := rfl
  have l2 : (bytesG kTwo).length = 32 := rfl
  have lZ : (bytesG kZ).length = 32 := rfl
  have dZ : List.drop 32 (bytesG kZ) = [] := rfl
  have tZ : List.take 32 (bytesG kZ) = bytesG kZ := rfl
  have t1 : List.take 32 (bytesG kOne) = bytesG kOne := rfl
  have t2 : List.take 32 (bytesG kTwo) = bytesG kTwo := rfl
  refine h5.pure mixS (by simp) ?_
  simp only [gstart, s5, List.cons_append, List.nil_append, List.length_cons, List.length_nil, Nat.reduceAdd, Nat.reduceSub, List.replicate_succ, List.replicate_zero]
  simp +contextual -implicitDefEqProofs (maxSteps := 2000000) (disch := omega) only [↓lenV, binV, ↓unV, optV, ↓loadV, ↓storeV, ↓indexAddrV, ↓allocV, ↓buildV, ↓buildSliceV, ↓sliceV, bound, cutTag, hiTag, fillG, fillE, place, GVal.cells, grp, GVal.ofConst, ↓resV, resG, List.map, List.headD, List.take, List.drop, ↓reduceIte, Nat.reduceEqDiff, Nat.reduceAdd, Nat.reduceSub, Nat.reduceLeDiff, reduceCtorEq, implies_true, ne_eq, aggV, Tag.cap, List.replicate, allSolid, GVal.solid, Nat.reduceBEq, Nat.reduceMul, Nat.reduceLT, List.length_map, List.length_range, splice, vcA, ↓vcB, vcC, fbHxD, e5, kEA, kE1, kE2, kE0, drop32 kA rfl, drop32 kZ rfl, tA, lA, l1, l2, lZ, tZ, (rfl : kZ.length = 32), (rfl : kA.length = 32), t1, t2, sol_bytes, List.append_nil]
  intro st
  refine cT.then ?_ (by rfl)
  simp +contextual -implicitDefEqProofs (maxSteps := 2000000) (disch := omega) only [↓lenV, binV, ↓unV, optV, ↓loadV, ↓storeV, ↓indexAddrV, ↓allocV, ↓buildV, ↓buildSliceV, ↓sliceV, bound, cutTag, hiTag, fillG, fillE, place, GVal.cells, grp, GVal.ofConst, ↓resV, resG, List.map, List.headD, List.take, List.drop, ↓reduceIte, Nat.reduceEqDiff, Nat.reduceAdd, Nat.reduceSub, Nat.reduceLeDiff, reduceCtorEq, implies_true, ne_eq, aggV, Tag.cap, List.replicate, allSolid, GVal.solid, Nat.reduceBEq, Nat.reduceMul, Nat.reduceLT, List.length_map, List.length_range, splice, vcA, ↓vcB, vcC, fbHxD, e5, kEA, kE1, kE2, kE0, drop32 kA rfl, drop32 kZ rfl, tA, lA, l1, l2, lZ, tZ, (rfl : kZ.length = 32), (rfl : kA.length = 32), t1, t2, sol_bytes, List.append_nil]
  refine cP.then ?_ (by rfl)
  simp +contextual -implicitDefEqProofs (maxSteps := 2000000) (disch := omega) only [↓lenV, binV, ↓unV, optV, ↓loadV, ↓storeV, ↓indexAddrV, ↓allocV, ↓buildV, ↓buildSliceV, ↓sliceV, bound, cutTag, hiTag, fillG, fillE, place, GVal.cells, grp, GVal.ofConst, ↓resV, resG, List.map, List.headD, List.take, List.drop, ↓reduceIte, Nat.reduceEqDiff, Nat.reduceAdd, Nat.reduceSub, Nat.reduceLeDiff, reduceCtorEq, implies_true, ne_eq, aggV, Tag.cap, List.replicate, allSolid, GVal.solid, Nat.reduceBEq, Nat.reduceMul, Nat.reduceLT, List.length_map, List.length_range, splice, vcA, ↓vcB, vcC, fbHxD, e5, kEA, kE1, kE2, kE0, drop32 kA rfl, drop32 kZ rfl, tA, lA, l1, l2, lZ, tZ, (rfl : kZ.length = 32), (rfl : kA.length = 32), t1, t2, sol_bytes, List.append_nil]
  intro st1
  refine cP2.then ?_ (by rfl)
  simp +contextual -implicitDefEqProofs (maxSteps := 2000000) (disch := omega) only [↓lenV, binV, ↓unV, optV, ↓loadV, ↓storeV, ↓indexAddrV, ↓allocV, ↓buildV, ↓buildSliceV, ↓sliceV, bound, cutTag, hiTag, fillG, fillE, place, GVal.cells, grp, GVal.ofConst, ↓resV, resG, List.map, List.headD, List.take, List.drop, ↓reduceIte, Nat.reduceEqDiff, Nat.reduceAdd, Nat.reduceSub, Nat.reduceLeDiff, reduceCtorEq, implies_true, ne_eq, aggV, Tag.cap, List.replicate, allSolid, GVal.solid, Nat.reduceBEq, Nat.reduceMul, Nat.reduceLT, List.length_map, List.length_range, splice, vcA, ↓vcB, vcC, fbHxD, e5, kEA, kE1, kE2, kE0, drop32 kA rfl, drop32 kZ rfl, tA, lA, l1, l2, lZ, tZ, (rfl : kZ.length = 32), (rfl : kA.length = 32), t1, t2, sol_bytes, List.append_nil]
  intro st2
  refine cS.then ?_ (by rfl)
  have z0 : Int.toNat 0 = 0 := rfl
  have h0 : (hsG [⟨kOne, rfl⟩, ⟨kTwo, rfl⟩]) = [bytesG kOne, bytesG kTwo] := rfl
  have e4 : (List.take (Int.toNat 4) kS == [97, 98, 48, 49]) = true := by decide
  have lS : kS.length = 64 := rfl
  have cA := cells32 kA kA rfl rfl
  have c1 := cells32 kOne kOne rfl rfl
  have cP3 := hBegins kA [97, 98, 48] rfl (by decide)
  rw [kText, kPre] at cP3
  have cP4 := hBegins kA [97, 98, 49] rfl (by decide)
  rw [kText, kPre2] at cP4
  have cP5 := hBegins kA [] rfl (by decide)
  rw [kText, kPre3] at cP5
  have cL1 := hLess kOne kA rfl rfl
  rw [kLt] at cL1
  have cL2 := hLess kA kA rfl rfl
  rw [kLt2] at cL2
  rw [h0]
  simp +contextual -implicitDefEqProofs (maxSteps := 2000000) (disch := omega) only [↓lenV, binV, ↓unV, optV, ↓loadV, ↓storeV, ↓indexAddrV, ↓allocV, ↓buildV, ↓buildSliceV, ↓sliceV, bound, cutTag, hiTag, fillG, fillE, place, GVal.cells, grp, GVal.ofConst, ↓resV, resG, List.map, List.headD, List.take, List.drop, ↓reduceIte, Nat.reduceEqDiff, Nat.reduceAdd, Nat.reduceSub, Nat.reduceLeDiff, reduceCtorEq, implies_true, ne_eq, aggV, Tag.cap, List.replicate, allSolid, GVal.solid, Nat.reduceBEq, Nat.reduceMul, Nat.reduceLT, List.length_map, List.length_range, splice, vcA, ↓vcB, vcC, fbHxD, e5, kEA, kE1, kE2, kE0, drop32 kA rfl, drop32 kZ rfl, tA, lA, l1, l2, lZ, tZ, (rfl : kZ.length = 32), (rfl : kA.length = 32), t1, t2, sol_bytes, List.append_nil]
  refine hKnown.then ?_ (by rfl)
  have dK : decide (kA = kA) = true := by decide
  have dO : decide (kOne = kOne) = true := by decide
  rw [dK] at cA
  rw [dO] at c1
  have dG : dig 71 = -1 := by decide
  simp +contextual -implicitDefEqProofs (maxSteps := 2000000) (disch := omega) only [↓lenV, binV, ↓unV, optV, ↓loadV, ↓storeV, ↓indexAddrV, ↓allocV, ↓buildV, ↓buildSliceV, ↓sliceV, bound, cutTag, hiTag, fillG, fillE, place, GVal.cells, grp, GVal.ofConst, ↓resV, resG, List.map, List.headD, List.take, List.drop, ↓reduceIte, Nat.reduceEqDiff, Nat.reduceAdd, Nat.reduceSub, Nat.reduceLeDiff, reduceCtorEq, implies_true, ne_eq, aggV, Tag.cap, List.replicate, allSolid, GVal.solid, Nat.reduceBEq, Nat.reduceMul, Nat.reduceLT, List.length_map, List.length_range, splice, vcA, ↓vcB, vcC, fbHxD, e5, kEA, kE1, kE2, kE0, drop32 kA rfl, drop32 kZ rfl, tA, lA, l1, l2, lZ, tZ, (rfl : kZ.length = 32), (rfl : kA.length = 32), t1, t2, sol_bytes, List.append_nil, lS, z0, List.drop_zero, e4, cA]
  refine ⟨by omega, by omega, by omega, by rfl, ?_⟩
  refine (hKindErr 2).then ?_ (by rfl)
  simp +contextual -implicitDefEqProofs (maxSteps := 2000000) (disch := omega) only [↓lenV, binV, ↓unV, optV, ↓loadV, ↓storeV, ↓indexAddrV, ↓allocV, ↓buildV, ↓buildSliceV, ↓sliceV, bound, cutTag, hiTag, fillG, fillE, place, GVal.cells, grp, GVal.ofConst, ↓resV, resG, List.map, List.headD, List.take, List.drop, ↓reduceIte, Nat.reduceEqDiff, Nat.reduceAdd, Nat.reduceSub, Nat.reduceLeDiff, reduceCtorEq, implies_true, ne_eq, aggV, Tag.cap, List.replicate, allSolid, GVal.solid, Nat.reduceBEq, Nat.reduceMul, Nat.reduceLT, List.length_map, List.length_range, splice, vcA, ↓vcB, vcC, fbHxD, e5, kEA, kE1, kE2, kE0, drop32 kA rfl, drop32 kZ rfl, tA, lA, l1, l2, lZ, tZ, (rfl : kZ.length = 32), (rfl : kA.length = 32), t1, t2, sol_bytes, List.append_nil]
  refine cP3.then ?_ (by rfl)
  simp +contextual -implicitDefEqProofs (maxSteps := 2000000) (disch := omega) only [↓lenV, binV, ↓unV, optV, ↓loadV, ↓storeV, ↓indexAddrV, ↓allocV, ↓buildV, ↓buildSliceV, ↓sliceV, bound, cutTag, hiTag, fillG, fillE, place, GVal.cells, grp, GVal.ofConst, ↓resV, resG, List.map, List.headD, List.take, List.drop, ↓reduceIte, Nat.reduceEqDiff, Nat.reduceAdd, Nat.reduceSub, Nat.reduceLeDiff, reduceCtorEq, implies_true, ne_eq, aggV, Tag.cap, List.replicate, allSolid, GVal.solid, Nat.reduceBEq, Nat.reduceMul, Nat.reduceLT, List.length_map, List.length_range, splice, vcA, ↓vcB, vcC, fbHxD, e5, kEA, kE1, kE2, kE0, drop32 kA rfl, drop32 kZ rfl, tA, lA, l1, l2, lZ, tZ, (rfl : kZ.length = 32), (rfl : kA.length = 32), t1, t2, sol_bytes, List.append_nil]
  refine cP4.then ?_ (by rfl)
  simp +contextual -implicitDefEqProofs (maxSteps := 2000000) (disch := omega) only [↓lenV, binV, ↓unV, optV, ↓loadV, ↓storeV, ↓indexAddrV, ↓allocV, ↓buildV, ↓buildSliceV, ↓sliceV, bound, cutTag, hiTag, fillG, fillE, place, GVal.cells, grp, GVal.ofConst, ↓resV, resG, List.map, List.headD, List.take, List.drop, ↓reduceIte, Nat.reduceEqDiff, Nat.reduceAdd, Nat.reduceSub, Nat.reduceLeDiff, reduceCtorEq, implies_true, ne_eq, aggV, Tag.cap, List.replicate, allSolid, GVal.solid, Nat.reduceBEq, Nat.reduceMul, Nat.reduceLT, List.length_map, List.length_range, splice, vcA, ↓vcB, vcC, fbHxD, e5, kEA, kE1, kE2, kE0, drop32 kA rfl, drop32 kZ rfl, tA, lA, l1, l2, lZ, tZ, (rfl : kZ.length = 32), (rfl : kA.length = 32), t1, t2, sol_bytes, List.append_nil]
  refine cP5.then ?_ (by rfl)
  simp +contextual -implicitDefEqProofs (maxSteps := 2000000) (disch := omega) only [↓lenV, binV, ↓unV, optV, ↓loadV, ↓storeV, ↓indexAddrV, ↓allocV, ↓buildV, ↓buildSliceV, ↓sliceV, bound, cutTag, hiTag, fillG, fillE, place, GVal.cells, grp, GVal.ofConst, ↓resV, resG, List.map, List.headD, List.take, List.drop, ↓reduceIte, Nat.reduceEqDiff, Nat.reduceAdd, Nat.reduceSub, Nat.reduceLeDiff, reduceCtorEq, implies_true, ne_eq, aggV, Tag.cap, List.replicate, allSolid, GVal.solid, Nat.reduceBEq, Nat.reduceMul, Nat.reduceLT, List.length_map, List.length_range, splice, vcA, ↓vcB, vcC, fbHxD, e5, kEA, kE1, kE2, kE0, drop32 kA rfl, drop32 kZ rfl, tA, lA, l1, l2, lZ, tZ, (rfl : kZ.length = 32), (rfl : kA.length = 32), t1, t2, sol_bytes, List.append_nil]
  refine cL1.then ?_ (by rfl)
  simp +contextual -implicitDefEqProofs (maxSteps := 2000000) (disch := omega) only [↓lenV, binV, ↓unV, optV, ↓loadV, ↓storeV, ↓indexAddrV, ↓allocV, ↓buildV, ↓buildSliceV, ↓sliceV, bound, cutTag, hiTag, fillG, fillE, place, GVal.cells, grp, GVal.ofConst, ↓resV, resG, List.map, List.headD, List.take, List.drop, ↓reduceIte, Nat.reduceEqDiff, Nat.reduceAdd, Nat.reduceSub, Nat.reduceLeDiff, reduceCtorEq, implies_true, ne_eq, aggV, Tag.cap, List.replicate, allSolid, GVal.solid, Nat.reduceBEq, Nat.reduceMul, Nat.reduceLT, List.length_map, List.length_range, splice, vcA, ↓vcB, vcC, fbHxD, e5, kEA, kE1, kE2, kE0, drop32 kA rfl, drop32 kZ rfl, tA, lA, l1, l2, lZ, tZ, (rfl : kZ.length = 32), (rfl : kA.length = 32), t1, t2, sol_bytes, List.append_nil]
  refine cL2.then ?_ (by rfl)
  simp +contextual -implicitDefEqProofs (maxSteps := 2000000) (disch := omega) only [↓lenV, binV, ↓unV, optV, ↓loadV, ↓storeV, ↓indexAddrV, ↓allocV, ↓buildV, ↓buildSliceV, ↓sliceV, bound, cutTag, hiTag, fillG, fillE, place, GVal.cells, grp, GVal.ofConst, ↓resV, resG, List.map, List.headD, List.take, List.drop, ↓reduceIte, Nat.reduceEqDiff, Nat.reduceAdd, Nat.reduceSub, Nat.reduceLeDiff, reduceCtorEq, implies_true, ne_eq, aggV, Tag.cap, List.replicate, allSolid, GVal.solid, Nat.reduceBEq, Nat.reduceMul, Nat.reduceLT, List.length_map, List.length_range, splice, vcA, ↓vcB, vcC, fbHxD, e5, kEA, kE1, kE2, kE0, drop32 kA rfl, drop32 kZ rfl, tA, lA, l1, l2, lZ, tZ, (rfl : kZ.length = 32), (rfl : kA.length = 32), t1, t2, sol_bytes, List.append_nil, z0, c1]
  refine ⟨by omega, by omega, ?_⟩
  have cD := hDigit 71 (by omega)
  rw [dG] at cD
  refine cD.then ?_ (by rfl)
  simp +contextual -implicitDefEqProofs (maxSteps := 2000000) (disch := omega) only [↓lenV, binV, ↓unV, optV, ↓loadV, ↓storeV, ↓indexAddrV, ↓allocV, ↓buildV, ↓buildSliceV, ↓sliceV, bound, cutTag, hiTag, fillG, fillE, place, GVal.cells, grp, GVal.ofConst, ↓resV, resG, List.map, List.headD, List.take, List.drop, ↓reduceIte, Nat.reduceEqDiff, Nat.reduceAdd, Nat.reduceSub, Nat.reduceLeDiff, reduceCtorEq, implies_true, ne_eq, aggV, Tag.cap, List.replicate, allSolid, GVal.solid, Nat.reduceBEq, Nat.reduceMul, Nat.reduceLT, List.length_map, List.length_range, splice, vcA, ↓vcB, vcC, fbHxD, e5, kEA, kE1, kE2, kE0, drop32 kA rfl, drop32 kZ rfl, tA, lA, l1, l2, lZ, tZ, (rfl : kZ.length = 32), (rfl : kA.length = 32), t1, t2, sol_bytes, List.append_nil]
end Gv.Tryd
