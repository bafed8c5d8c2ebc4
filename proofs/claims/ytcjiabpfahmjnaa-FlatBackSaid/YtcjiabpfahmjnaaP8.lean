/- Contracts: lines. -/
import Derived.Test.YtcjiabpfahmjnaaP7
import Derived.Test.YtcjiabpfahmjnaaP6
import Derived.Test.YtcjiabpfahmjnaaProg
import Derived.KernelRfl
set_option linter.unusedVariables false
set_option linter.unusedSimpArgs false
set_option maxRecDepth 20000
namespace Gv.Try
open Go Gv Go.Proofs

structure Seg where
  lo : Int
  hi : Int
  par : List Int
  root : Bool
  head : Bool
deriving DecidableEq, Inhabited
def segG (s : Seg) : List GVal := [.int .i64 s.lo, .int .i64 s.hi, .slice (ints s.par) .none, .bool s.root, .bool s.head]
def segsG (l : List Seg) : List (List GVal) := l.map segG
theorem segsG_length (l : List Seg) : (segsG l).length = l.length := by simp [segsG]
theorem segsG_at (l : List Seg) (i : Nat) (h : i < l.length) : (segsG l).getD i [] = segG (l.getD i default) := by simp [segsG, List.getD, h]
theorem segsG_append (a b : List Seg) : segsG (a ++ b) = segsG a ++ segsG b := by simp [segsG]
theorem segsG_one (s : Seg) : segsG [s] = [segG s] := rfl
theorem all_segsG (l : List Seg) : (∀ x ∈ segsG l, x.length = 5) = True := by simp [segsG, segG]
theorem segsG_set (l : List Seg) (i : Nat) (s : Seg) : (segsG l).set i (segG s) = segsG (l.set i s) := by simp [segsG, List.map_set]
theorem frz_segs (O : List GObj) (n : Nat) (l : List Seg) : frzLL (Gv.frz O (n + 2)) (segsG l) = some (segsG l) :=
  frzLL_same fun x hx => by
    obtain ⟨s, _, rfl⟩ := List.mem_map.1 hx
    simp only [segG, frzL, frz_intsS, Tag.frz]
    simp [Gv.frz]

/-- the heads' map -/
def headsG (l : List Int) : List (GVal × GVal) := l.map fun n => (.int .i64 n, .bool true)
theorem headsG_length (l : List Int) : (headsG l).length = l.length := by simp [headsG]
def hins (l : List Int) (n : Int) : List Int := if n ∈ l then l else l ++ [n]
theorem kfind_heads (p : Int) : ∀ l : List Int, kfind ⟨[.int], false⟩ (.int .i64 p) (headsG l) = some (if p ∈ l then some (l.idxOf p) else none)
  | [] => rfl
  | a :: l => by
    have ih := kfind_heads p l
    show kfind _ _ ((GVal.int .i64 a, GVal.bool true) :: headsG l) = _
    unfold kfind
    have e : keyEq ⟨[.int], false⟩ (.int .i64 p) (.int .i64 a) = some (p == a) := by
      simp [keyEq, keyCells, cellsEq, ceq]
    rw [e, ih]
    by_cases h : p = a
    · subst h; simp
    · have h' : (p == a) = false := by simpa using h
      rw [h']
      by_cases hm : p ∈ l
      · have h2 : (a == p) = false := by simpa using Ne.symm h
        simp [hm, h, List.idxOf_cons, h2]
      · simp [hm, h]

theorem map_eraseIdx' {α β : Type} (f : α → β) : ∀ (l : List α) (i : Nat), (l.map f).eraseIdx i = (l.eraseIdx i).map f
  | [], _ => rfl
  | a :: l, 0 => rfl
  | a :: l, i + 1 => by simp [map_eraseIdx' f l i]
theorem delete_heads (P : Program) (t : TypeId) (u : TypeId) (hk : keyT P t = some (⟨[.int], false⟩, u)) (st : Nat) (p : Int) (hs : List Int) (r : List GObj) (K : List GObj → Prop) :
    deleteV P t (.map 0 st) (.int .i64 p) (.map st (headsG hs) :: r) K = K (.map st (headsG (hs.erase p)) :: r) := by
  unfold deleteV
  rw [hk]
  simp only [keyOk, keyCells, List.length_cons, List.length_nil, List.getElem?_cons_zero, true_and, kfind_heads]
  by_cases h : p ∈ hs
  · rw [if_pos h]
    simp only [List.set_cons_zero]
    rw [List.erase_eq_eraseIdx_of_idxOf (i := hs.idxOf p) rfl]
    rw [headsG, map_eraseIdx']; rfl
  · rw [if_neg h, List.erase_of_not_mem h]
theorem update_heads (P : Program) (t : TypeId) (u : TypeId) (hk : keyT P t = some (⟨[.int], false⟩, u)) (st : Nat) (p : Int) (hs : List Int) (r : List GObj) (K : List GObj → Prop) :
    mapUpdateV P t (.map 0 st) (.int .i64 p) (.bool true) (.map st (headsG hs) :: r) K = K (.map st (headsG (hins hs p)) :: r) := by
  unfold mapUpdateV
  rw [hk]
  simp only [keyOk, keyCells, List.length_cons, List.length_nil, List.getElem?_cons_zero, true_and, kfind_heads]
  by_cases h : p ∈ hs
  · rw [if_pos h, hins, if_pos h]
    simp only [List.set_cons_zero]
    have : (headsG hs).set (hs.idxOf p) (.int .i64 p, .bool true) = headsG hs := by
      have h1 : hs.idxOf p < hs.length := List.idxOf_lt_length_iff.2 h
      have h2 : hs[hs.idxOf p] = p := List.getElem_idxOf h1
      apply List.ext_getElem (by simp)
      intro i h3 h4
      rw [List.getElem_set]
      split
      · rename_i e; subst e; simp [headsG, h2]
      · rfl
    rw [this]
  · rw [if_neg h, hins, if_neg h]
    simp [headsG]

def hdel (l : List Int) : List Int → List Int
  | [] => l
  | p :: r => hdel (l.erase p) r
theorem hdel_append (l a b : List Int) : hdel l (a ++ b) = hdel (hdel l a) b := by
  induction a generalizing l with
  | nil => rfl
  | cons x a ih => exact ih _
theorem hdel_take (l q : List Int) (i : Nat) (h : i < q.length) : hdel l (q.take (i + 1)) = (hdel l (q.take i)).erase (q.getD i 0) := by
  rw [List.take_add_one, hdel_append]
  simp [List.getElem?_eq_getElem h, hdel, List.getD]

theorem toNat_pred (n : Nat) : ((n : Int) - 1).toNat = n - 1 := by omega
theorem getD_set_segs (l : List Seg) (i : Nat) (x d : List GVal) (h : i < l.length) : ((segsG l).set i x).getD i d = x := by
  have : i < (segsG l).length := by rw [segsG_length]; exact h
  simp [List.getD, this]
theorem getD_set_same {α : Type} (l : List α) (i : Nat) (x d : α) (h : i < l.length) : (l.set i x).getD i d = x := by simp [List.getD, h]
theorem cast_beq_one (n : Nat) : ((n : Int) == 1) = decide (n = 1) := by
  rw [Bool.eq_iff_iff, beq_iff_eq, decide_eq_true_iff]; omega
theorem cast_beq_zero (n : Nat) : ((n : Int) == 0) = decide (n = 0) := by
  rw [Bool.eq_iff_iff, beq_iff_eq, decide_eq_true_iff]; omega
structure LSt where
  out : List Seg
  hs : List Int
def lstep (frm : Int) (s : LSt) (k : Nat) (q : List Int) : LSt :=
  let hs := hins (hdel s.hs q) (frm + k)
  if 0 < k ∧ q.length = 1 ∧ q.getD 0 0 = frm + k - 1 then ⟨s.out.set (s.out.length - 1) { s.out.getD (s.out.length - 1) default with hi := frm + k, head := decide (hs.length = 1) }, hs⟩
  else ⟨s.out ++ [⟨frm + k, frm + k, q, decide (q.length = 0), decide (hs.length = 1)⟩], hs⟩
def lrun (frm : Int) (l : List (List Int)) : Nat → LSt
  | 0 => ⟨[], []⟩
  | n + 1 => lstep frm (lrun frm l n) n (l.getD n [])
def linesI (frm : Int) (l : List (List Int)) : List Seg := (lrun frm l l.length).out
theorem lstep_len (frm : Int) (s : LSt) (k : Nat) (q : List Int) : (lstep frm s k q).out.length ≤ s.out.length + 1 ∧ s.out.length ≤ (lstep frm s k q).out.length ∧ (s.out = [] ∧ k ≠ 0 ∨ (lstep frm s k q).out ≠ []) := by
  unfold lstep
  simp only
  split
  · rename_i h
    refine ⟨by simp, by simp, ?_⟩
    by_cases e : s.out = []
    · exact .inl ⟨e, by omega⟩
    · right; simpa using e
  · exact ⟨by simp, by simp, .inr (by simp)⟩
theorem lrun_len (frm : Int) (l : List (List Int)) : ∀ k, (lrun frm l k).out.length ≤ k ∧ (k ≠ 0 → (lrun frm l k).out ≠ [])
  | 0 => by simp [lrun]
  | k + 1 => by
    have h := lstep_len frm (lrun frm l k) k (l.getD k [])
    have ih := lrun_len frm l k
    refine ⟨by rw [lrun]; omega, fun _ => ?_⟩
    rcases h.2.2 with h1 | h1
    · exact absurd h1.1 (ih.2 h1.2)
    · rw [lrun]; exact h1

theorem c41 (l : List (List Int)) (t : Tag) (frm : Int) (hl : l.length ≤ 1000) (hf : 0 ≤ frm) (hf2 : frm ≤ 1099511627776) (hr : ∀ p ∈ l, p.length ≤ 4) :
    GCalls Try.prog 41 [.slice (tabG l) t, .int .i64 frm] [] (fun g O' => ∃ st0 st1, g = .own 1 st1 0 (linesI frm l).length ∧ O' = [.map st0 (headsG (lrun frm l l.length).hs), .row st1 5 (segsG (linesI frm l))]) := by
  refine h41.calls mixS (by simp) ?_
  simp only [gstart, s41, List.cons_append, List.nil_append, List.length_cons, List.length_nil, Nat.reduceAdd, Nat.reduceSub, List.replicate_succ, List.replicate_zero]
  simp +contextual -implicitDefEqProofs (maxSteps := 2000000) (disch := omega) only [↓lenV, binV, optV, ↓loadV, ↓storeV, ↓fieldAddrV, ↓indexAddrV, ↓buildV, ↓buildSliceV, ↓sliceV, ↓nilV, ↓appendV, ↓srcV, bound, cutTag, hiTag, fillG, fillE, place, GVal.cells, grp, GVal.ofConst, ↓resV, resG, List.map, List.headD, List.take, List.drop, ↓reduceIte, Nat.reduceEqDiff, Nat.reduceAdd, Nat.reduceSub, Nat.reduceLeDiff, reduceCtorEq, implies_true, ne_eq, ↓asrcV, ↓mapUpdateV, ↓deleteV, ↓makeMapV, keyOk, keyCells, aggV, Tag.cap, List.replicate, allSolid, GVal.solid, Nat.reduceBEq, Nat.reduceMul, Nat.reduceLT, List.length_map, List.length_range, splice, vcA, ↓vcB, vcC, fbA, e41]
  intro st0
  refine vcSLoop_by (ι := { p : Nat × Nat // p.1 ≤ l.length }) (fun p => ⟨[.slice (tabG l) t, .int .i64 frm, .any, .any, .any, .own 1 p.1.2 0 (lrun frm l p.1.1).out.length, .map 0 st0, .any, .any, .any, .any, .any, .any, .any, .slice (tabG l) t, .int .i64 l.length, .int .i64 (p.1.1 : Nat)] ++ List.replicate 64 .any, [.map st0 (headsG (lrun frm l p.1.1).hs), .row p.1.2 5 (segsG (lrun frm l p.1.1).out)]⟩) (fun p => l.length - p.1.1) ?_ ?_
  · refine Into.row 5 5 rfl rfl ?_
    simp +contextual -implicitDefEqProofs (maxSteps := 2000000) (disch := omega) only [↓lenV, binV, optV, ↓loadV, ↓storeV, ↓fieldAddrV, ↓indexAddrV, ↓buildV, ↓buildSliceV, ↓sliceV, ↓nilV, ↓appendV, ↓srcV, bound, cutTag, hiTag, fillG, fillE, place, GVal.cells, grp, GVal.ofConst, ↓resV, resG, List.map, List.headD, List.take, List.drop, ↓reduceIte, Nat.reduceEqDiff, Nat.reduceAdd, Nat.reduceSub, Nat.reduceLeDiff, reduceCtorEq, implies_true, ne_eq, ↓asrcV, ↓mapUpdateV, ↓deleteV, ↓makeMapV, keyOk, keyCells, aggV, Tag.cap, List.replicate, allSolid, GVal.solid, Nat.reduceBEq, Nat.reduceMul, Nat.reduceLT, List.length_map, List.length_range, splice, vcA, ↓vcB, vcC, fbA, e41]
    intro t
    exact Into.first ⟨(0, t), by omega⟩ ⟨[], by simp [lrun, headsG, segsG]⟩ (by simp [WL, leG_self, leG_any, lrun])
  · rintro ⟨⟨k, st1⟩, hk⟩
    simp +contextual -implicitDefEqProofs (maxSteps := 2000000) (disch := omega) only [↓lenV, binV, optV, ↓loadV, ↓storeV, ↓fieldAddrV, ↓indexAddrV, ↓buildV, ↓buildSliceV, ↓sliceV, ↓nilV, ↓appendV, ↓srcV, bound, cutTag, hiTag, fillG, fillE, place, GVal.cells, grp, GVal.ofConst, ↓resV, resG, List.map, List.headD, List.take, List.drop, ↓reduceIte, Nat.reduceEqDiff, Nat.reduceAdd, Nat.reduceSub, Nat.reduceLeDiff, reduceCtorEq, implies_true, ne_eq, ↓asrcV, ↓mapUpdateV, ↓deleteV, ↓makeMapV, keyOk, keyCells, aggV, Tag.cap, List.replicate, allSolid, GVal.solid, Nat.reduceBEq, Nat.reduceMul, Nat.reduceLT, List.length_map, List.length_range, splice, vcA, ↓vcB, vcC, fbA, e41]
    refine ⟨fun h => ⟨by omega, ?_⟩, fun h => ?_⟩
    · have hkl : k < l.length := by omega
      have hq : (l.getD k []).length ≤ 4 := by
        rw [List.getD_eq_getElem?_getD, List.getElem?_eq_getElem hkl]; exact hr _ (List.getElem_mem hkl)
      have hrun : lrun frm l (k + 1) = lstep frm (lrun frm l k) k (l.getD k []) := rfl
      have hlen := lrun_len frm l k
      revert hrun hlen
      generalize lrun frm l k = s0
      generalize hs1 : lrun frm l (k + 1) = s1
      generalize l.getD k [] = q at *
      intro hrun hlen
      refine vcSLoop_by (ι := { i : Nat // i ≤ q.length }) (fun i => ⟨[.slice (tabG l) t, .int .i64 frm, .any, .any, .any, .own 1 st1 0 s0.out.length, .map 0 st0, .int .i64 (k : Nat), .slice (ints q) .none, .int .i64 (frm + k), .any, .any, .any, .any, .slice (tabG l) t, .int .i64 l.length, .int .i64 (k : Nat), .any, .any, .any, .any, .any, .any, .any, .slice (ints q) .none, .int .i64 q.length, .int .i64 (i.1 : Nat)] ++ List.replicate 54 .any, [.map st0 (headsG (hdel s0.hs (q.take i.1))), .row st1 5 (segsG s0.out)]⟩) (fun i => q.length - i.1) ?_ ?_
      · exact Into.first ⟨0, by omega⟩ ⟨[], by simp [hdel]⟩ (by simp [WL, leG_self, leG_any])
      · rintro ⟨i, hi⟩
        have hpos : 0 < k → 0 < s0.out.length := fun h => List.length_pos_iff.2 (hlen.2 (by omega))
        have c58 := spec58 q .none (by omega) (by simp)
        simp +contextual -implicitDefEqProofs (maxSteps := 2000000) (disch := omega) only [↓lenV, binV, optV, ↓loadV, ↓storeV, ↓fieldAddrV, ↓indexAddrV, ↓buildV, ↓buildSliceV, ↓sliceV, ↓nilV, ↓appendV, ↓srcV, bound, cutTag, hiTag, fillG, fillE, place, GVal.cells, grp, GVal.ofConst, ↓resV, resG, List.map, List.headD, List.take, List.drop, ↓reduceIte, Nat.reduceEqDiff, Nat.reduceAdd, Nat.reduceSub, Nat.reduceLeDiff, reduceCtorEq, implies_true, ne_eq, ↓asrcV, ↓makeMapV, keyOk, keyCells, aggV, Tag.cap, List.replicate, allSolid, GVal.solid, Nat.reduceBEq, Nat.reduceMul, Nat.reduceLT, List.length_map, List.length_range, splice, vcA, ↓vcB, vcC, fbA, e41, delete_heads Try.prog 90 4 keyT90, update_heads Try.prog 90 4 keyT90, headsG_length, segsG_length, toNat_pred, getD_set_segs, segsG_at, segG, List.set_set, List.length_set, Int.toNat_zero, cast_beq_one, cast_beq_zero]
        refine ⟨fun h2 => ⟨by omega, ?_⟩, fun h2 => ?_⟩
        · exact Into.at ⟨i + 1, by omega⟩ (by show _ < _; simp; omega) ⟨[], by simp [hdel_take _ q i (by omega)]⟩ (by simp [WL, leG_self, leG_any, leG_int])
        · rw [List.take_of_length_le (by omega)]
          refine ⟨fun h3 => ⟨fun h4 => ⟨by omega, by omega, fun h5 => ?_, fun h5 => ?_⟩, fun h4 => ?_⟩, fun h3 => ?_⟩
          · have hp := hpos (by omega)
            refine ⟨by omega, by omega, by omega, by omega, by omega, ?_⟩
            have e : s1 = ⟨s0.out.set (s0.out.length - 1) { s0.out.getD (s0.out.length - 1) default with hi := frm + k, head := decide ((hins (hdel s0.hs q) (frm + k)).length = 1) }, hins (hdel s0.hs q) (frm + k)⟩ := by
              rw [hrun, lstep, if_pos ⟨by omega, h4, h5⟩]
            refine Into.at ⟨(k + 1, st1), by show k + 1 ≤ _; omega⟩ (by show _ < _; simp; omega) ⟨[], ?_⟩ ?_
            · simp only [hs1, e, ← segsG_set, List.append_nil]; rfl
            · simp [WL, leG_self, leG_any, leG_int, hs1, e]
          all_goals
            have hn : ¬ (0 < k ∧ q.length = 1 ∧ q.getD 0 0 = frm + k - 1) := by omega
            have e : s1 = ⟨s0.out ++ [⟨frm + k, frm + k, q, decide (q.length = 0), decide ((hins (hdel s0.hs q) (frm + k)).length = 1)⟩], hins (hdel s0.hs q) (frm + k)⟩ := by
              rw [hrun, lstep, if_neg hn]
            refine c58.then ?_
            simp +contextual -implicitDefEqProofs (maxSteps := 2000000) (disch := omega) only [↓lenV, binV, optV, ↓loadV, ↓storeV, ↓fieldAddrV, ↓indexAddrV, ↓buildV, ↓buildSliceV, ↓sliceV, ↓nilV, ↓appendV, ↓srcV, bound, cutTag, hiTag, fillG, fillE, place, GVal.cells, grp, GVal.ofConst, ↓resV, resG, List.map, List.headD, List.take, List.drop, ↓reduceIte, Nat.reduceEqDiff, Nat.reduceAdd, Nat.reduceSub, Nat.reduceLeDiff, reduceCtorEq, implies_true, ne_eq, ↓asrcV, ↓makeMapV, keyOk, keyCells, aggV, Tag.cap, List.replicate, allSolid, GVal.solid, Nat.reduceBEq, Nat.reduceMul, Nat.reduceLT, List.length_map, List.length_range, splice, vcA, ↓vcB, vcC, fbA, e41, delete_heads Try.prog 90 4 keyT90, update_heads Try.prog 90 4 keyT90, headsG_length, segsG_length, toNat_pred, getD_set_segs, segsG_at, segG, all_segsG, List.set_set, List.length_set, Int.toNat_zero, cast_beq_one, cast_beq_zero, List.take_length]
            refine ⟨by omega, by omega, by omega, fun st => ?_⟩
            refine Into.at ⟨(k + 1, st), by show k + 1 ≤ _; omega⟩ (by show _ < _; simp; omega) ⟨[], ?_⟩ ?_
            · simp only [hs1, e, List.append_nil, segsG_append, segsG_one]
              rw [List.take_of_length_le (by rw [segsG_length]; omega)]; rfl
            · simp [WL, leG_self, leG_any, leG_int, hs1, e]
    · have hk' : k = l.length := by simp at hk; omega
      subst hk'
      exact ⟨st0, st1, rfl, rfl⟩

theorem spec41 (l : List (List Int)) (t : Tag) (frm : Int) (hl : l.length ≤ 1000) (hf : 0 ≤ frm) (hf2 : frm ≤ 1099511627776) (hr : ∀ p ∈ l, p.length ≤ 4) :
    GPure Try.prog 41 [.slice (tabG l) t, .int .i64 frm] (.slice (segsG (linesI frm l)) .none) :=
  GCalls.toPure ((c41 l t frm hl hf hf2 hr).mono fun g O' ⟨st0, st1, e1, e2⟩ => ⟨4, .slice (segsG (linesI frm l)) .none, by
    rw [e1, e2]; exact frz_own rfl (segsG_length _).symm (frz_segs _ 1 _), by rw [leA_slice]⟩)

/-- a table's segments -/
def buildI (m o : List (List Int)) : List Seg := if rightI m o = true then linesI 0 m ++ linesI split o else []

theorem okG_row {m o : Nat} {most : Int} : ∀ {l : List (List Int)} {frm : Int}, okG m o most frm l = true → ∀ p ∈ l, p.length ≤ 4
  | [], _, _, p, hp => by simp at hp
  | a :: l, frm, h, p, hp => by
    simp only [okG, Bool.and_eq_true, decide_eq_true_eq] at h
    rcases List.mem_cons.1 hp with rfl | hp
    · exact h.1.2
    · exact okG_row h.2 p hp

theorem spec12 (m o : List (List Int)) (tm to : Tag) (hm : m.length ≤ 1000) (ho : o.length ≤ 1000) (hr : ∀ p ∈ m, p.length ≤ 17592186044416) (hr2 : ∀ p ∈ o, p.length ≤ 17592186044416) :
    GPure Try.prog 12 [.agg [.slice (tabG m) tm, .slice (tabG o) to]] (.slice (segsG (buildI m o)) .none) := by
  refine h12.pureF mixS (by simp) ?_
  simp only [gstart, s12, List.cons_append, List.nil_append, List.length_cons, List.length_nil, Nat.reduceAdd, Nat.reduceSub, List.replicate_succ, List.replicate_zero]
  simp +contextual -implicitDefEqProofs (maxSteps := 2000000) (disch := omega) only [drawC, ↓unV, optV, ↓loadV, ↓fieldAddrV, ↓boxV, ↓sliceV, ↓appendV, ↓srcV, bound, cutTag, hiTag, GVal.cells, grp, GVal.ofConst, ↓resV, resG, List.map, List.headD, List.take, List.drop, ↓reduceIte, Nat.reduceEqDiff, Nat.reduceAdd, Nat.reduceSub, Nat.reduceLeDiff, reduceCtorEq, implies_true, ne_eq, ↓asrcV, Tag.cap, List.replicate, allSolid, GVal.solid, Nat.reduceBEq, Nat.reduceMul, Nat.reduceLT, List.length_map, List.length_range, splice, vcA, ↓vcB, vcC, fbA, e12]
  have c34 := spec34 m o tm to hm ho hr hr2
  unfold buildI
  cases hh : rightI m o
  · rw [hh] at c34
    refine c34.then ?_
    simp +contextual -implicitDefEqProofs (maxSteps := 2000000) (disch := omega) only [drawC, ↓unV, optV, ↓loadV, ↓fieldAddrV, ↓boxV, ↓sliceV, ↓appendV, ↓srcV, bound, cutTag, hiTag, GVal.cells, grp, GVal.ofConst, ↓resV, resG, List.map, List.headD, List.take, List.drop, ↓reduceIte, Nat.reduceEqDiff, Nat.reduceAdd, Nat.reduceSub, Nat.reduceLeDiff, reduceCtorEq, implies_true, ne_eq, ↓asrcV, Tag.cap, List.replicate, allSolid, GVal.solid, Nat.reduceBEq, Nat.reduceMul, Nat.reduceLT, List.length_map, List.length_range, splice, vcA, ↓vcB, vcC, fbA, e12]
    exact ⟨2, .slice [] .nil, rfl, by rw [leA_slice]; rfl⟩
  · rw [hh] at c34
    have h2 : okG m.length o.length 1099511627775 0 m = true ∧ okG m.length o.length (split + o.length) split o = true := by
      simpa [rightI] using hh
    refine c34.then ?_
    simp +contextual -implicitDefEqProofs (maxSteps := 2000000) (disch := omega) only [drawC, ↓unV, optV, ↓loadV, ↓fieldAddrV, ↓boxV, ↓sliceV, ↓appendV, ↓srcV, bound, cutTag, hiTag, GVal.cells, grp, GVal.ofConst, ↓resV, resG, List.map, List.headD, List.take, List.drop, ↓reduceIte, Nat.reduceEqDiff, Nat.reduceAdd, Nat.reduceSub, Nat.reduceLeDiff, reduceCtorEq, implies_true, ne_eq, ↓asrcV, Tag.cap, List.replicate, allSolid, GVal.solid, Nat.reduceBEq, Nat.reduceMul, Nat.reduceLT, List.length_map, List.length_range, splice, vcA, ↓vcB, vcC, fbA, e12]
    refine (c41 m tm 0 hm (by omega) (by omega) (okG_row h2.1)).mono ?_
    rintro g O' ⟨st0, st1, rfl, rfl⟩
    simp +contextual -implicitDefEqProofs (maxSteps := 2000000) (disch := omega) only [drawC, ↓unV, optV, ↓loadV, ↓fieldAddrV, ↓boxV, ↓sliceV, ↓appendV, ↓srcV, bound, cutTag, hiTag, GVal.cells, grp, GVal.ofConst, ↓resV, resG, List.map, List.headD, List.take, List.drop, ↓reduceIte, Nat.reduceEqDiff, Nat.reduceAdd, Nat.reduceSub, Nat.reduceLeDiff, reduceCtorEq, implies_true, ne_eq, ↓asrcV, Tag.cap, List.replicate, allSolid, GVal.solid, Nat.reduceBEq, Nat.reduceMul, Nat.reduceLT, List.length_map, List.length_range, splice, vcA, ↓vcB, vcC, fbA, e12]
    refine ⟨⟨_, rfl⟩, ?_⟩
    refine (spec41 o to 1099511627776 ho (by omega) (by omega) (okG_row h2.2)).then ?_
    simp +contextual -implicitDefEqProofs (maxSteps := 2000000) (disch := omega) only [drawC, ↓unV, optV, ↓loadV, ↓fieldAddrV, ↓boxV, ↓sliceV, ↓appendV, ↓srcV, bound, cutTag, hiTag, GVal.cells, grp, GVal.ofConst, ↓resV, resG, List.map, List.headD, List.take, List.drop, ↓reduceIte, Nat.reduceEqDiff, Nat.reduceAdd, Nat.reduceSub, Nat.reduceLeDiff, reduceCtorEq, implies_true, ne_eq, ↓asrcV, Tag.cap, List.replicate, allSolid, GVal.solid, Nat.reduceBEq, Nat.reduceMul, Nat.reduceLT, List.length_map, List.length_range, splice, vcA, ↓vcB, vcC, fbA, e12, all_segsG, segsG_length]
    have l1 := (lrun_len 0 m m.length).1
    have l2 := (lrun_len 1099511627776 o o.length).1
    have e1 : (linesI 0 m).length ≤ 1000 := by rw [linesI]; omega
    have e2 : (linesI 1099511627776 o).length ≤ 1000 := by rw [linesI]; omega
    refine ⟨by omega, by omega, by omega, fun st => ?_⟩
    refine ⟨4, .slice (segsG (linesI 0 m ++ linesI split o)) .none, ?_, by rw [leA_slice]⟩
    rw [List.take_of_length_le (by rw [segsG_length]; omega), ← segsG_append]
    exact frz_own rfl (by rw [segsG_length, List.length_append]; rfl) (frz_segs _ 1 _)

end Gv.Try
/- Contracts: a raw table. -/
set_option linter.unusedVariables false
set_option linter.unusedSimpArgs false
set_option maxRecDepth 20000
namespace Gv.Try
open Go Gv Go.Proofs

/-- the rows that a raw list makes, one after the other -/
def rowsM (x : List Int) : Nat → List (List Int)
  | 0 => []
  | k + 1 => rowsM x k ++ [par (x.getD k 0) (allI (rowsM x k).length 0)]
def rowsO (mm : Nat) (x : List Int) : Nat → List (List Int)
  | 0 => []
  | k + 1 => rowsO mm x k ++ [par (x.getD k 0) (allI mm (rowsO mm x k).length)]
def tabM (x : List Int) : List (List Int) := rowsM x (min x.length 25)
def tabO (x y : List Int) : List (List Int) := rowsO (tabM x).length y (min y.length 25)
theorem rowsM_len (x : List Int) : ∀ k, (rowsM x k).length = k
  | 0 => rfl
  | k + 1 => by simp [rowsM, rowsM_len x k]
theorem rowsO_len (mm : Nat) (x : List Int) : ∀ k, (rowsO mm x k).length = k
  | 0 => rfl
  | k + 1 => by simp [rowsO, rowsO_len mm x k]
theorem allI_len (m o : Nat) : (allI m o).length = m + o := by simp [allI, ups_length]
theorem tabG_one (p : List Int) : tabG [p] = [[.slice (ints p) .none]] := rfl

theorem frz_tab (O : List GObj) (n : Nat) (l : List (List Int)) : frzLL (Gv.frz O (n + 2)) (tabG l) = some (tabG l) :=
  frzLL_same fun x hx => by
    obtain ⟨s, _, rfl⟩ := List.mem_map.1 hx
    simp only [frzL, frz_intsS, Tag.frz]
theorem frz_tabS (O : List GObj) (n : Nat) (l : List (List Int)) (t : Tag) : Gv.frz O (n + 3) (.slice (tabG l) t) = some (.slice (tabG l) t.frz) := by
  rw [Gv.frz, frz_tab]
theorem frz_agg2 {O : List GObj} {n : Nat} {a b a' b' : GVal} (ha : Gv.frz O n a = some a') (hb : Gv.frz O n b = some b') : Gv.frz O (n + 1) (.agg [a, b]) = some (.agg [a', b']) := by
  rw [Gv.frz]; simp [frzL, ha, hb]

theorem spec11 (x y : List Int) (tx ty : Tag) :
    GPure Try.prog 11 [.agg [.slice (ints x) tx, .slice (ints y) ty]] (.agg [.slice (tabG (tabM x)) .none, .slice (tabG (tabO x y)) .none]) := by
  refine h11.pureF mixS (by simp) ?_
  simp only [gstart, s11, List.cons_append, List.nil_append, List.length_cons, List.length_nil, Nat.reduceAdd, Nat.reduceSub, List.replicate_succ, List.replicate_zero]
  simp +contextual -implicitDefEqProofs (maxSteps := 2000000) (disch := omega) only [drawC, ↓lenV, binV, ↓loadV, ↓storeV, ↓fieldAddrV, ↓indexAddrV, ↓allocV, ↓boxV, ↓buildSliceV, ↓appendV, ↓srcV, fillE, GVal.cells, grp, GVal.ofConst, ↓resV, resG, List.map, List.headD, List.take, List.drop, ↓reduceIte, Nat.reduceEqDiff, Nat.reduceAdd, Nat.reduceSub, Nat.reduceLeDiff, reduceCtorEq, implies_true, ne_eq, ↓asrcV, Tag.cap, List.replicate, allSolid, GVal.solid, Nat.reduceBEq, Nat.reduceMul, Nat.reduceLT, List.length_map, List.length_range, splice, vcA, ↓vcB, vcC, fbA, e11]
  intro st0 st1
  have hM := rowsM_len x
  refine vcSLoop_by (ι := { p : Nat × Nat // p.1 ≤ min x.length 25 }) (fun p => ⟨[.agg [.slice (ints x) tx, .slice (ints y) ty], .ref [.slice (ints x) tx, .slice (ints y) ty], .ptr 0 st0 0 0, .ptr 1 st1 0 0, .int .i64 (p.1.1 : Nat)] ++ List.replicate 50 .any, [.row st0 2 [[.slice [] .nil, .slice [] .nil]], .row st1 2 [[.slice (tabG (rowsM x p.1.1)) (.tok 2 p.1.2), .slice [] .nil]], .tok p.1.2 1]⟩) (fun p => min x.length 25 - p.1.1) ?_ ?_
  · refine Into.cellTok 1 0 1 [] rfl rfl rfl rfl ?_
    simp +contextual -implicitDefEqProofs (maxSteps := 2000000) (disch := omega) only [drawC, ↓lenV, binV, ↓loadV, ↓storeV, ↓fieldAddrV, ↓indexAddrV, ↓allocV, ↓boxV, ↓buildSliceV, ↓appendV, ↓srcV, fillE, GVal.cells, grp, GVal.ofConst, ↓resV, resG, List.map, List.headD, List.take, List.drop, ↓reduceIte, Nat.reduceEqDiff, Nat.reduceAdd, Nat.reduceSub, Nat.reduceLeDiff, reduceCtorEq, implies_true, ne_eq, ↓asrcV, Tag.cap, List.replicate, allSolid, GVal.solid, Nat.reduceBEq, Nat.reduceMul, Nat.reduceLT, List.length_map, List.length_range, splice, vcA, ↓vcB, vcC, fbA, e11]
    intro t
    exact Into.first ⟨(0, t), by omega⟩ ⟨[], by simp [rowsM, tabG_nil]⟩ (by simp [WL, leG_self, leG_any])
  · rintro ⟨⟨k, u⟩, hk⟩
    simp +contextual -implicitDefEqProofs (maxSteps := 2000000) (disch := omega) only [drawC, ↓lenV, binV, ↓loadV, ↓storeV, ↓fieldAddrV, ↓indexAddrV, ↓allocV, ↓boxV, ↓buildSliceV, ↓appendV, ↓srcV, fillE, GVal.cells, grp, GVal.ofConst, ↓resV, resG, List.map, List.headD, List.take, List.drop, ↓reduceIte, Nat.reduceEqDiff, Nat.reduceAdd, Nat.reduceSub, Nat.reduceLeDiff, reduceCtorEq, implies_true, ne_eq, ↓asrcV, Tag.cap, List.replicate, allSolid, GVal.solid, Nat.reduceBEq, Nat.reduceMul, Nat.reduceLT, List.length_map, List.length_range, splice, vcA, ↓vcB, vcC, fbA, e11]
    refine ⟨fun h => ⟨fun h2 => ⟨by omega, ?_⟩, fun h2 => ?_⟩, fun h => ?_⟩
    · have c14 := spec14 (rowsM x k) [] (.tok 2 u) .nil (by rw [hM]; omega) (by simp)
      refine c14.then ?_
      simp +contextual -implicitDefEqProofs (maxSteps := 2000000) (disch := omega) only [drawC, ↓lenV, binV, ↓loadV, ↓storeV, ↓fieldAddrV, ↓indexAddrV, ↓allocV, ↓boxV, ↓buildSliceV, ↓appendV, ↓srcV, fillE, GVal.cells, grp, GVal.ofConst, ↓resV, resG, List.map, List.headD, List.take, List.drop, ↓reduceIte, Nat.reduceEqDiff, Nat.reduceAdd, Nat.reduceSub, Nat.reduceLeDiff, reduceCtorEq, implies_true, ne_eq, ↓asrcV, Tag.cap, List.replicate, allSolid, GVal.solid, Nat.reduceBEq, Nat.reduceMul, Nat.reduceLT, List.length_map, List.length_range, splice, vcA, ↓vcB, vcC, fbA, e11]
      refine ⟨⟨[], by simp⟩, ?_⟩
      have c40 := spec40 (x.getD k 0) (allI (rowsM x k).length 0) .none (by rw [allI_len, hM]; omega)
      refine c40.then ?_
      simp +contextual -implicitDefEqProofs (maxSteps := 2000000) (disch := omega) only [drawC, ↓lenV, binV, ↓loadV, ↓storeV, ↓fieldAddrV, ↓indexAddrV, ↓allocV, ↓boxV, ↓buildSliceV, ↓appendV, ↓srcV, fillE, GVal.cells, grp, GVal.ofConst, ↓resV, resG, List.map, List.headD, List.take, List.drop, ↓reduceIte, Nat.reduceEqDiff, Nat.reduceAdd, Nat.reduceSub, Nat.reduceLeDiff, reduceCtorEq, implies_true, ne_eq, ↓asrcV, Tag.cap, List.replicate, allSolid, GVal.solid, Nat.reduceBEq, Nat.reduceMul, Nat.reduceLT, List.length_map, List.length_range, splice, vcA, ↓vcB, vcC, fbA, e11, hM]
      refine ⟨⟨[], by simp⟩, by omega, by omega, fun st => ?_⟩
      exact Into.at ⟨(k + 1, st), by show k + 1 ≤ _; omega⟩ (by show _ < _; simp; omega) ⟨[], by simp [rowsM, tabG_append, tabG_one, hM]⟩ (by simp [WL, leG_self, leG_any, leG_int])
    all_goals
      have hk' : k = min x.length 25 := by simp at hk; omega
      have eM : rowsM x k = tabM x := by rw [tabM, hk']
      have hmm : (tabM x).length ≤ 25 := by rw [tabM, hM]; omega
      have hO := rowsO_len (tabM x).length y
      rw [eM]
      refine vcSLoop_by (ι := { p : Nat × Nat // p.1 ≤ min y.length 25 }) (fun p => ⟨[.agg [.slice (ints x) tx, .slice (ints y) ty], .ref [.slice (ints x) tx, .slice (ints y) ty], .ptr 0 st0 0 0, .ptr 1 st1 0 0, .any, .int .i64 (p.1.1 : Nat)] ++ List.replicate 49 .any, [.row st0 2 [[.slice [] .nil, .slice [] .nil]], .row st1 2 [[.slice (tabG (tabM x)) .none, .slice (tabG (rowsO (tabM x).length y p.1.1)) (.tok 2 p.1.2)]], .tok p.1.2 1]⟩) (fun p => min y.length 25 - p.1.1) ?_ ?_
      · refine Into.cells 1 [.slice (tabG (tabM x)) .none, .slice [] .nil] rfl rfl (by simp [WL, leG_none, leG_self]) ?_
        simp +contextual -implicitDefEqProofs (maxSteps := 2000000) (disch := omega) only [drawC, ↓lenV, binV, ↓loadV, ↓storeV, ↓fieldAddrV, ↓indexAddrV, ↓allocV, ↓boxV, ↓buildSliceV, ↓appendV, ↓srcV, fillE, GVal.cells, grp, GVal.ofConst, ↓resV, resG, List.map, List.headD, List.take, List.drop, ↓reduceIte, Nat.reduceEqDiff, Nat.reduceAdd, Nat.reduceSub, Nat.reduceLeDiff, reduceCtorEq, implies_true, ne_eq, ↓asrcV, Tag.cap, List.replicate, allSolid, GVal.solid, Nat.reduceBEq, Nat.reduceMul, Nat.reduceLT, List.length_map, List.length_range, splice, vcA, ↓vcB, vcC, fbA, e11]
        refine Into.drop (O := [_, _]) (X := [_]) rfl ?_
        refine Into.cellTok 1 1 1 [] rfl rfl rfl rfl ?_
        simp +contextual -implicitDefEqProofs (maxSteps := 2000000) (disch := omega) only [drawC, ↓lenV, binV, ↓loadV, ↓storeV, ↓fieldAddrV, ↓indexAddrV, ↓allocV, ↓boxV, ↓buildSliceV, ↓appendV, ↓srcV, fillE, GVal.cells, grp, GVal.ofConst, ↓resV, resG, List.map, List.headD, List.take, List.drop, ↓reduceIte, Nat.reduceEqDiff, Nat.reduceAdd, Nat.reduceSub, Nat.reduceLeDiff, reduceCtorEq, implies_true, ne_eq, ↓asrcV, Tag.cap, List.replicate, allSolid, GVal.solid, Nat.reduceBEq, Nat.reduceMul, Nat.reduceLT, List.length_map, List.length_range, splice, vcA, ↓vcB, vcC, fbA, e11]
        intro t
        exact Into.first ⟨(0, t), by omega⟩ ⟨[], by simp [rowsO, tabG_nil]⟩ (by simp [WL, leG_self, leG_any])
      · rintro ⟨⟨i, v⟩, hi⟩
        simp +contextual -implicitDefEqProofs (maxSteps := 2000000) (disch := omega) only [drawC, ↓lenV, binV, ↓loadV, ↓storeV, ↓fieldAddrV, ↓indexAddrV, ↓allocV, ↓boxV, ↓buildSliceV, ↓appendV, ↓srcV, fillE, GVal.cells, grp, GVal.ofConst, ↓resV, resG, List.map, List.headD, List.take, List.drop, ↓reduceIte, Nat.reduceEqDiff, Nat.reduceAdd, Nat.reduceSub, Nat.reduceLeDiff, reduceCtorEq, implies_true, ne_eq, ↓asrcV, Tag.cap, List.replicate, allSolid, GVal.solid, Nat.reduceBEq, Nat.reduceMul, Nat.reduceLT, List.length_map, List.length_range, splice, vcA, ↓vcB, vcC, fbA, e11]
        refine ⟨fun h3 => ⟨fun h4 => ⟨by omega, ?_⟩, fun h4 => ?_⟩, fun h3 => ?_⟩
        · have c14 := spec14 (tabM x) (rowsO (tabM x).length y i) .none (.tok 2 v) (by omega) (by rw [hO]; omega)
          refine c14.then ?_
          simp +contextual -implicitDefEqProofs (maxSteps := 2000000) (disch := omega) only [drawC, ↓lenV, binV, ↓loadV, ↓storeV, ↓fieldAddrV, ↓indexAddrV, ↓allocV, ↓boxV, ↓buildSliceV, ↓appendV, ↓srcV, fillE, GVal.cells, grp, GVal.ofConst, ↓resV, resG, List.map, List.headD, List.take, List.drop, ↓reduceIte, Nat.reduceEqDiff, Nat.reduceAdd, Nat.reduceSub, Nat.reduceLeDiff, reduceCtorEq, implies_true, ne_eq, ↓asrcV, Tag.cap, List.replicate, allSolid, GVal.solid, Nat.reduceBEq, Nat.reduceMul, Nat.reduceLT, List.length_map, List.length_range, splice, vcA, ↓vcB, vcC, fbA, e11]
          refine ⟨⟨[], by simp⟩, ?_⟩
          have c40 := spec40 (y.getD i 0) (allI (tabM x).length (rowsO (tabM x).length y i).length) .none (by rw [allI_len, hO]; omega)
          refine c40.then ?_
          simp +contextual -implicitDefEqProofs (maxSteps := 2000000) (disch := omega) only [drawC, ↓lenV, binV, ↓loadV, ↓storeV, ↓fieldAddrV, ↓indexAddrV, ↓allocV, ↓boxV, ↓buildSliceV, ↓appendV, ↓srcV, fillE, GVal.cells, grp, GVal.ofConst, ↓resV, resG, List.map, List.headD, List.take, List.drop, ↓reduceIte, Nat.reduceEqDiff, Nat.reduceAdd, Nat.reduceSub, Nat.reduceLeDiff, reduceCtorEq, implies_true, ne_eq, ↓asrcV, Tag.cap, List.replicate, allSolid, GVal.solid, Nat.reduceBEq, Nat.reduceMul, Nat.reduceLT, List.length_map, List.length_range, splice, vcA, ↓vcB, vcC, fbA, e11, hO]
          refine ⟨⟨[], by simp⟩, by omega, by omega, fun st => ?_⟩
          exact Into.at ⟨(i + 1, st), by show i + 1 ≤ _; omega⟩ (by show _ < _; simp; omega) ⟨[], by simp [rowsO, tabG_append, tabG_one, hO]⟩ (by simp [WL, leG_self, leG_any, leG_int])
        all_goals
          have hi' : i = min y.length 25 := by simp at hi; omega
          rw [hi']
          exact ⟨4, .agg [.slice (tabG (tabM x)) .none, .slice (tabG (tabO x y)) .none], frz_agg2 (frz_tabS _ 0 _ _) (frz_tabS _ 0 _ _), by rw [leA_agg]; simp [WL, leG_self]⟩

end Gv.Try
/- The plain law of lines: right tables; what their segments are. -/
set_option linter.unusedVariables false
set_option linter.unusedSimpArgs false
namespace Gv.Try
open Go Gv Go.Proofs

theorem ups_mem (a : Int) (k : Nat) (x : Int) : x ∈ ups a k ↔ a ≤ x ∧ x < a + k := by
  simp only [ups, List.mem_map, List.mem_range]
  constructor
  · rintro ⟨i, h, rfl⟩; omega
  · rintro ⟨h1, h2⟩; exact ⟨(x - a).toNat, by omega, by omega⟩
theorem allI_mem (m o : Nat) (x : Int) : x ∈ allI m o ↔ (0 ≤ x ∧ x < m) ∨ (split ≤ x ∧ x < split + o) := by
  simp only [allI, List.mem_append, ups_mem]; simp
theorem allI_hasI (m o : Nat) (x : Int) : x ∈ allI m o ↔ hasI m o x = true := by rw [allI_mem, hasI, decide_eq_true_iff]

theorem getD_mem {l : List Int} {i : Nat} (h : i < l.length) : l.getD i 0 ∈ l := by simp [List.getD, h]
theorem atI_mem (n k : Int) {ids : List Int} (h : ids.length ≠ 0) : atI n k ids ∈ ids := by
  have h1 := Int.emod_nonneg (norm .i64 (n.tdiv k)) (b := (ids.length : Int)) (by omega)
  have h2 := Int.emod_lt_of_pos (norm .i64 (n.tdiv k)) (b := (ids.length : Int)) (by omega)
  exact getD_mem (by omega)
theorem lastI_mem {ids : List Int} (h : ids.length ≠ 0) : lastI ids ∈ ids := getD_mem (by omega)
theorem par_spec (n : Int) (ids : List Int) : (∀ p ∈ par n ids, p ∈ ids) ∧ (par n ids).Nodup ∧ (par n ids).length ≤ 2 := by
  unfold par
  by_cases h0 : ids.length = 0
  · simp [h0]
  have a12 := atI_mem n 12 h0
  have a144 := atI_mem n 144 h0
  have la := lastI_mem h0
  rw [if_neg h0]
  split
  · simp
  split
  · simp [a12]
  split
  · simp [a12]
  split
  · split <;> simp_all
  split
  · split <;> simp_all
  · simp [la]

theorem okRow_of {m o : Nat} {lim most : Int} : ∀ (q seen : List Int), (∀ p ∈ q, p < lim ∧ p ≤ most ∧ hasI m o p = true) → (seen ++ q).Nodup → okRow m o lim most seen q = true
  | [], _, _, _ => rfl
  | p :: r, seen, h, hn => by
    obtain ⟨h1, h2, h3⟩ := h p (by simp)
    have hs : p ∉ seen := by
      intro hp
      rw [List.nodup_append] at hn
      exact hn.2.2 p hp p (by simp) rfl
    rw [okRow, decide_eq_false (by omega), decide_eq_false (by omega), h3, decide_eq_false hs, okRow_of r (seen ++ [p]) (fun x hx => h x (by simp [hx])) (by simpa using hn)]
    rfl
theorem okG_of {m o : Nat} {most : Int} : ∀ (l : List (List Int)) (frm : Int), (∀ (k : Nat), k < l.length → (∀ p ∈ l.getD k [], p < frm + k ∧ p ≤ most ∧ hasI m o p = true) ∧ (l.getD k []).Nodup ∧ (l.getD k []).length ≤ 4) → okG m o most frm l = true
  | [], _, _ => rfl
  | q :: r, frm, h => by
    obtain ⟨h1, h2, h3⟩ := h 0 (by simp)
    simp only [List.getD_cons_zero, Int.natCast_zero, Int.add_zero] at h1 h2 h3
    rw [okG, okRow_of q [] h1 (by simpa using h2), decide_eq_true h3, okG_of r (frm + 1) fun k hk => ?_]
    · rfl
    · have := h (k + 1) (by simpa using hk)
      simp only [List.getD_cons_succ] at this
      refine ⟨fun p hp => ?_, this.2⟩
      have h4 := this.1 p hp
      exact ⟨by omega, h4.2⟩

theorem rowsM_at (x : List Int) : ∀ (n k : Nat), k < n → (rowsM x n).getD k [] = par (x.getD k 0) (allI k 0)
  | n + 1, k, h => by
    rw [rowsM]
    by_cases e : k < n
    · rw [← rowsM_at x n k e]
      simp only [List.getD_eq_getElem?_getD]
      rw [List.getElem?_append_left (by rw [rowsM_len]; exact e)]
    · have : k = n := by omega
      subst this
      simp [List.getD, List.getElem?_append_right, rowsM_len]
theorem rowsO_at (mm : Nat) (x : List Int) : ∀ (n k : Nat), k < n → (rowsO mm x n).getD k [] = par (x.getD k 0) (allI mm k)
  | n + 1, k, h => by
    rw [rowsO]
    by_cases e : k < n
    · rw [← rowsO_at mm x n k e]
      simp only [List.getD_eq_getElem?_getD]
      rw [List.getElem?_append_left (by rw [rowsO_len]; exact e)]
    · have : k = n := by omega
      subst this
      simp [List.getD, List.getElem?_append_right, rowsO_len]
theorem tabM_len (x : List Int) : (tabM x).length ≤ 25 := by rw [tabM, rowsM_len]; omega
theorem tabO_len (x y : List Int) : (tabO x y).length ≤ 25 := by rw [tabO, rowsO_len]; omega

/-- the raw tables may be -/
theorem raw_right (x y : List Int) : rightI (tabM x) (tabO x y) = true := by
  have hm := tabM_len x
  have ho := tabO_len x y
  rw [rightI, Bool.and_eq_true]
  constructor
  · refine okG_of _ _ fun k hk => ?_
    have hk' : k < min x.length 25 := by rwa [tabM, rowsM_len] at hk
    have e : (tabM x).getD k [] = _ := rowsM_at x _ k hk'
    rw [e]
    obtain ⟨h1, h2, h3⟩ := par_spec (x.getD k 0) (allI k 0)
    refine ⟨fun p hp => ?_, h2, by omega⟩
    have := (allI_mem k 0 p).1 (h1 p hp)
    have hp2 : 0 ≤ p ∧ p < k := by omega
    refine ⟨by omega, by omega, ?_⟩
    rw [hasI, decide_eq_true_iff]
    exact .inl ⟨hp2.1, by omega⟩
  · refine okG_of _ _ fun k hk => ?_
    have hk' : k < min y.length 25 := by rwa [tabO, rowsO_len] at hk
    have e : (tabO x y).getD k [] = _ := rowsO_at _ y _ k hk'
    rw [e]
    obtain ⟨h1, h2, h3⟩ := par_spec (y.getD k 0) (allI (tabM x).length k)
    refine ⟨fun p hp => ?_, h2, by omega⟩
    have := (allI_mem _ k p).1 (h1 p hp)
    have hs : split = 1099511627776 := rfl
    refine ⟨by omega, by omega, ?_⟩
    rw [hasI, decide_eq_true_iff]
    omega

/-- segments one behind the other, of a group's rows -/
def chain (frm : Int) (l : List (List Int)) : Int → List Seg → Int → Prop
  | a, [], b => a = b
  | a, s :: r, b => s.lo = a ∧ s.lo ≤ s.hi ∧ (∀ d : Int, s.lo < d → d ≤ s.hi → l.getD (d - frm).toNat [] = [d - 1]) ∧ l.getD (s.lo - frm).toNat [] = s.par ∧ s.root = decide (s.par.length = 0) ∧
      (frm < s.lo → s.par ≠ [s.lo - 1]) ∧ chain frm l (s.hi + 1) r b
theorem chain_append (frm : Int) (l : List (List Int)) : ∀ (x y : List Seg) (a b : Int), chain frm l a (x ++ y) b ↔ ∃ c, chain frm l a x c ∧ chain frm l c y b
  | [], y, a, b => by simp [chain]
  | s :: x, y, a, b => by
    simp only [List.cons_append, chain, chain_append frm l x y]
    constructor
    · rintro ⟨h1, h2, h3, h4, h5, h6, c, h7, h8⟩; exact ⟨c, ⟨h1, h2, h3, h4, h5, h6, h7⟩, h8⟩
    · rintro ⟨c, ⟨h1, h2, h3, h4, h5, h6, h7⟩, h8⟩; exact ⟨h1, h2, h3, h4, h5, h6, c, h7, h8⟩
theorem set_last {α : Type} (l : List α) (h : l ≠ []) (d x : α) : l = l.dropLast ++ [l.getD (l.length - 1) d] ∧ l.set (l.length - 1) x = l.dropLast ++ [x] := by
  have h1 := List.dropLast_concat_getLast h
  have h2 : 0 < l.length := List.length_pos_iff.2 h
  have e : l.getD (l.length - 1) d = l.getLast h := by
    rw [List.getLast_eq_getElem]; simp [List.getD, List.getElem?_eq_getElem (by omega : l.length - 1 < l.length)]
  refine ⟨by rw [e, h1], ?_⟩
  conv => lhs; rw [← h1]
  rw [List.set_append_right _ _ (by simp)]
  simp
theorem one_eq {q : List Int} {n : Int} : q.length = 1 ∧ q.getD 0 0 = n ↔ q = [n] := by
  constructor
  · rintro ⟨h1, h2⟩
    match q, h1 with
    | [a], _ => simp at h2; rw [h2]
  · rintro rfl; simp
theorem lrun_chain (frm : Int) (l : List (List Int)) : ∀ k, chain frm l frm (lrun frm l k).out (frm + k)
  | 0 => by simp [lrun, chain]
  | k + 1 => by
    have ih := lrun_chain frm l k
    have hne := (lrun_len frm l k).2
    rw [lrun, lstep]
    simp only
    generalize (lrun frm l k).out = out at *
    generalize (lrun frm l k).hs = hs at *
    have ek : (frm + (k : Int) - frm).toNat = k := by omega
    split
    · rename_i h
      obtain ⟨h0, h1⟩ := h
      rw [one_eq] at h1
      obtain ⟨e1, e2⟩ := set_last out (hne (by omega)) default { out.getD (out.length - 1) default with hi := frm + k, head := decide ((hins (hdel hs (l.getD k [])) (frm + k)).length = 1) }
      rw [e2, chain_append]
      rw [e1, chain_append] at ih
      obtain ⟨c, q1, q2⟩ := ih
      refine ⟨c, q1, ?_⟩
      generalize out.getD (out.length - 1) default = s at *
      simp only [chain] at q2 ⊢
      obtain ⟨p1, p2, p3, p4, p5, p6, p7⟩ := q2
      refine ⟨p1, by omega, fun d d1 d2 => ?_, p4, p5, p6, by omega⟩
      by_cases e : d = frm + k
      · rw [e, ek, h1]
      · exact p3 d d1 (by omega)
    · rename_i h
      rw [chain_append]
      refine ⟨_, ih, ?_⟩
      simp only [chain]
      refine ⟨trivial, by omega, fun d d1 d2 => by omega, by rw [ek], trivial, fun hlt he => h ⟨by omega, one_eq.2 he⟩, by omega⟩

theorem ups_getD (a : Int) (k i : Nat) (h : i < k) : (ups a k).getD i 0 = a + i := by simp [ups, List.getD, h]
theorem allI_getD1 (m o i : Nat) (h : i < m) : (allI m o).getD i 0 = i := by
  rw [List.getD_eq_getElem?_getD, allI, List.getElem?_append_left (by rw [ups_length]; exact h), ← List.getD_eq_getElem?_getD, ups_getD _ _ _ h]; omega
theorem allI_getD2 (m o i : Nat) (h : m ≤ i) (h2 : i < m + o) : (allI m o).getD i 0 = split + ((i - m : Nat) : Int) := by
  rw [List.getD_eq_getElem?_getD, allI, List.getElem?_append_right (by rw [ups_length]; exact h), ups_length, ← List.getD_eq_getElem?_getD, ups_getD _ _ _ (by omega)]

/-- what is asked of a table's segments, from a number of IDs on -/
def okS (m o : List (List Int)) : Nat → List Seg → Prop
  | n, [] => n = m.length + o.length
  | n, s :: r => (0 ≤ s.lo ∧ s.lo ≤ s.hi ∧ s.hi ≤ split + 1000) ∧
      (∀ d : Nat, s.lo + d ≤ s.hi → n + d < m.length + o.length ∧ (allI m.length o.length).getD (n + d) 0 = s.lo + d ∧ (d ≠ 0 → parI m o (s.lo + d) = [s.lo + d - 1])) ∧
      parI m o s.lo = s.par ∧ s.root = decide (s.par.length = 0) ∧ (s.par = [s.lo - 1] → s.lo = split) ∧ okS m o (n + (s.hi - s.lo + 1).toNat) r
theorem parI_m (m o : List (List Int)) (id : Int) (h : 0 ≤ id) (h2 : id < m.length) : parI m o id = m.getD (id - 0).toNat [] := by
  rw [parI, if_pos ⟨h, h2⟩, Int.sub_zero]
theorem parI_o (m o : List (List Int)) (id : Int) (hm : m.length ≤ 1000) (h : split ≤ id) (h2 : id < split + o.length) : parI m o id = o.getD (id - split).toNat [] := by
  rw [parI, if_neg, if_pos ⟨h, h2⟩]
  have : split = 1099511627776 := rfl
  omega
theorem chain_le (frm : Int) (l : List (List Int)) : ∀ (x : List Seg) (a b : Int), chain frm l a x b → a ≤ b
  | [], a, b, h => by simp [chain] at h; omega
  | s :: r, a, b, h => by
    simp only [chain] at h
    obtain ⟨h1, h2, _, _, _, _, h7⟩ := h
    have := chain_le frm l r _ _ h7
    omega
theorem okS_m (m o : List (List Int)) (hm : m.length ≤ 1000) (h0 : m.getD 0 [] ≠ [-1]) : ∀ (x y : List Seg) (a b : Int), 0 ≤ a → b ≤ m.length → chain 0 m a x b → okS m o b.toNat y → okS m o a.toNat (x ++ y)
  | [], y, a, b, ha, hb, hc, hy => by
    simp only [chain] at hc; subst hc; exact hy
  | s :: r, y, a, b, ha, hb, hc, hy => by
    simp only [chain] at hc
    obtain ⟨h1, h2, h3, h4, h5, h6, h7⟩ := hc
    have hle := chain_le _ _ _ _ _ h7
    have hs : split = 1099511627776 := rfl
    refine ⟨⟨by omega, h2, by omega⟩, fun d hd => ⟨by omega, ?_, fun hd0 => ?_⟩, ?_, h5, fun he => ?_, ?_⟩
    · rw [allI_getD1 _ _ _ (by omega)]; omega
    · rw [parI_m _ _ _ (by omega) (by omega)]; exact h3 _ (by omega) hd
    · rw [parI_m _ _ _ (by omega) (by omega)]; exact h4
    · by_cases e : 0 < s.lo
      · exact absurd he (h6 e)
      · have : s.lo = 0 := by omega
        rw [← h4, this] at he
        exact absurd he h0
    · have := okS_m m o hm h0 r y (s.hi + 1) b (by omega) hb h7 hy
      have e : a.toNat + (s.hi - s.lo + 1).toNat = (s.hi + 1).toNat := by omega
      rw [e]; exact this
theorem okS_o (m o : List (List Int)) (hm : m.length ≤ 1000) (ho : o.length ≤ 1000) : ∀ (x : List Seg) (a : Int), split ≤ a → chain split o a x (split + o.length) → okS m o (m.length + (a - split).toNat) x
  | [], a, ha, hc => by
    simp only [chain] at hc; subst hc; simp only [okS]; omega
  | s :: r, a, ha, hc => by
    simp only [chain] at hc
    obtain ⟨h1, h2, h3, h4, h5, h6, h7⟩ := hc
    have hle := chain_le _ _ _ _ _ h7
    have hs : split = 1099511627776 := rfl
    refine ⟨⟨by omega, h2, by omega⟩, fun d hd => ⟨by omega, ?_, fun hd0 => ?_⟩, ?_, h5, fun he => ?_, ?_⟩
    · rw [allI_getD2 _ _ _ (by omega) (by omega)]; omega
    · rw [parI_o _ _ _ hm (by omega) (by omega)]; exact h3 _ (by omega) hd
    · rw [parI_o _ _ _ hm (by omega) (by omega)]; exact h4
    · by_cases e : split < s.lo
      · exact absurd he (h6 e)
      · omega
    · have := okS_o m o hm ho r (s.hi + 1) (by omega) h7
      have e : m.length + (a - split).toNat + (s.hi - s.lo + 1).toNat = m.length + (s.hi + 1 - split).toNat := by omega
      rw [e]; exact this

theorem okRow_at {m o : Nat} {lim most : Int} : ∀ {q seen : List Int}, okRow m o lim most seen q = true → ∀ p ∈ q, p < lim ∧ p ≤ most ∧ hasI m o p = true
  | [], _, _, p, hp => by simp at hp
  | a :: r, seen, h, p, hp => by
    simp only [okRow, Bool.and_eq_true, Bool.not_eq_true', Bool.or_eq_false_iff, decide_eq_false_iff_not, Bool.not_eq_false'] at h
    rcases List.mem_cons.1 hp with rfl | hp
    · exact ⟨by omega, by omega, h.1.1.2⟩
    · exact okRow_at h.2 p hp
theorem build_okS (m o : List (List Int)) (hm : m.length ≤ 1000) (ho : o.length ≤ 1000) (hr : rightI m o = true) : okS m o 0 (buildI m o) := by
  have hr' := hr
  rw [rightI, Bool.and_eq_true] at hr'
  rw [buildI, if_pos hr]
  have c1 := lrun_chain 0 m m.length
  have c2 := lrun_chain split o o.length
  have h0 : m.getD 0 [] ≠ [-1] := by
    cases m with
    | nil => simp
    | cons q r =>
      intro e
      simp at e
      have := hr'.1
      simp only [okG, Bool.and_eq_true] at this
      have := okRow_at this.1.1 (-1) (by rw [e]; simp)
      rw [hasI, decide_eq_true_iff] at this
      have hs : split = 1099511627776 := rfl
      omega
  have k2 := okS_o m o hm ho _ split (Int.le_refl _) c2
  rw [Int.zero_add] at c1
  have e : m.length + (split - split).toNat = ((m.length : Int)).toNat := by omega
  rw [e] at k2
  exact okS_m m o hm h0 _ _ 0 m.length (by omega) (by omega) c1 k2

end Gv.Try
/- The law FlatLines gives true. -/
set_option linter.unusedVariables false
set_option linter.unusedSimpArgs false
set_option maxRecDepth 20000
namespace Gv.Try
open Go Gv Go.Proofs

theorem okRow_len {m o : List (List Int)} (h : rightI m o = true) (id : Int) : (parI m o id).length ≤ 4 := by
  rw [rightI, Bool.and_eq_true] at h
  have get : ∀ (l : List (List Int)) (most frm : Int) (a b : Nat), okG a b most frm l = true → ∀ k, (l.getD k []).length ≤ 4 := by
    intro l most frm a b h k
    by_cases e : k < l.length
    · refine okG_row h _ ?_
      simp [List.getD, e]
    · simp [List.getD, List.getElem?_eq_none (Nat.le_of_not_lt e)]
  unfold parI
  split
  · exact get _ _ _ _ _ h.1 _
  · split
    · exact get _ _ _ _ _ h.2 _
    · simp

set_option maxHeartbeats 4000000 in
theorem spec3 (x y : List Int) (tx ty : Tag) (c15 : GPure Try.prog 15 [] (.bool true)) : GPure Try.prog 3 [.agg [.slice (ints x) tx, .slice (ints y) ty]] (.bool true) := by
  refine h3.pure mixS (by simp) ?_
  simp only [gstart, s3, List.cons_append, List.nil_append, List.length_cons, List.length_nil, Nat.reduceAdd, Nat.reduceSub, List.replicate_succ, List.replicate_zero]
  simp +contextual -implicitDefEqProofs (maxSteps := 2000000) (disch := omega) only [↓lenV, binV, ↓unV, ↓loadV, ↓storeV, ↓fieldAddrV, ↓indexAddrV, ↓allocV, ↓boxV, GVal.cells, grp, GVal.ofConst, ↓resV, resG, List.map, List.headD, List.take, List.drop, ↓reduceIte, Nat.reduceEqDiff, Nat.reduceAdd, Nat.reduceSub, Nat.reduceLeDiff, reduceCtorEq, implies_true, ne_eq, aggV, Tag.cap, List.replicate, allSolid, GVal.solid, Nat.reduceBEq, Nat.reduceMul, Nat.reduceLT, List.length_map, List.length_range, splice, vcA, ↓vcB, vcC, fbA, e3]
  refine (spec11 x y tx ty).then ?_
  have hm := tabM_len x
  have ho := tabO_len x y
  have hr := raw_right x y
  have hb := build_okS _ _ (by omega) (by omega) hr
  have hrow := okRow_len hr
  generalize tabM x = m at *
  generalize tabO x y = o at *
  simp +contextual -implicitDefEqProofs (maxSteps := 2000000) (disch := omega) only [↓lenV, binV, ↓unV, ↓loadV, ↓storeV, ↓fieldAddrV, ↓indexAddrV, ↓allocV, ↓boxV, GVal.cells, grp, GVal.ofConst, ↓resV, resG, List.map, List.headD, List.take, List.drop, ↓reduceIte, Nat.reduceEqDiff, Nat.reduceAdd, Nat.reduceSub, Nat.reduceLeDiff, reduceCtorEq, implies_true, ne_eq, aggV, Tag.cap, List.replicate, allSolid, GVal.solid, Nat.reduceBEq, Nat.reduceMul, Nat.reduceLT, List.length_map, List.length_range, splice, vcA, ↓vcB, vcC, fbA, e3]
  intro st
  have hm4 : ∀ p ∈ m, p.length ≤ 17592186044416 := fun p hp => by
    rw [rightI, Bool.and_eq_true] at hr; have := okG_row hr.1 p hp; omega
  have ho4 : ∀ p ∈ o, p.length ≤ 17592186044416 := fun p hp => by
    rw [rightI, Bool.and_eq_true] at hr; have := okG_row hr.2 p hp; omega
  refine (spec13 (tabG m) (tabG o) .none .none).then ?_
  simp +contextual -implicitDefEqProofs (maxSteps := 2000000) (disch := omega) only [↓lenV, binV, ↓unV, ↓loadV, ↓storeV, ↓fieldAddrV, ↓indexAddrV, ↓allocV, ↓boxV, GVal.cells, grp, GVal.ofConst, ↓resV, resG, List.map, List.headD, List.take, List.drop, ↓reduceIte, Nat.reduceEqDiff, Nat.reduceAdd, Nat.reduceSub, Nat.reduceLeDiff, reduceCtorEq, implies_true, ne_eq, aggV, Tag.cap, List.replicate, allSolid, GVal.solid, Nat.reduceBEq, Nat.reduceMul, Nat.reduceLT, List.length_map, List.length_range, splice, vcA, ↓vcB, vcC, fbA, e3]
  refine (spec12 m o .none .none (by omega) (by omega) hm4 ho4).then ?_
  simp +contextual -implicitDefEqProofs (maxSteps := 2000000) (disch := omega) only [↓lenV, binV, ↓unV, ↓loadV, ↓storeV, ↓fieldAddrV, ↓indexAddrV, ↓allocV, ↓boxV, GVal.cells, grp, GVal.ofConst, ↓resV, resG, List.map, List.headD, List.take, List.drop, ↓reduceIte, Nat.reduceEqDiff, Nat.reduceAdd, Nat.reduceSub, Nat.reduceLeDiff, reduceCtorEq, implies_true, ne_eq, aggV, Tag.cap, List.replicate, allSolid, GVal.solid, Nat.reduceBEq, Nat.reduceMul, Nat.reduceLT, List.length_map, List.length_range, splice, vcA, ↓vcB, vcC, fbA, e3]
  refine (spec14 m o .none .none (by omega) (by omega)).then ?_
  simp +contextual -implicitDefEqProofs (maxSteps := 2000000) (disch := omega) only [↓lenV, binV, ↓unV, ↓loadV, ↓storeV, ↓fieldAddrV, ↓indexAddrV, ↓allocV, ↓boxV, GVal.cells, grp, GVal.ofConst, ↓resV, resG, List.map, List.headD, List.take, List.drop, ↓reduceIte, Nat.reduceEqDiff, Nat.reduceAdd, Nat.reduceSub, Nat.reduceLeDiff, reduceCtorEq, implies_true, ne_eq, aggV, Tag.cap, List.replicate, allSolid, GVal.solid, Nat.reduceBEq, Nat.reduceMul, Nat.reduceLT, List.length_map, List.length_range, splice, vcA, ↓vcB, vcC, fbA, e3]
  refine c15.then ?_
  simp +contextual -implicitDefEqProofs (maxSteps := 2000000) (disch := omega) only [↓lenV, binV, ↓unV, ↓loadV, ↓storeV, ↓fieldAddrV, ↓indexAddrV, ↓allocV, ↓boxV, GVal.cells, grp, GVal.ofConst, ↓resV, resG, List.map, List.headD, List.take, List.drop, ↓reduceIte, Nat.reduceEqDiff, Nat.reduceAdd, Nat.reduceSub, Nat.reduceLeDiff, reduceCtorEq, implies_true, ne_eq, aggV, Tag.cap, List.replicate, allSolid, GVal.solid, Nat.reduceBEq, Nat.reduceMul, Nat.reduceLT, List.length_map, List.length_range, splice, vcA, ↓vcB, vcC, fbA, e3]
  have hL : (buildI m o).length ≤ 1000 := by
    have l1 := (lrun_len 0 m m.length).1
    have l2 := (lrun_len split o o.length).1
    rw [buildI, if_pos hr, List.length_append, linesI, linesI]; omega
  have hA : (allI m.length o.length).length = m.length + o.length := allI_len _ _
  revert hb
  generalize buildI m o = L at *
  intro hb
  refine vcSLoop_by (ι := { p : Nat × Nat // p.1 ≤ L.length ∧ okS m o p.2 (L.drop p.1) }) (fun p => ⟨[.any, .any, .any, .ptr 0 st 0 0, .slice (segsG L) .none, .slice (ints (allI m.length o.length)) .none, .int .i64 (p.1.2 : Nat), .int .i64 (p.1.1 : Nat)] ++ List.replicate 122 .any, [.row st 2 [[.slice (tabG m) .none, .slice (tabG o) .none]]]⟩) (fun p => L.length - p.1.1) ?_ ?_
  · exact Into.first ⟨(0, 0), by omega, hb⟩ ⟨[], by simp⟩ (by simp [WL, leG_self, leG_any])
  · rintro ⟨⟨i, n⟩, hi, hok⟩
    simp +contextual -implicitDefEqProofs (maxSteps := 2000000) (disch := omega) only [↓lenV, binV, ↓unV, ↓loadV, ↓storeV, ↓fieldAddrV, ↓indexAddrV, ↓allocV, ↓boxV, GVal.cells, grp, GVal.ofConst, ↓resV, resG, List.map, List.headD, List.take, List.drop, ↓reduceIte, Nat.reduceEqDiff, Nat.reduceAdd, Nat.reduceSub, Nat.reduceLeDiff, reduceCtorEq, implies_true, ne_eq, aggV, Tag.cap, List.replicate, allSolid, GVal.solid, Nat.reduceBEq, Nat.reduceMul, Nat.reduceLT, List.length_map, List.length_range, splice, vcA, ↓vcB, vcC, fbA, e3, segsG_length, segsG_at, segG]
    refine ⟨fun h => ⟨by omega, ?_⟩, fun h => ?_⟩
    · have hil : i < L.length := by omega
      have hd : L.drop i = L.getD i default :: L.drop (i + 1) := by
        rw [List.drop_eq_getElem_cons hil]; simp [List.getD, hil]
      have hat : ∀ j : Nat, j = i → (segsG L).getD j [] = segG (L.getD i default) := fun j e => by rw [e, segsG_at _ _ hil]
      change okS m o n (L.drop i) at hok
      rw [hd, okS] at hok
      obtain ⟨⟨q1, q2, q3⟩, q4, q5, q6, q7, q8⟩ := hok
      have hs : split = 1099511627776 := rfl
      generalize L.getD i default = s at *
      refine vcSLoop_by (ι := { d : Nat // s.lo + d ≤ s.hi + 1 }) (fun d => ⟨[.any, .any, .any, .ptr 0 st 0 0, .slice (segsG L) .none, .slice (ints (allI m.length o.length)) .none, .int .i64 ((n + d.1 : Nat) : Int), .int .i64 (i : Nat), .int .i64 (s.lo + (d.1 : Nat))] ++ List.replicate 121 .any, [.row st 2 [[.slice (tabG m) .none, .slice (tabG o) .none]]]⟩) (fun d => (s.hi + 1 - s.lo).toNat - d.1) ?_ ?_
      · exact Into.first ⟨0, by omega⟩ ⟨[], by simp⟩ (by simp [WL, leG_self, leG_any])
      · rintro ⟨d, hd⟩
        simp +contextual -implicitDefEqProofs (maxSteps := 2000000) (disch := omega) only [↓lenV, binV, ↓unV, ↓loadV, ↓storeV, ↓fieldAddrV, ↓indexAddrV, ↓allocV, ↓boxV, GVal.cells, grp, GVal.ofConst, ↓resV, resG, List.map, List.headD, List.take, List.drop, ↓reduceIte, Nat.reduceEqDiff, Nat.reduceAdd, Nat.reduceSub, Nat.reduceLeDiff, reduceCtorEq, implies_true, ne_eq, aggV, Tag.cap, List.replicate, allSolid, GVal.solid, Nat.reduceBEq, Nat.reduceMul, Nat.reduceLT, List.length_map, List.length_range, splice, vcA, ↓vcB, vcC, fbA, e3, segsG_length, hat, segG]
        refine ⟨by omega, by omega, fun h1 => ?_, fun h1 => ?_⟩
        · obtain ⟨r1, r2, r3⟩ := q4 d h1
          have c16 := spec16 m o .none .none (s.lo + d) (by omega) (by omega)
          have et : ((n : Int) + (d : Int)).toNat = n + d := by omega
          refine ⟨fun h2 => absurd h2 (by rw [hA]; omega), fun h2 => ⟨by omega, fun h3 => absurd (by rw [et]; exact r2) h3, fun h3 => c16.then ?_⟩⟩
          by_cases hd0 : d = 0
          · subst hd0
            have e0 : s.lo + ((0 : Nat) : Int) = s.lo := by omega
            rw [e0, q5]
            have hpl := hrow s.lo
            rw [q5] at hpl
            have c17 := spec17 s.par s.par .none .none (by omega)
            simp +contextual -implicitDefEqProofs (maxSteps := 2000000) (disch := omega) only [↓lenV, binV, ↓unV, ↓loadV, ↓storeV, ↓fieldAddrV, ↓indexAddrV, ↓allocV, ↓boxV, GVal.cells, grp, GVal.ofConst, ↓resV, resG, List.map, List.headD, List.take, List.drop, ↓reduceIte, Nat.reduceEqDiff, Nat.reduceAdd, Nat.reduceSub, Nat.reduceLeDiff, reduceCtorEq, implies_true, ne_eq, aggV, Tag.cap, List.replicate, allSolid, GVal.solid, Nat.reduceBEq, Nat.reduceMul, Nat.reduceLT, List.length_map, List.length_range, splice, vcA, ↓vcB, vcC, fbA, e3, segsG_length, hat, segG, Int.toNat_zero]
            refine ⟨fun a1 => ⟨by omega, by omega, by omega, by omega, fun a2 => absurd a2 (by omega), fun _ => ⟨fun a3 => ⟨by omega, by omega, fun a4 => ⟨by omega, by omega, by omega, by omega, c17.then ?_⟩, fun a4 => absurd (q7 (one_eq.1 ⟨by omega, a3⟩)) (by omega)⟩, fun a3 => ⟨by omega, by omega, by omega, by omega, c17.then ?_⟩⟩⟩, fun a1 => ⟨by omega, by omega, fun a2 => absurd a2 (by omega), fun _ => ⟨by omega, by omega, by omega, by omega, c17.then ?_⟩⟩⟩
            all_goals
              simp +contextual -implicitDefEqProofs (maxSteps := 2000000) (disch := omega) only [↓lenV, binV, ↓unV, ↓loadV, ↓storeV, ↓fieldAddrV, ↓indexAddrV, ↓allocV, ↓boxV, GVal.cells, grp, GVal.ofConst, ↓resV, resG, List.map, List.headD, List.take, List.drop, ↓reduceIte, Nat.reduceEqDiff, Nat.reduceAdd, Nat.reduceSub, Nat.reduceLeDiff, reduceCtorEq, implies_true, ne_eq, aggV, Tag.cap, List.replicate, allSolid, GVal.solid, Nat.reduceBEq, Nat.reduceMul, Nat.reduceLT, List.length_map, List.length_range, splice, vcA, ↓vcB, vcC, fbA, e3, segsG_length, hat, segG, Int.toNat_zero, q6, cast_beq_zero, beq_self_eq_true]
              refine ⟨by omega, by omega, fun _ => ⟨Into.at ⟨1, by omega⟩ (by show _ < _; simp; omega) ⟨[], by simp⟩ (by simp [WL, leG_self, leG_any, leG_int] <;> omega), by simp⟩, fun _ => Into.at ⟨1, by omega⟩ (by show _ < _; simp; omega) ⟨[], by simp⟩ (by simp [WL, leG_self, leG_any, leG_int] <;> omega)⟩
          · rw [r3 hd0]
            have e1 : ints [s.lo + d - 1] = [[.int .i64 (s.lo + d - 1)]] := rfl
            have e2 : decide (s.lo < s.lo + (d : Int)) = true := by rw [decide_eq_true_iff]; omega
            simp +contextual -implicitDefEqProofs (maxSteps := 2000000) (disch := omega) only [↓lenV, binV, ↓unV, ↓loadV, ↓storeV, ↓fieldAddrV, ↓indexAddrV, ↓allocV, ↓boxV, GVal.cells, grp, GVal.ofConst, ↓resV, resG, List.map, List.headD, List.take, List.drop, ↓reduceIte, Nat.reduceEqDiff, Nat.reduceAdd, Nat.reduceSub, Nat.reduceLeDiff, reduceCtorEq, implies_true, ne_eq, aggV, Tag.cap, List.replicate, allSolid, GVal.solid, Nat.reduceBEq, Nat.reduceMul, Nat.reduceLT, List.length_map, List.length_range, splice, vcA, ↓vcB, vcC, fbA, e3, segsG_length, hat, segG, Int.toNat_zero, e1, e2]
            refine ⟨by omega, by omega, by omega, by omega, by omega, by omega, fun a1 => absurd a1 (by omega), fun _ => ?_⟩
            exact Into.at ⟨d + 1, by omega⟩ (by show _ < _; simp; omega) ⟨[], by simp⟩ (by simp [WL, leG_self, leG_any, leG_int] <;> omega)
        · refine Into.at ⟨(i + 1, n + d), by show i + 1 ≤ _; omega, ?_⟩ (by show _ < _; simp; omega) ⟨[], by simp⟩ (by simp [WL, leG_self, leG_any, leG_int])
          have e : (s.hi - s.lo + 1).toNat = d := by omega
          rw [e] at q8
          exact q8
    · change okS m o n (L.drop i) at hok
      rw [List.drop_eq_nil_of_le (by omega), okS] at hok
      rw [hA, hok]

end Gv.Try
/- The plain law of growing. -/
set_option linter.unusedVariables false
set_option linter.unusedSimpArgs false
namespace Gv.Try
open Go Gv Go.Proofs

theorem getD_append_left' {α : Type} (l r : List α) (i : Nat) (d : α) (h : i < l.length) : (l ++ r).getD i d = l.getD i d := by
  rw [List.getD_eq_getElem?_getD, List.getD_eq_getElem?_getD, List.getElem?_append_left h]
theorem getD_append_last {α : Type} (l : List α) (x d : α) : (l ++ [x]).getD l.length d = x := by simp [List.getD]
theorem rowsM_pre (x : List Int) (n : Int) : ∀ k, k ≤ x.length → rowsM (x ++ [n]) k = rowsM x k
  | 0, _ => rfl
  | k + 1, h => by rw [rowsM, rowsM, rowsM_pre x n k (by omega), getD_append_left' _ _ _ _ (by omega)]
theorem rowsO_pre (mm : Nat) (x : List Int) (n : Int) : ∀ k, k ≤ x.length → rowsO mm (x ++ [n]) k = rowsO mm x k
  | 0, _ => rfl
  | k + 1, h => by rw [rowsO, rowsO, rowsO_pre mm x n k (by omega), getD_append_left' _ _ _ _ (by omega)]
theorem tabM_more (x : List Int) (n : Int) (h : x.length ≤ 24) : ∃ q, tabM (x ++ [n]) = tabM x ++ [q] := by
  refine ⟨par ((x ++ [n]).getD x.length 0) (allI (rowsM x x.length).length 0), ?_⟩
  rw [tabM, tabM, show min (x ++ [n]).length 25 = x.length + 1 by simp; omega, show min x.length 25 = x.length by omega, rowsM, rowsM_pre x n _ (Nat.le_refl _)]
theorem tabO_more (m x : List Int) (n : Int) (h : x.length ≤ 24) : ∃ q, tabO m (x ++ [n]) = tabO m x ++ [q] := by
  refine ⟨par ((x ++ [n]).getD x.length 0) (allI (tabM m).length (rowsO (tabM m).length x x.length).length), ?_⟩
  rw [tabO, tabO, show min (x ++ [n]).length 25 = x.length + 1 by simp; omega, show min x.length 25 = x.length by omega, rowsO, rowsO_pre _ x n _ (Nat.le_refl _)]
theorem lrun_pre (frm : Int) (l : List (List Int)) (q : List Int) : ∀ k, k ≤ l.length → lrun frm (l ++ [q]) k = lrun frm l k
  | 0, _ => rfl
  | k + 1, h => by rw [lrun, lrun, lrun_pre frm l q k (by omega), getD_append_left' _ _ _ _ (by omega)]
theorem linesI_more (frm : Int) (l : List (List Int)) (q : List Int) : linesI frm (l ++ [q]) = (lstep frm (lrun frm l l.length) l.length q).out := by
  rw [linesI, List.length_append, List.length_singleton, lrun, lrun_pre _ _ _ _ (Nat.le_refl _), getD_append_last]

theorem hdel_mem (q : List Int) : ∀ (l : List Int) (x : Int), x ∈ hdel l q → x ∈ l := by
  induction q with
  | nil => intro l x h; exact h
  | cons p r ih => intro l x h; exact List.mem_of_mem_erase (ih _ _ h)
/-- the heads that are kept -/
theorem lrun_heads (frm : Int) (l : List (List Int)) : ∀ k, (∀ x ∈ (lrun frm l k).hs, x < frm + k) ∧ (k ≠ 0 → frm + k - 1 ∈ (lrun frm l k).hs) ∧
    (k ≠ 0 → ((lrun frm l k).out.getD ((lrun frm l k).out.length - 1) default).head = decide ((lrun frm l k).hs.length = 1))
  | 0 => by simp [lrun]
  | k + 1 => by
    obtain ⟨i1, i2, i3⟩ := lrun_heads frm l k
    have hne := (lrun_len frm l k).2
    rw [lrun]
    generalize lrun frm l k = s at *
    generalize l.getD k [] = q
    have hh : (lstep frm s k q).hs = hins (hdel s.hs q) (frm + k) := by unfold lstep; simp only; split <;> rfl
    have hm : frm + (k : Int) ∈ hins (hdel s.hs q) (frm + k) := by unfold hins; split <;> simp_all
    refine ⟨fun x hx => ?_, fun _ => ?_, fun _ => ?_⟩
    · rw [hh] at hx
      unfold hins at hx
      split at hx
      · have := i1 x (hdel_mem _ _ _ hx); omega
      · rcases List.mem_append.1 hx with hx | hx
        · have := i1 x (hdel_mem _ _ _ hx); omega
        · simp at hx; omega
    · rw [hh]; have e : frm + ((k + 1 : Nat) : Int) - 1 = frm + k := by omega
      rw [e]; exact hm
    · rw [hh]
      unfold lstep
      simp only
      split
      · rename_i h
        have h1 : 0 < s.out.length := List.length_pos_iff.2 (hne (by omega))
        rw [List.length_set, getD_set_same _ _ _ _ (by omega)]
      · simp [List.getD]

theorem hins_len {l : List Int} {p n : Int} (hp : p ∈ l) (hn : n ∉ l) : (hins (hdel l [p]) n).length = l.length := by
  have h1 : n ∉ l.erase p := fun h => hn (List.mem_of_mem_erase h)
  show (hins (l.erase p) n).length = _
  rw [hins, if_neg h1, List.length_append, List.length_erase_of_mem hp]
  have : 0 < l.length := List.length_pos_of_mem hp
  simp; omega

/-- how a table's segments grow -/
def gOK (a b : List Seg) (other : Bool) : Prop :=
  (∃ A s, a = A ++ [s] ∧ b = A ++ [{ s with hi := s.hi + 1 }]) ∨ (∃ s, b = a ++ [s] ∧ s.lo = s.hi ∧ (s.lo < split ∨ other = true))
theorem lstep_grows (frm : Int) (l : List (List Int)) (q : List Int) (other : Bool) (ho : frm + l.length < split ∨ other = true) : gOK (linesI frm l) (linesI frm (l ++ [q])) other := by
  rw [linesI_more, linesI]
  have hc := lrun_chain frm l l.length
  have hh := lrun_heads frm l l.length
  have hne := (lrun_len frm l l.length).2
  generalize lrun frm l l.length = s at *
  generalize l.length = k at *
  obtain ⟨h1, h2, h3⟩ := hh
  unfold lstep
  simp only
  split
  · rename_i h
    obtain ⟨h0, h4⟩ := h
    rw [one_eq] at h4
    left
    have hk : k ≠ 0 := by omega
    obtain ⟨e1, e2⟩ := set_last s.out (hne hk) default { s.out.getD (s.out.length - 1) default with hi := frm + k, head := decide ((hins (hdel s.hs q) (frm + k)).length = 1) }
    refine ⟨s.out.dropLast, s.out.getD (s.out.length - 1) default, e1, ?_⟩
    rw [e2]
    rw [e1, chain_append] at hc
    obtain ⟨c, _, hc⟩ := hc
    simp only [chain] at hc
    have e3 := h3 hk
    subst h4
    rw [hins_len (h2 hk) (fun hx => by have := h1 _ hx; omega), ← e3]
    have e4 : (s.out.getD (s.out.length - 1) default).hi + 1 = frm + k := hc.2.2.2.2.2.2
    rw [e4]
  · right
    exact ⟨_, rfl, rfl, ho⟩
theorem gOK_app (P : List Seg) {a b : List Seg} {other : Bool} (h : gOK a b other) : gOK (P ++ a) (P ++ b) other := by
  rcases h with ⟨A, s, rfl, rfl⟩ | ⟨s, rfl, h⟩
  · exact .inl ⟨P ++ A, s, by simp, by simp⟩
  · exact .inr ⟨s, by simp, h⟩
theorem grows_m (x : List Int) (n : Int) (h : x.length ≤ 24) : gOK (buildI (tabM x) (tabO x [])) (buildI (tabM (x ++ [n])) (tabO (x ++ [n]) [])) false := by
  have e1 := raw_right x []
  have e2 := raw_right (x ++ [n]) []
  rw [buildI, buildI, if_pos e1, if_pos e2]
  obtain ⟨q, hq⟩ := tabM_more x n h
  have e3 : ∀ m, tabO m [] = [] := fun m => rfl
  rw [e3, e3, hq, show linesI split [] = [] from rfl, List.append_nil, List.append_nil]
  refine lstep_grows 0 (tabM x) q false (.inl ?_)
  have := tabM_len x
  have hs : split = 1099511627776 := rfl
  omega
theorem grows_o (m x : List Int) (n : Int) (h : x.length ≤ 24) : gOK (buildI (tabM m) (tabO m x)) (buildI (tabM m) (tabO m (x ++ [n]))) true := by
  have e1 := raw_right m x
  have e2 := raw_right m (x ++ [n])
  rw [buildI, buildI, if_pos e1, if_pos e2]
  obtain ⟨q, hq⟩ := tabO_more m x n h
  rw [hq]
  exact gOK_app _ (lstep_grows split (tabO m x) q true (.inr rfl))

end Gv.Try
set_option maxRecDepth 100000
set_option linter.defProp false
namespace Gv.Try
open Go Gv Go.Proofs
def s4_0 : SCode := (.reg [(.mk (some 3) (.box 24 (.tmp 0)) none), (.mk (some 6) (.assign (.const (.bool false))) none)])
def s4_1 : SCode := (.reg [(.mk (some 11) (.load 24 (.tmp 3)) none), (.mk (some 7) (.alloc 24) none), (.mk none (.store 24 (.tmp 7) (.tmp 11)) none)])
def s4_2 : SCode := (.reg [(.mk (some 12) (.move (.tmp 1)) none)])
def s4_3 : SCode := (.reg [(.mk (some 13) (.buildSlice 22 0 #[]) none), (.mk (some 14) (.fieldAddr 24 (.tmp 3) 1) none), (.mk (some 15) (.load 22 (.tmp 14)) none), (.mk (some 16) (.fieldAddr 24 (.tmp 3) 1) none), (.mk (some 17) (.load 22 (.tmp 16)) none), (.mk (some 18) (.call (.mk (.builtin (.len)) #[(.tmp 17)] #[22])) none), (.mk (some 19) (.call (.mk (.builtin (.min)) #[(.tmp 18), (.const (.int (.i64) 24))] #[3, 3])) none), (.mk (some 20) (.slice 22 (.tmp 15) none (some (.tmp 19)) none) none), (.mk (some 21) (.call (.mk (.builtin (.append)) #[(.tmp 13), (.tmp 20)] #[22, 22])) none), (.mk (some 22) (.move (.tmp 2)) none), (.mk (some 23) (.buildSlice 22 1 #[(0, (.tmp 22))]) none), (.mk (some 24) (.call (.mk (.builtin (.append)) #[(.tmp 21), (.tmp 23)] #[22, 22])) none), (.mk (some 25) (.fieldAddr 24 (.tmp 7) 1) none), (.mk none (.store 22 (.tmp 25) (.tmp 24)) none)])
def s4_4 : SCode := (.reg [(.mk (some 26) (.fieldAddr 24 (.tmp 3) 1) none), (.mk (some 27) (.load 22 (.tmp 26)) none), (.mk (some 28) (.fieldAddr 24 (.tmp 3) 1) none), (.mk (some 29) (.load 22 (.tmp 28)) none), (.mk (some 30) (.call (.mk (.builtin (.len)) #[(.tmp 29)] #[22])) none), (.mk (some 31) (.call (.mk (.builtin (.min)) #[(.tmp 30), (.const (.int (.i64) 24))] #[3, 3])) none), (.mk (some 32) (.slice 22 (.tmp 27) none (some (.tmp 31)) none) none), (.mk (some 33) (.fieldAddr 24 (.tmp 3) 1) none), (.mk none (.store 22 (.tmp 33) (.tmp 32)) none)])
def s4_5 : SCode := (.reg [(.mk (some 34) (.fieldAddr 24 (.tmp 3) 1) none), (.mk none (.store 22 (.tmp 34) (.const (.slice none 0 0))) none)])
def s4_6 : SCode := (.reg [(.mk (some 35) (.fieldAddr 24 (.tmp 7) 1) none), (.mk none (.store 22 (.tmp 35) (.const (.slice none 0 0))) none)])
def s4_7 : SCode := (.reg [(.mk (some 36) (.buildSlice 22 0 #[]) none), (.mk (some 37) (.fieldAddr 24 (.tmp 3) 0) none), (.mk (some 38) (.load 22 (.tmp 37)) none), (.mk (some 39) (.fieldAddr 24 (.tmp 3) 0) none), (.mk (some 40) (.load 22 (.tmp 39)) none), (.mk (some 41) (.call (.mk (.builtin (.len)) #[(.tmp 40)] #[22])) none), (.mk (some 42) (.call (.mk (.builtin (.min)) #[(.tmp 41), (.const (.int (.i64) 24))] #[3, 3])) none), (.mk (some 43) (.slice 22 (.tmp 38) none (some (.tmp 42)) none) none), (.mk (some 44) (.call (.mk (.builtin (.append)) #[(.tmp 36), (.tmp 43)] #[22, 22])) none), (.mk (some 45) (.move (.tmp 2)) none), (.mk (some 46) (.buildSlice 22 1 #[(0, (.tmp 45))]) none), (.mk (some 47) (.call (.mk (.builtin (.append)) #[(.tmp 44), (.tmp 46)] #[22, 22])) none), (.mk (some 48) (.fieldAddr 24 (.tmp 7) 0) none), (.mk none (.store 22 (.tmp 48) (.tmp 47)) none)])
def s4_8 : SCode := (.reg [(.mk (some 49) (.fieldAddr 24 (.tmp 3) 0) none), (.mk (some 50) (.load 22 (.tmp 49)) none), (.mk (some 51) (.fieldAddr 24 (.tmp 3) 0) none), (.mk (some 52) (.load 22 (.tmp 51)) none), (.mk (some 53) (.call (.mk (.builtin (.len)) #[(.tmp 52)] #[22])) none), (.mk (some 54) (.call (.mk (.builtin (.min)) #[(.tmp 53), (.const (.int (.i64) 24))] #[3, 3])) none), (.mk (some 55) (.slice 22 (.tmp 50) none (some (.tmp 54)) none) none), (.mk (some 56) (.fieldAddr 24 (.tmp 3) 0) none), (.mk none (.store 22 (.tmp 56) (.tmp 55)) none)])
def s4_9 : SCode := (.seq s4_5 (.seq s4_6 (.seq s4_7 s4_8)))
def s4_10 : SCode := (.seq s4_2 (.cond (.tmp 12) (.seq s4_3 s4_4) s4_9))
def s4_11 : SCode := (.reg [(.mk (some 57) (.load 24 (.tmp 3)) none), (.mk (some 58) (.call (.mk (.value (.func 11)) #[(.tmp 57)] #[24])) none), (.mk (some 59) (.call (.mk (.value (.func 13)) #[(.tmp 58)] #[27])) none), (.mk (some 60) (.call (.mk (.value (.func 12)) #[(.tmp 59)] #[32])) none), (.mk (some 8) (.assign (.tmp 60)) none)])
def s4_12 : SCode := (.reg [(.mk (some 61) (.load 24 (.tmp 7)) none), (.mk (some 62) (.call (.mk (.value (.func 11)) #[(.tmp 61)] #[24])) none), (.mk (some 63) (.call (.mk (.value (.func 13)) #[(.tmp 62)] #[27])) none), (.mk (some 64) (.call (.mk (.value (.func 12)) #[(.tmp 63)] #[32])) none), (.mk (some 9) (.assign (.tmp 64)) none)])
def s4_13 : SCode := (.reg [(.mk (some 65) (.call (.mk (.value (.func 15)) #[] #[])) none), (.mk (some 66) (.unOp (.not) 4 (.tmp 65)) none), (.mk (some 67) (.move (.tmp 66)) none), (.mk (some 68) (.move (.tmp 9)) (some (67, false))), (.mk (some 69) (.call (.mk (.builtin (.len)) #[(.tmp 68)] #[29])) (some (67, false))), (.mk (some 70) (.move (.tmp 8)) (some (67, false))), (.mk (some 71) (.call (.mk (.builtin (.len)) #[(.tmp 70)] #[29])) (some (67, false))), (.mk (some 72) (.binOp (.lss) 3 (.tmp 69) (.tmp 71) 3) (some (67, false))), (.mk (some 73) (.pick (.tmp 67) (.const (.bool true)) (.tmp 72)) none), (.mk (some 74) (.move (.tmp 73)) none), (.mk (some 75) (.move (.tmp 9)) (some (74, false))), (.mk (some 76) (.call (.mk (.builtin (.len)) #[(.tmp 75)] #[29])) (some (74, false))), (.mk (some 77) (.move (.tmp 8)) (some (74, false))), (.mk (some 78) (.call (.mk (.builtin (.len)) #[(.tmp 77)] #[29])) (some (74, false))), (.mk (some 79) (.binOp (.add) 3 (.tmp 78) (.const (.int (.i64) 1)) 3) (some (74, false))), (.mk (some 80) (.binOp (.gtr) 3 (.tmp 76) (.tmp 79) 3) (some (74, false))), (.mk (some 81) (.pick (.tmp 74) (.const (.bool true)) (.tmp 80)) none)])
def s4_14 : SCode := (.reg [(.mk (some 6) (.assign (.const (.bool false))) none)])
def s4_15 : SCode := (.cond (.tmp 81) (.seq s4_14 (.ret)) (.skip))
def s4_16 : SCode := (.reg [(.mk (some 10) (.assign (.const (.int (.i64) 0))) none)])
def s4_17 : SCode := (.reg [(.mk (some 82) (.move (.tmp 10)) none), (.mk (some 83) (.move (.tmp 8)) none), (.mk (some 84) (.call (.mk (.builtin (.len)) #[(.tmp 83)] #[29])) none), (.mk (some 85) (.binOp (.lss) 3 (.tmp 82) (.tmp 84) 3) none)])
def s4_18 : SCode := (.seq s4_17 (.cond (.tmp 85) (.skip) (.exit 0)))
def s4_19 : SCode := (.reg [(.mk (some 88) (.move (.tmp 10)) none), (.mk (some 89) (.move (.tmp 8)) none), (.mk (some 90) (.call (.mk (.builtin (.len)) #[(.tmp 89)] #[29])) none), (.mk (some 91) (.binOp (.sub) 3 (.tmp 90) (.const (.int (.i64) 1)) 3) none), (.mk (some 92) (.binOp (.eql) 3 (.tmp 88) (.tmp 91) 3) none), (.mk (some 93) (.move (.tmp 92)) none), (.mk (some 94) (.move (.tmp 9)) (some (93, true))), (.mk (some 95) (.call (.mk (.builtin (.len)) #[(.tmp 94)] #[29])) (some (93, true))), (.mk (some 96) (.move (.tmp 8)) (some (93, true))), (.mk (some 97) (.call (.mk (.builtin (.len)) #[(.tmp 96)] #[29])) (some (93, true))), (.mk (some 98) (.binOp (.eql) 3 (.tmp 95) (.tmp 97) 3) (some (93, true))), (.mk (some 99) (.pick (.tmp 93) (.tmp 98) (.const (.bool false))) none)])
def s4_20 : SCode := (.drw [((.mk (some 100) (.move (.tmp 8)) none), 0), ((.mk (some 101) (.move (.tmp 10)) none), 0), ((.mk (some 102) (.indexAddr 29 (.tmp 100) (.tmp 101)) none), 0), ((.mk (some 103) (.fieldAddr 37 (.tmp 102) 0) none), 0), ((.mk (some 104) (.load 3 (.tmp 103)) none), 0), ((.mk (some 105) (.move (.tmp 9)) none), 0), ((.mk (some 106) (.move (.tmp 10)) none), 0), ((.mk (some 107) (.indexAddr 29 (.tmp 105) (.tmp 106)) none), 0), ((.mk (some 108) (.fieldAddr 37 (.tmp 107) 0) none), 0), ((.mk (some 109) (.load 3 (.tmp 108)) none), 0), ((.mk (some 110) (.binOp (.eql) 3 (.tmp 104) (.tmp 109) 3) none), 0), ((.mk (some 111) (.move (.tmp 110)) none), 0), ((.mk (some 112) (.move (.tmp 8)) (some (111, true))), 0), ((.mk (some 113) (.move (.tmp 10)) (some (111, true))), 0), ((.mk (some 114) (.indexAddr 29 (.tmp 112) (.tmp 113)) (some (111, true))), 0), ((.mk (some 115) (.fieldAddr 37 (.tmp 114) 1) (some (111, true))), 0), ((.mk (some 116) (.load 3 (.tmp 115)) (some (111, true))), 0), ((.mk (some 117) (.binOp (.add) 3 (.tmp 116) (.const (.int (.i64) 1)) 3) (some (111, true))), 0), ((.mk (some 118) (.move (.tmp 9)) (some (111, true))), 0), ((.mk (some 119) (.move (.tmp 10)) (some (111, true))), 0), ((.mk (some 120) (.indexAddr 29 (.tmp 118) (.tmp 119)) (some (111, true))), 0), ((.mk (some 121) (.fieldAddr 37 (.tmp 120) 1) (some (111, true))), 0), ((.mk (some 122) (.load 3 (.tmp 121)) (some (111, true))), 0), ((.mk (some 123) (.binOp (.eql) 3 (.tmp 117) (.tmp 122) 3) (some (111, true))), 0), ((.mk (some 124) (.pick (.tmp 111) (.tmp 123) (.const (.bool false))) none), 0), ((.mk (some 125) (.move (.tmp 124)) none), 0), ((.mk (some 126) (.move (.tmp 8)) (some (125, true))), 0), ((.mk (some 127) (.move (.tmp 10)) (some (125, true))), 0), ((.mk (some 128) (.indexAddr 29 (.tmp 126) (.tmp 127)) (some (125, true))), 0), ((.mk (some 129) (.fieldAddr 37 (.tmp 128) 3) (some (125, true))), 0), ((.mk (some 130) (.load 4 (.tmp 129)) (some (125, true))), 0), ((.mk (some 131) (.move (.tmp 9)) (some (125, true))), 0), ((.mk (some 132) (.move (.tmp 10)) (some (125, true))), 0), ((.mk (some 133) (.indexAddr 29 (.tmp 131) (.tmp 132)) (some (125, true))), 0), ((.mk (some 134) (.fieldAddr 37 (.tmp 133) 3) (some (125, true))), 0), ((.mk (some 135) (.load 4 (.tmp 134)) (some (125, true))), 0), ((.mk (some 136) (.binOp (.eql) 4 (.tmp 130) (.tmp 135) 4) (some (125, true))), 0), ((.mk (some 137) (.pick (.tmp 125) (.tmp 136) (.const (.bool false))) none), 0), ((.mk (some 138) (.move (.tmp 137)) none), 0), ((.mk (some 139) (.move (.tmp 8)) (some (138, true))), 0), ((.mk (some 140) (.move (.tmp 10)) (some (138, true))), 0), ((.mk (some 141) (.indexAddr 29 (.tmp 139) (.tmp 140)) (some (138, true))), 0), ((.mk (some 142) (.fieldAddr 37 (.tmp 141) 4) (some (138, true))), 0), ((.mk (some 143) (.load 4 (.tmp 142)) (some (138, true))), 0), ((.mk (some 144) (.move (.tmp 9)) (some (138, true))), 0), ((.mk (some 145) (.move (.tmp 10)) (some (138, true))), 0), ((.mk (some 146) (.indexAddr 29 (.tmp 144) (.tmp 145)) (some (138, true))), 0), ((.mk (some 147) (.fieldAddr 37 (.tmp 146) 4) (some (138, true))), 0), ((.mk (some 148) (.load 4 (.tmp 147)) (some (138, true))), 0), ((.mk (some 149) (.binOp (.eql) 4 (.tmp 143) (.tmp 148) 4) (some (138, true))), 0), ((.mk (some 150) (.pick (.tmp 138) (.tmp 149) (.const (.bool false))) none), 0), ((.mk (some 6) (.assign (.tmp 150)) none), 0)])
def s4_21 : SCode := (.cond (.tmp 99) (.seq s4_20 (.ret)) (.skip))
def s4_22 : SCode := (.drw [((.mk (some 151) (.move (.tmp 8)) none), 0), ((.mk (some 152) (.move (.tmp 10)) none), 0), ((.mk (some 153) (.indexAddr 29 (.tmp 151) (.tmp 152)) none), 0), ((.mk (some 154) (.load 37 (.tmp 153)) none), 0), ((.mk (some 155) (.move (.tmp 9)) none), 0), ((.mk (some 156) (.move (.tmp 10)) none), 0), ((.mk (some 157) (.indexAddr 29 (.tmp 155) (.tmp 156)) none), 0), ((.mk (some 158) (.load 37 (.tmp 157)) none), 0), ((.mk (some 159) (.call (.mk (.value (.func 18)) #[(.tmp 154), (.tmp 158)] #[37, 37])) none), 1), ((.mk (some 160) (.unOp (.not) 4 (.tmp 159)) none), 0)])
def s4_23 : SCode := (.reg [(.mk (some 6) (.assign (.const (.bool false))) none)])
def s4_24 : SCode := (.cond (.tmp 160) (.seq s4_23 (.ret)) (.skip))
def s4_25 : SCode := (.seq (.seq s4_19 s4_21) (.seq s4_22 s4_24))
def s4_26 : SCode := (.reg [(.mk (some 86) (.move (.tmp 10)) none), (.mk (some 87) (.binOp (.add) 3 (.tmp 86) (.const (.int (.i64) 1)) 3) none), (.mk (some 10) (.assign (.tmp 87)) none)])
def s4_27 : SCode := (.seq s4_18 (.seq (.block 1 s4_25) s4_26))
def s4_28 : SCode := (.drw [((.mk (some 161) (.move (.tmp 9)) none), 0), ((.mk (some 162) (.call (.mk (.builtin (.len)) #[(.tmp 161)] #[29])) none), 0), ((.mk (some 163) (.move (.tmp 8)) none), 0), ((.mk (some 164) (.call (.mk (.builtin (.len)) #[(.tmp 163)] #[29])) none), 0), ((.mk (some 165) (.binOp (.add) 3 (.tmp 164) (.const (.int (.i64) 1)) 3) none), 0), ((.mk (some 166) (.binOp (.eql) 3 (.tmp 162) (.tmp 165) 3) none), 0), ((.mk (some 167) (.move (.tmp 166)) none), 0), ((.mk (some 168) (.move (.tmp 9)) (some (167, true))), 0), ((.mk (some 169) (.move (.tmp 9)) (some (167, true))), 0), ((.mk (some 170) (.call (.mk (.builtin (.len)) #[(.tmp 169)] #[29])) (some (167, true))), 0), ((.mk (some 171) (.binOp (.sub) 3 (.tmp 170) (.const (.int (.i64) 1)) 3) (some (167, true))), 0), ((.mk (some 172) (.indexAddr 29 (.tmp 168) (.tmp 171)) (some (167, true))), 0), ((.mk (some 173) (.fieldAddr 37 (.tmp 172) 0) (some (167, true))), 0), ((.mk (some 174) (.load 3 (.tmp 173)) (some (167, true))), 0), ((.mk (some 175) (.move (.tmp 9)) (some (167, true))), 0), ((.mk (some 176) (.move (.tmp 9)) (some (167, true))), 0), ((.mk (some 177) (.call (.mk (.builtin (.len)) #[(.tmp 176)] #[29])) (some (167, true))), 0), ((.mk (some 178) (.binOp (.sub) 3 (.tmp 177) (.const (.int (.i64) 1)) 3) (some (167, true))), 0), ((.mk (some 179) (.indexAddr 29 (.tmp 175) (.tmp 178)) (some (167, true))), 0), ((.mk (some 180) (.fieldAddr 37 (.tmp 179) 1) (some (167, true))), 0), ((.mk (some 181) (.load 3 (.tmp 180)) (some (167, true))), 0), ((.mk (some 182) (.binOp (.eql) 3 (.tmp 174) (.tmp 181) 3) (some (167, true))), 0), ((.mk (some 183) (.pick (.tmp 167) (.tmp 182) (.const (.bool false))) none), 0), ((.mk (some 184) (.move (.tmp 183)) none), 0), ((.mk (some 185) (.move (.tmp 9)) (some (184, true))), 0), ((.mk (some 186) (.move (.tmp 9)) (some (184, true))), 0), ((.mk (some 187) (.call (.mk (.builtin (.len)) #[(.tmp 186)] #[29])) (some (184, true))), 0), ((.mk (some 188) (.binOp (.sub) 3 (.tmp 187) (.const (.int (.i64) 1)) 3) (some (184, true))), 0), ((.mk (some 189) (.indexAddr 29 (.tmp 185) (.tmp 188)) (some (184, true))), 0), ((.mk (some 190) (.fieldAddr 37 (.tmp 189) 0) (some (184, true))), 0), ((.mk (some 191) (.load 3 (.tmp 190)) (some (184, true))), 0), ((.mk (some 192) (.binOp (.lss) 3 (.tmp 191) (.const (.int (.i64) 1099511627776)) 3) (some (184, true))), 0), ((.mk (some 193) (.move (.tmp 192)) (some (184, true))), 0), ((.mk (some 194) (.move (.tmp 1)) (some (193, false))), 0), ((.mk (some 195) (.pick (.tmp 193) (.const (.bool true)) (.tmp 194)) (some (184, true))), 0), ((.mk (some 196) (.pick (.tmp 184) (.tmp 195) (.const (.bool false))) none), 0), ((.mk (some 6) (.assign (.tmp 196)) none), 0)])
def s4_29 : SCode := (.seq (.seq s4_16 (.block 0 (.loop s4_27))) (.seq s4_28 (.ret)))
def s4_30 : SCode := (.seq s4_12 (.seq (.seq s4_13 s4_15) s4_29))
def s4_31 : SCode := (.seq s4_1 (.seq s4_10 (.seq s4_11 s4_30)))
def s4 : SCode := (.seq s4_0 s4_31)
theorem h4 : FnS Try.prog 4 ⟨[], [(17, [(0, 0), (1, 0), (2, 0), (3, 0), (4, 0), (5, 0), (6, 0), (7, 0), (8, 0), (9, 0), (10, 0), (11, 0), (12, 0), (13, 0), (14, 0), (15, 0), (16, 0), (17, 0), (18, 0), (19, 0), (20, 0), (21, 0), (22, 0), (23, 0), (24, 0), (25, 0), (26, 0), (27, 0), (28, 0), (29, 0), (30, 0), (31, 0), (32, 0), (33, 0), (34, 0), (35, 0), (36, 0), (37, 0), (38, 0), (39, 0), (40, 0), (41, 0), (42, 0), (43, 0), (44, 0), (45, 0), (46, 0), (47, 0), (48, 0), (49, 0), (50, 0), (51, 0)]), (18, [(0, 0), (1, 0), (2, 0), (3, 0), (4, 0), (5, 0), (6, 0), (7, 0), (8, 1), (9, 0)]), (20, [(0, 0), (1, 0), (2, 0), (3, 0), (4, 0), (5, 0), (6, 0), (7, 0), (8, 0), (9, 0), (10, 0), (11, 0), (12, 0), (13, 0), (14, 0), (15, 0), (16, 0), (17, 0), (18, 0), (19, 0), (20, 0), (21, 0), (22, 0), (23, 0), (24, 0), (25, 0), (26, 0), (27, 0), (28, 0), (29, 0), (30, 0), (31, 0), (32, 0), (33, 0), (34, 0), (35, 0), (36, 0)])]⟩ 197 [(.tmp 6)] s4 := .mk' Try.func4 (by kernel_rfl) (by kernel_rfl) (by kernel_rfl) (by kernel_rfl) (by kernel_rfl) (by kernel_rfl)
def e4 := And.intro s4_0.eq_1 <| And.intro s4_1.eq_1 <| And.intro s4_2.eq_1 <| And.intro s4_3.eq_1 <| And.intro s4_4.eq_1 <| And.intro s4_5.eq_1 <| And.intro s4_6.eq_1 <| And.intro s4_7.eq_1 <| And.intro s4_8.eq_1 <| And.intro s4_9.eq_1 <| And.intro s4_10.eq_1 <| And.intro s4_11.eq_1 <| And.intro s4_12.eq_1 <| And.intro s4_13.eq_1 <| And.intro s4_14.eq_1 <| And.intro s4_15.eq_1 <| And.intro s4_16.eq_1 <| And.intro s4_17.eq_1 <| And.intro s4_18.eq_1 <| And.intro s4_19.eq_1 <| And.intro s4_20.eq_1 <| And.intro s4_21.eq_1 <| And.intro s4_22.eq_1 <| And.intro s4_23.eq_1 <| And.intro s4_24.eq_1 <| And.intro s4_25.eq_1 <| And.intro s4_26.eq_1 <| And.intro s4_27.eq_1 <| And.intro s4_28.eq_1 <| And.intro s4_29.eq_1 <| And.intro s4_30.eq_1 <| s4_31.eq_1
def s18_0 : SCode := (.reg [(.mk (some 2) (.box 37 (.tmp 0)) none), (.mk (some 3) (.box 37 (.tmp 1)) none), (.mk (some 4) (.assign (.const (.bool false))) none)])
def s18_1 : SCode := (.reg [(.mk (some 5) (.fieldAddr 37 (.tmp 2) 0) none), (.mk (some 6) (.load 3 (.tmp 5)) none), (.mk (some 7) (.fieldAddr 37 (.tmp 3) 0) none), (.mk (some 8) (.load 3 (.tmp 7)) none), (.mk (some 9) (.binOp (.eql) 3 (.tmp 6) (.tmp 8) 3) none), (.mk (some 10) (.move (.tmp 9)) none), (.mk (some 11) (.fieldAddr 37 (.tmp 2) 1) (some (10, true))), (.mk (some 12) (.load 3 (.tmp 11)) (some (10, true))), (.mk (some 13) (.fieldAddr 37 (.tmp 3) 1) (some (10, true))), (.mk (some 14) (.load 3 (.tmp 13)) (some (10, true))), (.mk (some 15) (.binOp (.eql) 3 (.tmp 12) (.tmp 14) 3) (some (10, true))), (.mk (some 16) (.pick (.tmp 10) (.tmp 15) (.const (.bool false))) none), (.mk (some 17) (.move (.tmp 16)) none), (.mk (some 18) (.fieldAddr 37 (.tmp 2) 3) (some (17, true))), (.mk (some 19) (.load 4 (.tmp 18)) (some (17, true))), (.mk (some 20) (.fieldAddr 37 (.tmp 3) 3) (some (17, true))), (.mk (some 21) (.load 4 (.tmp 20)) (some (17, true))), (.mk (some 22) (.binOp (.eql) 4 (.tmp 19) (.tmp 21) 4) (some (17, true))), (.mk (some 23) (.pick (.tmp 17) (.tmp 22) (.const (.bool false))) none), (.mk (some 24) (.move (.tmp 23)) none), (.mk (some 25) (.fieldAddr 37 (.tmp 2) 4) (some (24, true))), (.mk (some 26) (.load 4 (.tmp 25)) (some (24, true))), (.mk (some 27) (.fieldAddr 37 (.tmp 3) 4) (some (24, true))), (.mk (some 28) (.load 4 (.tmp 27)) (some (24, true))), (.mk (some 29) (.binOp (.eql) 4 (.tmp 26) (.tmp 28) 4) (some (24, true))), (.mk (some 30) (.pick (.tmp 24) (.tmp 29) (.const (.bool false))) none), (.mk (some 31) (.move (.tmp 30)) none), (.mk (some 32) (.fieldAddr 37 (.tmp 2) 2) (some (31, true))), (.mk (some 33) (.load 22 (.tmp 32)) (some (31, true))), (.mk (some 34) (.fieldAddr 37 (.tmp 3) 2) (some (31, true))), (.mk (some 35) (.load 22 (.tmp 34)) (some (31, true))), (.mk (some 36) (.call (.mk (.value (.func 17)) #[(.tmp 33), (.tmp 35)] #[22, 22])) (some (31, true))), (.mk (some 37) (.pick (.tmp 31) (.tmp 36) (.const (.bool false))) none), (.mk (some 4) (.assign (.tmp 37)) none)])
def s18 : SCode := (.seq s18_0 (.seq s18_1 (.ret)))
theorem h18 : FnS Try.prog 18 ⟨[2, 3], []⟩ 38 [(.tmp 4)] s18 := .mk' Try.func18 (by kernel_rfl) (by kernel_rfl) (by kernel_rfl) (by kernel_rfl) (by kernel_rfl) (by kernel_rfl)
def e18 := And.intro s18_0.eq_1 <| s18_1.eq_1
end Gv.Try
