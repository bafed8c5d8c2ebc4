/- Contracts: lines. -/
import Derived.Test.YtcjiabpfahmjnaaSA3
set_option linter.unusedVariables false
set_option linter.unusedSimpArgs false
set_option maxRecDepth 20000
namespace Gv.Try
open Go Gv Go.Proofs

structure Seg where
  lo : Int
  hi : Int
  par : List Int
  root : Bool
  head : Bool
deriving DecidableEq, Inhabited
def segG (s : Seg) : List GVal := [.int .i64 s.lo, .int .i64 s.hi, .slice (ints s.par) .none, .bool s.root, .bool s.head]
def segsG (l : List Seg) : List (List GVal) := l.map segG
theorem segsG_length (l : List Seg) : (segsG l).length = l.length := by simp [segsG]
theorem segsG_at (l : List Seg) (i : Nat) (h : i < l.length) : (segsG l).getD i [] = segG (l.getD i default) := by simp [segsG, List.getD, h]
theorem segsG_append (a b : List Seg) : segsG (a ++ b) = segsG a ++ segsG b := by simp [segsG]
theorem segsG_one (s : Seg) : segsG [s] = [segG s] := rfl
theorem all_segsG (l : List Seg) : (∀ x ∈ segsG l, x.length = 5) = True := by simp [segsG, segG]
theorem segsG_set (l : List Seg) (i : Nat) (s : Seg) : (segsG l).set i (segG s) = segsG (l.set i s) := by simp [segsG, List.map_set]
theorem frz_segs (O : List GObj) (n : Nat) (l : List Seg) : frzLL (Gv.frz O (n + 2)) (segsG l) = some (segsG l) :=
  frzLL_same fun x hx => by
    obtain ⟨s, _, rfl⟩ := List.mem_map.1 hx
    simp only [segG, frzL, frz_intsS, Tag.frz]
    simp [Gv.frz]

/-- the heads' map -/
def headsG (l : List Int) : List (GVal × GVal) := l.map fun n => (.int .i64 n, .bool true)
theorem headsG_length (l : List Int) : (headsG l).length = l.length := by simp [headsG]
def hins (l : List Int) (n : Int) : List Int := if n ∈ l then l else l ++ [n]
theorem kfind_heads (p : Int) : ∀ l : List Int, kfind ⟨[.int], false⟩ (.int .i64 p) (headsG l) = some (if p ∈ l then some (l.idxOf p) else none)
  | [] => rfl
  | a :: l => by
    have ih := kfind_heads p l
    show kfind _ _ ((GVal.int .i64 a, GVal.bool true) :: headsG l) = _
    unfold kfind
    have e : keyEq ⟨[.int], false⟩ (.int .i64 p) (.int .i64 a) = some (p == a) := by
      simp [keyEq, keyCells, cellsEq, ceq]
    rw [e, ih]
    by_cases h : p = a
    · subst h; simp
    · have h' : (p == a) = false := by simpa using h
      rw [h']
      by_cases hm : p ∈ l
      · have h2 : (a == p) = false := by simpa using Ne.symm h
        simp [hm, h, List.idxOf_cons, h2]
      · simp [hm, h]

theorem map_eraseIdx' {α β : Type} (f : α → β) : ∀ (l : List α) (i : Nat), (l.map f).eraseIdx i = (l.eraseIdx i).map f
  | [], _ => rfl
  | a :: l, 0 => rfl
  | a :: l, i + 1 => by simp [map_eraseIdx' f l i]
theorem delete_heads (P : Program) (t : TypeId) (u : TypeId) (hk : keyT P t = some (⟨[.int], false⟩, u)) (st : Nat) (p : Int) (hs : List Int) (r : List GObj) (K : List GObj → Prop) :
    deleteV P t (.map 0 st) (.int .i64 p) (.map st (headsG hs) :: r) K = K (.map st (headsG (hs.erase p)) :: r) := by
  unfold deleteV
  rw [hk]
  simp only [keyOk, keyCells, List.length_cons, List.length_nil, List.getElem?_cons_zero, true_and, kfind_heads]
  by_cases h : p ∈ hs
  · rw [if_pos h]
    simp only [List.set_cons_zero]
    rw [List.erase_eq_eraseIdx_of_idxOf (i := hs.idxOf p) rfl]
    rw [headsG, map_eraseIdx']; rfl
  · rw [if_neg h, List.erase_of_not_mem h]
theorem update_heads (P : Program) (t : TypeId) (u : TypeId) (hk : keyT P t = some (⟨[.int], false⟩, u)) (st : Nat) (p : Int) (hs : List Int) (r : List GObj) (K : List GObj → Prop) :
    mapUpdateV P t (.map 0 st) (.int .i64 p) (.bool true) (.map st (headsG hs) :: r) K = K (.map st (headsG (hins hs p)) :: r) := by
  unfold mapUpdateV
  rw [hk]
  simp only [keyOk, keyCells, List.length_cons, List.length_nil, List.getElem?_cons_zero, true_and, kfind_heads]
  by_cases h : p ∈ hs
  · rw [if_pos h, hins, if_pos h]
    simp only [List.set_cons_zero]
    have : (headsG hs).set (hs.idxOf p) (.int .i64 p, .bool true) = headsG hs := by
      have h1 : hs.idxOf p < hs.length := List.idxOf_lt_length_iff.2 h
      have h2 : hs[hs.idxOf p] = p := List.getElem_idxOf h1
      apply List.ext_getElem (by simp)
      intro i h3 h4
      rw [List.getElem_set]
      split
      · rename_i e; subst e; simp [headsG, h2]
      · rfl
    rw [this]
  · rw [if_neg h, hins, if_neg h]
    simp [headsG]

def hdel (l : List Int) : List Int → List Int
  | [] => l
  | p :: r => hdel (l.erase p) r
theorem hdel_append (l a b : List Int) : hdel l (a ++ b) = hdel (hdel l a) b := by
  induction a generalizing l with
  | nil => rfl
  | cons x a ih => exact ih _
theorem hdel_take (l q : List Int) (i : Nat) (h : i < q.length) : hdel l (q.take (i + 1)) = (hdel l (q.take i)).erase (q.getD i 0) := by
  rw [List.take_add_one, hdel_append]
  simp [List.getElem?_eq_getElem h, hdel, List.getD]

theorem toNat_pred (n : Nat) : ((n : Int) - 1).toNat = n - 1 := by omega
theorem getD_set_segs (l : List Seg) (i : Nat) (x d : List GVal) (h : i < l.length) : ((segsG l).set i x).getD i d = x := by
  have : i < (segsG l).length := by rw [segsG_length]; exact h
  simp [List.getD, this]
theorem getD_set_same {α : Type} (l : List α) (i : Nat) (x d : α) (h : i < l.length) : (l.set i x).getD i d = x := by simp [List.getD, h]
theorem cast_beq_one (n : Nat) : ((n : Int) == 1) = decide (n = 1) := by
  rw [Bool.eq_iff_iff, beq_iff_eq, decide_eq_true_iff]; omega
theorem cast_beq_zero (n : Nat) : ((n : Int) == 0) = decide (n = 0) := by
  rw [Bool.eq_iff_iff, beq_iff_eq, decide_eq_true_iff]; omega
structure LSt where
  out : List Seg
  hs : List Int
def lstep (frm : Int) (s : LSt) (k : Nat) (q : List Int) : LSt :=
  let hs := hins (hdel s.hs q) (frm + k)
  if 0 < k ∧ q.length = 1 ∧ q.getD 0 0 = frm + k - 1 then ⟨s.out.set (s.out.length - 1) { s.out.getD (s.out.length - 1) default with hi := frm + k, head := decide (hs.length = 1) }, hs⟩
  else ⟨s.out ++ [⟨frm + k, frm + k, q, decide (q.length = 0), decide (hs.length = 1)⟩], hs⟩
def lrun (frm : Int) (l : List (List Int)) : Nat → LSt
  | 0 => ⟨[], []⟩
  | n + 1 => lstep frm (lrun frm l n) n (l.getD n [])
def linesI (frm : Int) (l : List (List Int)) : List Seg := (lrun frm l l.length).out
theorem lstep_len (frm : Int) (s : LSt) (k : Nat) (q : List Int) : (lstep frm s k q).out.length ≤ s.out.length + 1 ∧ s.out.length ≤ (lstep frm s k q).out.length ∧ (s.out = [] ∧ k ≠ 0 ∨ (lstep frm s k q).out ≠ []) := by
  unfold lstep
  simp only
  split
  · rename_i h
    refine ⟨by simp, by simp, ?_⟩
    by_cases e : s.out = []
    · exact .inl ⟨e, by omega⟩
    · right; simpa using e
  · exact ⟨by simp, by simp, .inr (by simp)⟩
theorem lrun_len (frm : Int) (l : List (List Int)) : ∀ k, (lrun frm l k).out.length ≤ k ∧ (k ≠ 0 → (lrun frm l k).out ≠ [])
  | 0 => by simp [lrun]
  | k + 1 => by
    have h := lstep_len frm (lrun frm l k) k (l.getD k [])
    have ih := lrun_len frm l k
    refine ⟨by rw [lrun]; omega, fun _ => ?_⟩
    rcases h.2.2 with h1 | h1
    · exact absurd h1.1 (ih.2 h1.2)
    · rw [lrun]; exact h1

theorem c41 (l : List (List Int)) (t : Tag) (frm : Int) (hl : l.length ≤ 1000) (hf : 0 ≤ frm) (hf2 : frm ≤ 1099511627776) (hr : ∀ p ∈ l, p.length ≤ 4) :
    GCalls Try.prog 41 [.slice (tabG l) t, .int .i64 frm] [] (fun g O' => ∃ st0 st1, g = .own 1 st1 0 (linesI frm l).length ∧ O' = [.map st0 (headsG (lrun frm l l.length).hs), .row st1 5 (segsG (linesI frm l))]) := by
  refine h41.calls mixS (by simp) ?_
  simp only [gstart, s41, List.cons_append, List.nil_append, List.length_cons, List.length_nil, Nat.reduceAdd, Nat.reduceSub, List.replicate_succ, List.replicate_zero]
  simp +contextual -implicitDefEqProofs (maxSteps := 2000000) (disch := omega) only [vcS_skip, vcS_reg, vcS_seq, vcS_cond, vcS_block, vcS_exit, vcS_ret, vcS_loopI, ↓gif_true, ↓gif_false, ↓gif_dec, ↓gif_not, ↓gif_eq, ↓gif_ne, opsS_nil, opsS_one, opsS_if, ↓op_move, ↓op_assign, ↓op_binOp, ↓op_load, ↓op_store, ↓op_fieldAddr, ↓op_indexAddr, ↓op_mapUpdate, ↓op_makeMap, ↓op_build, ↓op_buildSlice, ↓op_slice, ↓op_nilCheck, ↓op_pick, ↓op_len, ↓op_delete, ↓op_append, ↓op_funcI, hold_mk, ev_tmp, ev_const, ev_func, put_some, put_none, setS_mk, ↓ibin_add, ↓ibin_sub, ↓ibin_eql, ↓ibin_lss, ↓ibin_gtr, ↓lenV, binV, optV, ↓loadV, ↓storeV, ↓fieldAddrV, ↓indexAddrV, ↓gif_neb, ↓gif_eqb, ↓buildV, ↓buildSliceV, ↓sliceV, ↓nilV, ↓appendV, ↓srcV, bound, cutTag, hiTag, fillG, fillE, place, GVal.cells, grp, GVal.ofConst, GVal.ofConst, ↓thenQ, ↓blockQ, ↓retQ, ↓resV, resG, sget_0, sget_1, sget_2, sget_3, sget_4, set_0, set_1, set_2, set_3, set_4, setO_0, setO_1, setO_2, setL_0, setL_1, setL_2, List.getElem?_cons_succ, List.getElem?_cons_zero, List.getElem?_nil, List.map, List.cons_append, List.nil_append, List.headD, List.take, List.drop, List.length_cons, List.length_nil, ↓reduceIte, Nat.reduceEqDiff, Nat.reduceAdd, Nat.reduceSub, Nat.reduceLeDiff, reduceCtorEq, false_implies, true_implies, true_and, and_true, implies_true, decide_eq_true_eq, decide_eq_false_iff_not, beq_iff_eq, bne_iff_ne, beq_eq_false_iff_ne, bne_eq_false_iff_eq, Int.toNat_natCast, Bool.and_eq_true, Bool.not_eq_true', Bool.not_eq_false', Bool.and_eq_false_imp, Int.not_lt, Int.not_le, ne_eq, norm_i64, ints_length, ints_at, leG_bool, leG_int, ↓asrcV, ↓srcV, ↓mapUpdateV, ↓deleteV, ↓makeMapV, keyOk, keyCells, aggV, Tag.cap, List.replicate, List.append_nil, okCells_eq, allSolid_eq, allSolid, GVal.solid, all_nil, all_cons, all_append, all_ints, all_tabG, stamp_nil, stamp_tok, stamp_row, stamp_map, tick_nil, tick_tok, tick_row, tick_map, List.contains_cons, List.contains_nil, beq_self_eq_true, Bool.or_false, Bool.true_or, Bool.or_true, Nat.reduceBEq, tabG_length, tabG_at, Nat.zero_add, Int.natCast_add, Int.cast_ofNat_Int, Nat.reduceMul, Nat.reduceLT, Nat.zero_lt_one, Nat.lt_add_one, decide_true, List.length_map, List.length_range, leA_int, leA_bool, leA_slice, leA_agg, leA_tuple, WL_nil, WL_cons, leG_self, splice, List.getD_cons_zero, List.getD_cons_succ, List.take_zero, List.take_succ_cons, List.drop_zero, List.drop_succ_cons, List.take_nil, List.drop_nil, Bool.not_true, Bool.not_false, not_false_eq_true, els22, els25, els29, els46, elt22, elt25, elt29, elt46, fld24_0, fld24_1, fld27_0, fld27_1, fld32_0, fld32_1, fld37_0, fld37_1, fld37_2, fld37_3, fld37_4, keyT90, notInt22, notInt24, notInt25, notInt27, notInt29, notInt3, notInt32, notInt37, notInt46, notInt79, notInt90, plc32, plc37, tab22, tab24, tab25, tab27, tab29, tab3, tab32, tab37, tab4, und22, und25, und29, und3, und4, und46, und79, und90, zer24, zer27, zer32, zer37, zeroG4, s41_0, s41_1, s41_2, s41_3, s41_4, s41_5, s41_6, s41_7, s41_8, s41_9, s41_10, s41_11, s41_12, s41_13, s41_14, s41_15, s41_16, s41_17, s41_18, s41_19, s41_20, s41_21, s41_22, s41_23, s41_24, s41_25, s41_26, s41_27]
  intro st0
  refine vcSLoop_by (ι := { p : Nat × Nat // p.1 ≤ l.length }) (fun p => ⟨[.slice (tabG l) t, .int .i64 frm, .any, .any, .any, .own 1 p.1.2 0 (lrun frm l p.1.1).out.length, .map 0 st0, .any, .any, .any, .any, .any, .any, .any, .slice (tabG l) t, .int .i64 l.length, .int .i64 (p.1.1 : Nat)] ++ List.replicate 64 .any, [.map st0 (headsG (lrun frm l p.1.1).hs), .row p.1.2 5 (segsG (lrun frm l p.1.1).out)]⟩) (fun p => l.length - p.1.1) ?_ ?_
  · refine Into.row 5 5 rfl rfl ?_
    simp +contextual -implicitDefEqProofs (maxSteps := 2000000) (disch := omega) only [vcS_skip, vcS_reg, vcS_seq, vcS_cond, vcS_block, vcS_exit, vcS_ret, vcS_loopI, ↓gif_true, ↓gif_false, ↓gif_dec, ↓gif_not, ↓gif_eq, ↓gif_ne, opsS_nil, opsS_one, opsS_if, ↓op_move, ↓op_assign, ↓op_binOp, ↓op_load, ↓op_store, ↓op_fieldAddr, ↓op_indexAddr, ↓op_mapUpdate, ↓op_makeMap, ↓op_build, ↓op_buildSlice, ↓op_slice, ↓op_nilCheck, ↓op_pick, ↓op_len, ↓op_delete, ↓op_append, ↓op_funcI, hold_mk, ev_tmp, ev_const, ev_func, put_some, put_none, setS_mk, ↓ibin_add, ↓ibin_sub, ↓ibin_eql, ↓ibin_lss, ↓ibin_gtr, ↓lenV, binV, optV, ↓loadV, ↓storeV, ↓fieldAddrV, ↓indexAddrV, ↓gif_neb, ↓gif_eqb, ↓buildV, ↓buildSliceV, ↓sliceV, ↓nilV, ↓appendV, ↓srcV, bound, cutTag, hiTag, fillG, fillE, place, GVal.cells, grp, GVal.ofConst, GVal.ofConst, ↓thenQ, ↓blockQ, ↓retQ, ↓resV, resG, sget_0, sget_1, sget_2, sget_3, sget_4, set_0, set_1, set_2, set_3, set_4, setO_0, setO_1, setO_2, setL_0, setL_1, setL_2, List.getElem?_cons_succ, List.getElem?_cons_zero, List.getElem?_nil, List.map, List.cons_append, List.nil_append, List.headD, List.take, List.drop, List.length_cons, List.length_nil, ↓reduceIte, Nat.reduceEqDiff, Nat.reduceAdd, Nat.reduceSub, Nat.reduceLeDiff, reduceCtorEq, false_implies, true_implies, true_and, and_true, implies_true, decide_eq_true_eq, decide_eq_false_iff_not, beq_iff_eq, bne_iff_ne, beq_eq_false_iff_ne, bne_eq_false_iff_eq, Int.toNat_natCast, Bool.and_eq_true, Bool.not_eq_true', Bool.not_eq_false', Bool.and_eq_false_imp, Int.not_lt, Int.not_le, ne_eq, norm_i64, ints_length, ints_at, leG_bool, leG_int, ↓asrcV, ↓srcV, ↓mapUpdateV, ↓deleteV, ↓makeMapV, keyOk, keyCells, aggV, Tag.cap, List.replicate, List.append_nil, okCells_eq, allSolid_eq, allSolid, GVal.solid, all_nil, all_cons, all_append, all_ints, all_tabG, stamp_nil, stamp_tok, stamp_row, stamp_map, tick_nil, tick_tok, tick_row, tick_map, List.contains_cons, List.contains_nil, beq_self_eq_true, Bool.or_false, Bool.true_or, Bool.or_true, Nat.reduceBEq, tabG_length, tabG_at, Nat.zero_add, Int.natCast_add, Int.cast_ofNat_Int, Nat.reduceMul, Nat.reduceLT, Nat.zero_lt_one, Nat.lt_add_one, decide_true, List.length_map, List.length_range, leA_int, leA_bool, leA_slice, leA_agg, leA_tuple, WL_nil, WL_cons, leG_self, splice, List.getD_cons_zero, List.getD_cons_succ, List.take_zero, List.take_succ_cons, List.drop_zero, List.drop_succ_cons, List.take_nil, List.drop_nil, Bool.not_true, Bool.not_false, not_false_eq_true, els22, els25, els29, els46, elt22, elt25, elt29, elt46, fld24_0, fld24_1, fld27_0, fld27_1, fld32_0, fld32_1, fld37_0, fld37_1, fld37_2, fld37_3, fld37_4, keyT90, notInt22, notInt24, notInt25, notInt27, notInt29, notInt3, notInt32, notInt37, notInt46, notInt79, notInt90, plc32, plc37, tab22, tab24, tab25, tab27, tab29, tab3, tab32, tab37, tab4, und22, und25, und29, und3, und4, und46, und79, und90, zer24, zer27, zer32, zer37, zeroG4, s41_0, s41_1, s41_2, s41_3, s41_4, s41_5, s41_6, s41_7, s41_8, s41_9, s41_10, s41_11, s41_12, s41_13, s41_14, s41_15, s41_16, s41_17, s41_18, s41_19, s41_20, s41_21, s41_22, s41_23, s41_24, s41_25, s41_26, s41_27]
    intro t
    exact Into.first ⟨(0, t), by omega⟩ ⟨[], by simp [lrun, headsG, segsG]⟩ (by simp [WL, leG_self, leG_any, lrun])
  · rintro ⟨⟨k, st1⟩, hk⟩
    simp +contextual -implicitDefEqProofs (maxSteps := 2000000) (disch := omega) only [vcS_skip, vcS_reg, vcS_seq, vcS_cond, vcS_block, vcS_exit, vcS_ret, vcS_loopI, ↓gif_true, ↓gif_false, ↓gif_dec, ↓gif_not, ↓gif_eq, ↓gif_ne, opsS_nil, opsS_one, opsS_if, ↓op_move, ↓op_assign, ↓op_binOp, ↓op_load, ↓op_store, ↓op_fieldAddr, ↓op_indexAddr, ↓op_mapUpdate, ↓op_makeMap, ↓op_build, ↓op_buildSlice, ↓op_slice, ↓op_nilCheck, ↓op_pick, ↓op_len, ↓op_delete, ↓op_append, ↓op_funcI, hold_mk, ev_tmp, ev_const, ev_func, put_some, put_none, setS_mk, ↓ibin_add, ↓ibin_sub, ↓ibin_eql, ↓ibin_lss, ↓ibin_gtr, ↓lenV, binV, optV, ↓loadV, ↓storeV, ↓fieldAddrV, ↓indexAddrV, ↓gif_neb, ↓gif_eqb, ↓buildV, ↓buildSliceV, ↓sliceV, ↓nilV, ↓appendV, ↓srcV, bound, cutTag, hiTag, fillG, fillE, place, GVal.cells, grp, GVal.ofConst, GVal.ofConst, ↓thenQ, ↓blockQ, ↓retQ, ↓resV, resG, sget_0, sget_1, sget_2, sget_3, sget_4, set_0, set_1, set_2, set_3, set_4, setO_0, setO_1, setO_2, setL_0, setL_1, setL_2, List.getElem?_cons_succ, List.getElem?_cons_zero, List.getElem?_nil, List.map, List.cons_append, List.nil_append, List.headD, List.take, List.drop, List.length_cons, List.length_nil, ↓reduceIte, Nat.reduceEqDiff, Nat.reduceAdd, Nat.reduceSub, Nat.reduceLeDiff, reduceCtorEq, false_implies, true_implies, true_and, and_true, implies_true, decide_eq_true_eq, decide_eq_false_iff_not, beq_iff_eq, bne_iff_ne, beq_eq_false_iff_ne, bne_eq_false_iff_eq, Int.toNat_natCast, Bool.and_eq_true, Bool.not_eq_true', Bool.not_eq_false', Bool.and_eq_false_imp, Int.not_lt, Int.not_le, ne_eq, norm_i64, ints_length, ints_at, leG_bool, leG_int, ↓asrcV, ↓srcV, ↓mapUpdateV, ↓deleteV, ↓makeMapV, keyOk, keyCells, aggV, Tag.cap, List.replicate, List.append_nil, okCells_eq, allSolid_eq, allSolid, GVal.solid, all_nil, all_cons, all_append, all_ints, all_tabG, stamp_nil, stamp_tok, stamp_row, stamp_map, tick_nil, tick_tok, tick_row, tick_map, List.contains_cons, List.contains_nil, beq_self_eq_true, Bool.or_false, Bool.true_or, Bool.or_true, Nat.reduceBEq, tabG_length, tabG_at, Nat.zero_add, Int.natCast_add, Int.cast_ofNat_Int, Nat.reduceMul, Nat.reduceLT, Nat.zero_lt_one, Nat.lt_add_one, decide_true, List.length_map, List.length_range, leA_int, leA_bool, leA_slice, leA_agg, leA_tuple, WL_nil, WL_cons, leG_self, splice, List.getD_cons_zero, List.getD_cons_succ, List.take_zero, List.take_succ_cons, List.drop_zero, List.drop_succ_cons, List.take_nil, List.drop_nil, Bool.not_true, Bool.not_false, not_false_eq_true, els22, els25, els29, els46, elt22, elt25, elt29, elt46, fld24_0, fld24_1, fld27_0, fld27_1, fld32_0, fld32_1, fld37_0, fld37_1, fld37_2, fld37_3, fld37_4, keyT90, notInt22, notInt24, notInt25, notInt27, notInt29, notInt3, notInt32, notInt37, notInt46, notInt79, notInt90, plc32, plc37, tab22, tab24, tab25, tab27, tab29, tab3, tab32, tab37, tab4, und22, und25, und29, und3, und4, und46, und79, und90, zer24, zer27, zer32, zer37, zeroG4, s41_0, s41_1, s41_2, s41_3, s41_4, s41_5, s41_6, s41_7, s41_8, s41_9, s41_10, s41_11, s41_12, s41_13, s41_14, s41_15, s41_16, s41_17, s41_18, s41_19, s41_20, s41_21, s41_22, s41_23, s41_24, s41_25, s41_26, s41_27]
    refine ⟨fun h => ⟨by omega, ?_⟩, fun h => ?_⟩
    · have hkl : k < l.length := by omega
      have hq : (l.getD k []).length ≤ 4 := by
        rw [List.getD_eq_getElem?_getD, List.getElem?_eq_getElem hkl]; exact hr _ (List.getElem_mem hkl)
      have hrun : lrun frm l (k + 1) = lstep frm (lrun frm l k) k (l.getD k []) := rfl
      have hlen := lrun_len frm l k
      revert hrun hlen
      generalize lrun frm l k = s0
      generalize hs1 : lrun frm l (k + 1) = s1
      generalize l.getD k [] = q at *
      intro hrun hlen
      refine vcSLoop_by (ι := { i : Nat // i ≤ q.length }) (fun i => ⟨[.slice (tabG l) t, .int .i64 frm, .any, .any, .any, .own 1 st1 0 s0.out.length, .map 0 st0, .int .i64 (k : Nat), .slice (ints q) .none, .int .i64 (frm + k), .any, .any, .any, .any, .slice (tabG l) t, .int .i64 l.length, .int .i64 (k : Nat), .any, .any, .any, .any, .any, .any, .any, .slice (ints q) .none, .int .i64 q.length, .int .i64 (i.1 : Nat)] ++ List.replicate 54 .any, [.map st0 (headsG (hdel s0.hs (q.take i.1))), .row st1 5 (segsG s0.out)]⟩) (fun i => q.length - i.1) ?_ ?_
      · exact Into.first ⟨0, by omega⟩ ⟨[], by simp [hdel]⟩ (by simp [WL, leG_self, leG_any])
      · rintro ⟨i, hi⟩
        have hpos : 0 < k → 0 < s0.out.length := fun h => List.length_pos_iff.2 (hlen.2 (by omega))
        have c58 := spec58 q .none (by omega) (by simp)
        simp +contextual -implicitDefEqProofs (maxSteps := 2000000) (disch := omega) only [vcS_skip, vcS_reg, vcS_seq, vcS_cond, vcS_block, vcS_exit, vcS_ret, vcS_loopI, ↓gif_true, ↓gif_false, ↓gif_dec, ↓gif_not, ↓gif_eq, ↓gif_ne, opsS_nil, opsS_one, opsS_if, ↓op_move, ↓op_assign, ↓op_binOp, ↓op_load, ↓op_store, ↓op_fieldAddr, ↓op_indexAddr, ↓op_mapUpdate, ↓op_makeMap, ↓op_build, ↓op_buildSlice, ↓op_slice, ↓op_nilCheck, ↓op_pick, ↓op_len, ↓op_delete, ↓op_append, ↓op_funcI, hold_mk, ev_tmp, ev_const, ev_func, put_some, put_none, setS_mk, ↓ibin_add, ↓ibin_sub, ↓ibin_eql, ↓ibin_lss, ↓ibin_gtr, ↓lenV, binV, optV, ↓loadV, ↓storeV, ↓fieldAddrV, ↓indexAddrV, ↓gif_neb, ↓gif_eqb, ↓buildV, ↓buildSliceV, ↓sliceV, ↓nilV, ↓appendV, ↓srcV, bound, cutTag, hiTag, fillG, fillE, place, GVal.cells, grp, GVal.ofConst, GVal.ofConst, ↓thenQ, ↓blockQ, ↓retQ, ↓resV, resG, sget_0, sget_1, sget_2, sget_3, sget_4, set_0, set_1, set_2, set_3, set_4, setO_0, setO_1, setO_2, setL_0, setL_1, setL_2, List.getElem?_cons_succ, List.getElem?_cons_zero, List.getElem?_nil, List.map, List.cons_append, List.nil_append, List.headD, List.take, List.drop, List.length_cons, List.length_nil, ↓reduceIte, Nat.reduceEqDiff, Nat.reduceAdd, Nat.reduceSub, Nat.reduceLeDiff, reduceCtorEq, false_implies, true_implies, true_and, and_true, implies_true, decide_eq_true_eq, decide_eq_false_iff_not, beq_iff_eq, bne_iff_ne, beq_eq_false_iff_ne, bne_eq_false_iff_eq, Int.toNat_natCast, Bool.and_eq_true, Bool.not_eq_true', Bool.not_eq_false', Bool.and_eq_false_imp, Int.not_lt, Int.not_le, ne_eq, norm_i64, ints_length, ints_at, leG_bool, leG_int, ↓asrcV, ↓srcV, ↓makeMapV, keyOk, keyCells, aggV, Tag.cap, List.replicate, List.append_nil, okCells_eq, allSolid_eq, allSolid, GVal.solid, all_nil, all_cons, all_append, all_ints, all_tabG, stamp_nil, stamp_tok, stamp_row, stamp_map, tick_nil, tick_tok, tick_row, tick_map, List.contains_cons, List.contains_nil, beq_self_eq_true, Bool.or_false, Bool.true_or, Bool.or_true, Nat.reduceBEq, tabG_length, tabG_at, Nat.zero_add, Int.natCast_add, Int.cast_ofNat_Int, Nat.reduceMul, Nat.reduceLT, Nat.zero_lt_one, Nat.lt_add_one, decide_true, List.length_map, List.length_range, leA_int, leA_bool, leA_slice, leA_agg, leA_tuple, WL_nil, WL_cons, leG_self, splice, List.getD_cons_zero, List.getD_cons_succ, List.take_zero, List.take_succ_cons, List.drop_zero, List.drop_succ_cons, List.take_nil, List.drop_nil, Bool.not_true, Bool.not_false, not_false_eq_true, els22, els25, els29, els46, elt22, elt25, elt29, elt46, fld24_0, fld24_1, fld27_0, fld27_1, fld32_0, fld32_1, fld37_0, fld37_1, fld37_2, fld37_3, fld37_4, keyT90, notInt22, notInt24, notInt25, notInt27, notInt29, notInt3, notInt32, notInt37, notInt46, notInt79, notInt90, plc32, plc37, tab22, tab24, tab25, tab27, tab29, tab3, tab32, tab37, tab4, und22, und25, und29, und3, und4, und46, und79, und90, zer24, zer27, zer32, zer37, zeroG4, s41_0, s41_1, s41_2, s41_3, s41_4, s41_5, s41_6, s41_7, s41_8, s41_9, s41_10, s41_11, s41_12, s41_13, s41_14, s41_15, s41_16, s41_17, s41_18, s41_19, s41_20, s41_21, s41_22, s41_23, s41_24, s41_25, s41_26, s41_27, delete_heads Try.prog 90 4 keyT90, update_heads Try.prog 90 4 keyT90, headsG_length, segsG_length, toNat_pred, getD_set_segs, segsG_at, segG, List.set_set, List.length_set, Int.toNat_zero, cast_beq_one, cast_beq_zero]
        refine ⟨fun h2 => ⟨by omega, ?_⟩, fun h2 => ?_⟩
        · exact Into.at ⟨i + 1, by omega⟩ (by show _ < _; simp; omega) ⟨[], by simp [hdel_take _ q i (by omega)]⟩ (by simp [WL, leG_self, leG_any, leG_int])
        · rw [List.take_of_length_le (by omega)]
          refine ⟨fun h3 => ⟨fun h4 => ⟨by omega, by omega, fun h5 => ?_, fun h5 => ?_⟩, fun h4 => ?_⟩, fun h3 => ?_⟩
          · have hp := hpos (by omega)
            refine ⟨by omega, by omega, by omega, by omega, by omega, ?_⟩
            have e : s1 = ⟨s0.out.set (s0.out.length - 1) { s0.out.getD (s0.out.length - 1) default with hi := frm + k, head := decide ((hins (hdel s0.hs q) (frm + k)).length = 1) }, hins (hdel s0.hs q) (frm + k)⟩ := by
              rw [hrun, lstep, if_pos ⟨by omega, h4, h5⟩]
            refine Into.at ⟨(k + 1, st1), by show k + 1 ≤ _; omega⟩ (by show _ < _; simp; omega) ⟨[], ?_⟩ ?_
            · simp only [hs1, e, ← segsG_set, List.append_nil]; rfl
            · simp [WL, leG_self, leG_any, leG_int, hs1, e]
          all_goals
            have hn : ¬ (0 < k ∧ q.length = 1 ∧ q.getD 0 0 = frm + k - 1) := by omega
            have e : s1 = ⟨s0.out ++ [⟨frm + k, frm + k, q, decide (q.length = 0), decide ((hins (hdel s0.hs q) (frm + k)).length = 1)⟩], hins (hdel s0.hs q) (frm + k)⟩ := by
              rw [hrun, lstep, if_neg hn]
            refine c58.then ?_
            simp +contextual -implicitDefEqProofs (maxSteps := 2000000) (disch := omega) only [vcS_skip, vcS_reg, vcS_seq, vcS_cond, vcS_block, vcS_exit, vcS_ret, vcS_loopI, ↓gif_true, ↓gif_false, ↓gif_dec, ↓gif_not, ↓gif_eq, ↓gif_ne, opsS_nil, opsS_one, opsS_if, ↓op_move, ↓op_assign, ↓op_binOp, ↓op_load, ↓op_store, ↓op_fieldAddr, ↓op_indexAddr, ↓op_mapUpdate, ↓op_makeMap, ↓op_build, ↓op_buildSlice, ↓op_slice, ↓op_nilCheck, ↓op_pick, ↓op_len, ↓op_delete, ↓op_append, ↓op_funcI, hold_mk, ev_tmp, ev_const, ev_func, put_some, put_none, setS_mk, ↓ibin_add, ↓ibin_sub, ↓ibin_eql, ↓ibin_lss, ↓ibin_gtr, ↓lenV, binV, optV, ↓loadV, ↓storeV, ↓fieldAddrV, ↓indexAddrV, ↓gif_neb, ↓gif_eqb, ↓buildV, ↓buildSliceV, ↓sliceV, ↓nilV, ↓appendV, ↓srcV, bound, cutTag, hiTag, fillG, fillE, place, GVal.cells, grp, GVal.ofConst, GVal.ofConst, ↓thenQ, ↓blockQ, ↓retQ, ↓resV, resG, sget_0, sget_1, sget_2, sget_3, sget_4, set_0, set_1, set_2, set_3, set_4, setO_0, setO_1, setO_2, setL_0, setL_1, setL_2, List.getElem?_cons_succ, List.getElem?_cons_zero, List.getElem?_nil, List.map, List.cons_append, List.nil_append, List.headD, List.take, List.drop, List.length_cons, List.length_nil, ↓reduceIte, Nat.reduceEqDiff, Nat.reduceAdd, Nat.reduceSub, Nat.reduceLeDiff, reduceCtorEq, false_implies, true_implies, true_and, and_true, implies_true, decide_eq_true_eq, decide_eq_false_iff_not, beq_iff_eq, bne_iff_ne, beq_eq_false_iff_ne, bne_eq_false_iff_eq, Int.toNat_natCast, Bool.and_eq_true, Bool.not_eq_true', Bool.not_eq_false', Bool.and_eq_false_imp, Int.not_lt, Int.not_le, ne_eq, norm_i64, ints_length, ints_at, leG_bool, leG_int, ↓asrcV, ↓srcV, ↓makeMapV, keyOk, keyCells, aggV, Tag.cap, List.replicate, List.append_nil, okCells_eq, allSolid_eq, allSolid, GVal.solid, all_nil, all_cons, all_append, all_ints, all_tabG, stamp_nil, stamp_tok, stamp_row, stamp_map, tick_nil, tick_tok, tick_row, tick_map, List.contains_cons, List.contains_nil, beq_self_eq_true, Bool.or_false, Bool.true_or, Bool.or_true, Nat.reduceBEq, tabG_length, tabG_at, Nat.zero_add, Int.natCast_add, Int.cast_ofNat_Int, Nat.reduceMul, Nat.reduceLT, Nat.zero_lt_one, Nat.lt_add_one, decide_true, List.length_map, List.length_range, leA_int, leA_bool, leA_slice, leA_agg, leA_tuple, WL_nil, WL_cons, leG_self, splice, List.getD_cons_zero, List.getD_cons_succ, List.take_zero, List.take_succ_cons, List.drop_zero, List.drop_succ_cons, List.take_nil, List.drop_nil, Bool.not_true, Bool.not_false, not_false_eq_true, els22, els25, els29, els46, elt22, elt25, elt29, elt46, fld24_0, fld24_1, fld27_0, fld27_1, fld32_0, fld32_1, fld37_0, fld37_1, fld37_2, fld37_3, fld37_4, keyT90, notInt22, notInt24, notInt25, notInt27, notInt29, notInt3, notInt32, notInt37, notInt46, notInt79, notInt90, plc32, plc37, tab22, tab24, tab25, tab27, tab29, tab3, tab32, tab37, tab4, und22, und25, und29, und3, und4, und46, und79, und90, zer24, zer27, zer32, zer37, zeroG4, s41_0, s41_1, s41_2, s41_3, s41_4, s41_5, s41_6, s41_7, s41_8, s41_9, s41_10, s41_11, s41_12, s41_13, s41_14, s41_15, s41_16, s41_17, s41_18, s41_19, s41_20, s41_21, s41_22, s41_23, s41_24, s41_25, s41_26, s41_27, delete_heads Try.prog 90 4 keyT90, update_heads Try.prog 90 4 keyT90, headsG_length, segsG_length, toNat_pred, getD_set_segs, segsG_at, segG, all_segsG, List.set_set, List.length_set, Int.toNat_zero, cast_beq_one, cast_beq_zero, List.take_length]
            refine ⟨by omega, by omega, by omega, fun st => ?_⟩
            refine Into.at ⟨(k + 1, st), by show k + 1 ≤ _; omega⟩ (by show _ < _; simp; omega) ⟨[], ?_⟩ ?_
            · simp only [hs1, e, List.append_nil, segsG_append, segsG_one]
              rw [List.take_of_length_le (by rw [segsG_length]; omega)]; rfl
            · simp [WL, leG_self, leG_any, leG_int, hs1, e]
    · have hk' : k = l.length := by simp at hk; omega
      subst hk'
      exact ⟨st0, st1, rfl, rfl⟩

theorem spec41 (l : List (List Int)) (t : Tag) (frm : Int) (hl : l.length ≤ 1000) (hf : 0 ≤ frm) (hf2 : frm ≤ 1099511627776) (hr : ∀ p ∈ l, p.length ≤ 4) :
    GPure Try.prog 41 [.slice (tabG l) t, .int .i64 frm] (.slice (segsG (linesI frm l)) .none) :=
  GCalls.toPure ((c41 l t frm hl hf hf2 hr).mono fun g O' ⟨st0, st1, e1, e2⟩ => ⟨4, .slice (segsG (linesI frm l)) .none, by
    rw [e1, e2]; exact frz_own rfl (segsG_length _).symm (frz_segs _ 1 _), by rw [leA_slice]⟩)

/-- a table's segments -/
def buildI (m o : List (List Int)) : List Seg := if rightI m o = true then linesI 0 m ++ linesI split o else []

theorem okG_row {m o : Nat} {most : Int} : ∀ {l : List (List Int)} {frm : Int}, okG m o most frm l = true → ∀ p ∈ l, p.length ≤ 4
  | [], _, _, p, hp => by simp at hp
  | a :: l, frm, h, p, hp => by
    simp only [okG, Bool.and_eq_true, decide_eq_true_eq] at h
    rcases List.mem_cons.1 hp with rfl | hp
    · exact h.1.2
    · exact okG_row h.2 p hp

theorem spec12 (m o : List (List Int)) (tm to : Tag) (hm : m.length ≤ 1000) (ho : o.length ≤ 1000) (hr : ∀ p ∈ m, p.length ≤ 1000000) (hr2 : ∀ p ∈ o, p.length ≤ 1000000) :
    GPure Try.prog 12 [.agg [.slice (tabG m) tm, .slice (tabG o) to]] (.slice (segsG (buildI m o)) .none) := by
  refine h12.pureF mixS (by simp) ?_
  simp only [gstart, s12, List.cons_append, List.nil_append, List.length_cons, List.length_nil, Nat.reduceAdd, Nat.reduceSub, List.replicate_succ, List.replicate_zero]
  simp +contextual -implicitDefEqProofs (maxSteps := 2000000) (disch := omega) only [vcS_skip, vcS_reg, vcS_drw, vcS_seq, vcS_cond, vcS_block, vcS_exit, vcS_ret, vcS_loopI, drawC, ↓gif_true, ↓gif_false, ↓gif_dec, ↓gif_not, opsS_nil, opsS_one, opsS_if, ordS_nil, ordS_one, ordS_if, ↓op_move, ↓op_assign, ↓op_unOp, ↓op_load, ↓op_fieldAddr, ↓op_box, ↓op_slice, ↓op_append, ↓op_funcI, hold_mk, ev_tmp, ev_const, ev_func, put_some, put_none, setS_mk, ↓unV, optV, ↓loadV, ↓fieldAddrV, ↓boxV, ↓sliceV, ↓appendV, ↓srcV, bound, cutTag, hiTag, GVal.cells, grp, GVal.ofConst, GVal.ofConst, ↓thenQ, ↓blockQ, ↓retQ, ↓resV, resG, sget_0, sget_1, sget_2, sget_3, sget_4, set_0, set_1, set_2, set_3, set_4, setO_0, setO_1, setO_2, setL_0, setL_1, setL_2, List.getElem?_cons_succ, List.getElem?_cons_zero, List.getElem?_nil, List.map, List.cons_append, List.nil_append, List.headD, List.take, List.drop, List.length_cons, List.length_nil, ↓reduceIte, Nat.reduceEqDiff, Nat.reduceAdd, Nat.reduceSub, Nat.reduceLeDiff, reduceCtorEq, false_implies, true_implies, true_and, and_true, implies_true, decide_eq_true_eq, decide_eq_false_iff_not, beq_iff_eq, bne_iff_ne, Int.toNat_natCast, Bool.and_eq_true, Bool.not_eq_true', Bool.not_eq_false', Bool.and_eq_false_imp, Int.not_lt, Int.not_le, ne_eq, norm_i64, ints_length, ints_at, leG_bool, leG_int, ↓asrcV, ↓srcV, Tag.cap, List.replicate, List.append_nil, okCells_eq, allSolid_eq, allSolid, GVal.solid, all_nil, all_cons, all_append, all_ints, all_tabG, stamp_nil, stamp_tok, stamp_row, stamp_map, tick_nil, tick_tok, tick_row, tick_map, List.contains_cons, List.contains_nil, beq_self_eq_true, Bool.or_false, Bool.true_or, Bool.or_true, Nat.reduceBEq, tabG_length, tabG_at, Nat.zero_add, Int.natCast_add, Int.cast_ofNat_Int, Nat.reduceMul, Nat.reduceLT, Nat.zero_lt_one, Nat.lt_add_one, decide_true, List.length_map, List.length_range, leA_int, leA_bool, leA_slice, leA_agg, leA_tuple, WL_nil, WL_cons, leG_self, splice, List.getD_cons_zero, List.getD_cons_succ, List.take_zero, List.take_succ_cons, List.drop_zero, List.drop_succ_cons, List.take_nil, List.drop_nil, Bool.not_true, Bool.not_false, not_false_eq_true, els25, els29, elt25, elt29, fld32_0, fld32_1, notInt25, notInt29, notInt3, notInt32, plc32, tab25, tab29, tab3, tab32, tab4, und25, und29, und3, und4, zer32, zeroG4, s12_0, s12_1, s12_2, s12_3, s12_4, s12_5]
  have c34 := spec34 m o tm to hm ho hr hr2
  unfold buildI
  cases hh : rightI m o
  · rw [hh] at c34
    refine c34.then ?_
    simp +contextual -implicitDefEqProofs (maxSteps := 2000000) (disch := omega) only [vcS_skip, vcS_reg, vcS_drw, vcS_seq, vcS_cond, vcS_block, vcS_exit, vcS_ret, vcS_loopI, drawC, ↓gif_true, ↓gif_false, ↓gif_dec, ↓gif_not, opsS_nil, opsS_one, opsS_if, ordS_nil, ordS_one, ordS_if, ↓op_move, ↓op_assign, ↓op_unOp, ↓op_load, ↓op_fieldAddr, ↓op_box, ↓op_slice, ↓op_append, ↓op_funcI, hold_mk, ev_tmp, ev_const, ev_func, put_some, put_none, setS_mk, ↓unV, optV, ↓loadV, ↓fieldAddrV, ↓boxV, ↓sliceV, ↓appendV, ↓srcV, bound, cutTag, hiTag, GVal.cells, grp, GVal.ofConst, GVal.ofConst, ↓thenQ, ↓blockQ, ↓retQ, ↓resV, resG, sget_0, sget_1, sget_2, sget_3, sget_4, set_0, set_1, set_2, set_3, set_4, setO_0, setO_1, setO_2, setL_0, setL_1, setL_2, List.getElem?_cons_succ, List.getElem?_cons_zero, List.getElem?_nil, List.map, List.cons_append, List.nil_append, List.headD, List.take, List.drop, List.length_cons, List.length_nil, ↓reduceIte, Nat.reduceEqDiff, Nat.reduceAdd, Nat.reduceSub, Nat.reduceLeDiff, reduceCtorEq, false_implies, true_implies, true_and, and_true, implies_true, decide_eq_true_eq, decide_eq_false_iff_not, beq_iff_eq, bne_iff_ne, Int.toNat_natCast, Bool.and_eq_true, Bool.not_eq_true', Bool.not_eq_false', Bool.and_eq_false_imp, Int.not_lt, Int.not_le, ne_eq, norm_i64, ints_length, ints_at, leG_bool, leG_int, ↓asrcV, ↓srcV, Tag.cap, List.replicate, List.append_nil, okCells_eq, allSolid_eq, allSolid, GVal.solid, all_nil, all_cons, all_append, all_ints, all_tabG, stamp_nil, stamp_tok, stamp_row, stamp_map, tick_nil, tick_tok, tick_row, tick_map, List.contains_cons, List.contains_nil, beq_self_eq_true, Bool.or_false, Bool.true_or, Bool.or_true, Nat.reduceBEq, tabG_length, tabG_at, Nat.zero_add, Int.natCast_add, Int.cast_ofNat_Int, Nat.reduceMul, Nat.reduceLT, Nat.zero_lt_one, Nat.lt_add_one, decide_true, List.length_map, List.length_range, leA_int, leA_bool, leA_slice, leA_agg, leA_tuple, WL_nil, WL_cons, leG_self, splice, List.getD_cons_zero, List.getD_cons_succ, List.take_zero, List.take_succ_cons, List.drop_zero, List.drop_succ_cons, List.take_nil, List.drop_nil, Bool.not_true, Bool.not_false, not_false_eq_true, els25, els29, elt25, elt29, fld32_0, fld32_1, notInt25, notInt29, notInt3, notInt32, plc32, tab25, tab29, tab3, tab32, tab4, und25, und29, und3, und4, zer32, zeroG4, s12_0, s12_1, s12_2, s12_3, s12_4, s12_5]
    exact ⟨2, .slice [] .nil, rfl, by rw [leA_slice]; rfl⟩
  · rw [hh] at c34
    have h2 : okG m.length o.length 1099511627775 0 m = true ∧ okG m.length o.length (split + o.length) split o = true := by
      simpa [rightI] using hh
    refine c34.then ?_
    simp +contextual -implicitDefEqProofs (maxSteps := 2000000) (disch := omega) only [vcS_skip, vcS_reg, vcS_drw, vcS_seq, vcS_cond, vcS_block, vcS_exit, vcS_ret, vcS_loopI, drawC, ↓gif_true, ↓gif_false, ↓gif_dec, ↓gif_not, opsS_nil, opsS_one, opsS_if, ordS_nil, ordS_one, ordS_if, ↓op_move, ↓op_assign, ↓op_unOp, ↓op_load, ↓op_fieldAddr, ↓op_box, ↓op_slice, ↓op_append, ↓op_funcI, hold_mk, ev_tmp, ev_const, ev_func, put_some, put_none, setS_mk, ↓unV, optV, ↓loadV, ↓fieldAddrV, ↓boxV, ↓sliceV, ↓appendV, ↓srcV, bound, cutTag, hiTag, GVal.cells, grp, GVal.ofConst, GVal.ofConst, ↓thenQ, ↓blockQ, ↓retQ, ↓resV, resG, sget_0, sget_1, sget_2, sget_3, sget_4, set_0, set_1, set_2, set_3, set_4, setO_0, setO_1, setO_2, setL_0, setL_1, setL_2, List.getElem?_cons_succ, List.getElem?_cons_zero, List.getElem?_nil, List.map, List.cons_append, List.nil_append, List.headD, List.take, List.drop, List.length_cons, List.length_nil, ↓reduceIte, Nat.reduceEqDiff, Nat.reduceAdd, Nat.reduceSub, Nat.reduceLeDiff, reduceCtorEq, false_implies, true_implies, true_and, and_true, implies_true, decide_eq_true_eq, decide_eq_false_iff_not, beq_iff_eq, bne_iff_ne, Int.toNat_natCast, Bool.and_eq_true, Bool.not_eq_true', Bool.not_eq_false', Bool.and_eq_false_imp, Int.not_lt, Int.not_le, ne_eq, norm_i64, ints_length, ints_at, leG_bool, leG_int, ↓asrcV, ↓srcV, Tag.cap, List.replicate, List.append_nil, okCells_eq, allSolid_eq, allSolid, GVal.solid, all_nil, all_cons, all_append, all_ints, all_tabG, stamp_nil, stamp_tok, stamp_row, stamp_map, tick_nil, tick_tok, tick_row, tick_map, List.contains_cons, List.contains_nil, beq_self_eq_true, Bool.or_false, Bool.true_or, Bool.or_true, Nat.reduceBEq, tabG_length, tabG_at, Nat.zero_add, Int.natCast_add, Int.cast_ofNat_Int, Nat.reduceMul, Nat.reduceLT, Nat.zero_lt_one, Nat.lt_add_one, decide_true, List.length_map, List.length_range, leA_int, leA_bool, leA_slice, leA_agg, leA_tuple, WL_nil, WL_cons, leG_self, splice, List.getD_cons_zero, List.getD_cons_succ, List.take_zero, List.take_succ_cons, List.drop_zero, List.drop_succ_cons, List.take_nil, List.drop_nil, Bool.not_true, Bool.not_false, not_false_eq_true, els25, els29, elt25, elt29, fld32_0, fld32_1, notInt25, notInt29, notInt3, notInt32, plc32, tab25, tab29, tab3, tab32, tab4, und25, und29, und3, und4, zer32, zeroG4, s12_0, s12_1, s12_2, s12_3, s12_4, s12_5]
    refine (c41 m tm 0 hm (by omega) (by omega) (okG_row h2.1)).mono ?_
    rintro g O' ⟨st0, st1, rfl, rfl⟩
    simp +contextual -implicitDefEqProofs (maxSteps := 2000000) (disch := omega) only [vcS_skip, vcS_reg, vcS_drw, vcS_seq, vcS_cond, vcS_block, vcS_exit, vcS_ret, vcS_loopI, drawC, ↓gif_true, ↓gif_false, ↓gif_dec, ↓gif_not, opsS_nil, opsS_one, opsS_if, ordS_nil, ordS_one, ordS_if, ↓op_move, ↓op_assign, ↓op_unOp, ↓op_load, ↓op_fieldAddr, ↓op_box, ↓op_slice, ↓op_append, ↓op_funcI, hold_mk, ev_tmp, ev_const, ev_func, put_some, put_none, setS_mk, ↓unV, optV, ↓loadV, ↓fieldAddrV, ↓boxV, ↓sliceV, ↓appendV, ↓srcV, bound, cutTag, hiTag, GVal.cells, grp, GVal.ofConst, GVal.ofConst, ↓thenQ, ↓blockQ, ↓retQ, ↓resV, resG, sget_0, sget_1, sget_2, sget_3, sget_4, set_0, set_1, set_2, set_3, set_4, setO_0, setO_1, setO_2, setL_0, setL_1, setL_2, List.getElem?_cons_succ, List.getElem?_cons_zero, List.getElem?_nil, List.map, List.cons_append, List.nil_append, List.headD, List.take, List.drop, List.length_cons, List.length_nil, ↓reduceIte, Nat.reduceEqDiff, Nat.reduceAdd, Nat.reduceSub, Nat.reduceLeDiff, reduceCtorEq, false_implies, true_implies, true_and, and_true, implies_true, decide_eq_true_eq, decide_eq_false_iff_not, beq_iff_eq, bne_iff_ne, Int.toNat_natCast, Bool.and_eq_true, Bool.not_eq_true', Bool.not_eq_false', Bool.and_eq_false_imp, Int.not_lt, Int.not_le, ne_eq, norm_i64, ints_length, ints_at, leG_bool, leG_int, ↓asrcV, ↓srcV, Tag.cap, List.replicate, List.append_nil, okCells_eq, allSolid_eq, allSolid, GVal.solid, all_nil, all_cons, all_append, all_ints, all_tabG, stamp_nil, stamp_tok, stamp_row, stamp_map, tick_nil, tick_tok, tick_row, tick_map, List.contains_cons, List.contains_nil, beq_self_eq_true, Bool.or_false, Bool.true_or, Bool.or_true, Nat.reduceBEq, tabG_length, tabG_at, Nat.zero_add, Int.natCast_add, Int.cast_ofNat_Int, Nat.reduceMul, Nat.reduceLT, Nat.zero_lt_one, Nat.lt_add_one, decide_true, List.length_map, List.length_range, leA_int, leA_bool, leA_slice, leA_agg, leA_tuple, WL_nil, WL_cons, leG_self, splice, List.getD_cons_zero, List.getD_cons_succ, List.take_zero, List.take_succ_cons, List.drop_zero, List.drop_succ_cons, List.take_nil, List.drop_nil, Bool.not_true, Bool.not_false, not_false_eq_true, els25, els29, elt25, elt29, fld32_0, fld32_1, notInt25, notInt29, notInt3, notInt32, plc32, tab25, tab29, tab3, tab32, tab4, und25, und29, und3, und4, zer32, zeroG4, s12_0, s12_1, s12_2, s12_3, s12_4, s12_5]
    refine ⟨⟨_, rfl⟩, ?_⟩
    refine (spec41 o to 1099511627776 ho (by omega) (by omega) (okG_row h2.2)).then ?_
    simp +contextual -implicitDefEqProofs (maxSteps := 2000000) (disch := omega) only [vcS_skip, vcS_reg, vcS_drw, vcS_seq, vcS_cond, vcS_block, vcS_exit, vcS_ret, vcS_loopI, drawC, ↓gif_true, ↓gif_false, ↓gif_dec, ↓gif_not, opsS_nil, opsS_one, opsS_if, ordS_nil, ordS_one, ordS_if, ↓op_move, ↓op_assign, ↓op_unOp, ↓op_load, ↓op_fieldAddr, ↓op_box, ↓op_slice, ↓op_append, ↓op_funcI, hold_mk, ev_tmp, ev_const, ev_func, put_some, put_none, setS_mk, ↓unV, optV, ↓loadV, ↓fieldAddrV, ↓boxV, ↓sliceV, ↓appendV, ↓srcV, bound, cutTag, hiTag, GVal.cells, grp, GVal.ofConst, GVal.ofConst, ↓thenQ, ↓blockQ, ↓retQ, ↓resV, resG, sget_0, sget_1, sget_2, sget_3, sget_4, set_0, set_1, set_2, set_3, set_4, setO_0, setO_1, setO_2, setL_0, setL_1, setL_2, List.getElem?_cons_succ, List.getElem?_cons_zero, List.getElem?_nil, List.map, List.cons_append, List.nil_append, List.headD, List.take, List.drop, List.length_cons, List.length_nil, ↓reduceIte, Nat.reduceEqDiff, Nat.reduceAdd, Nat.reduceSub, Nat.reduceLeDiff, reduceCtorEq, false_implies, true_implies, true_and, and_true, implies_true, decide_eq_true_eq, decide_eq_false_iff_not, beq_iff_eq, bne_iff_ne, Int.toNat_natCast, Bool.and_eq_true, Bool.not_eq_true', Bool.not_eq_false', Bool.and_eq_false_imp, Int.not_lt, Int.not_le, ne_eq, norm_i64, ints_length, ints_at, leG_bool, leG_int, ↓asrcV, ↓srcV, Tag.cap, List.replicate, List.append_nil, okCells_eq, allSolid_eq, allSolid, GVal.solid, all_nil, all_cons, all_append, all_ints, all_tabG, stamp_nil, stamp_tok, stamp_row, stamp_map, tick_nil, tick_tok, tick_row, tick_map, List.contains_cons, List.contains_nil, beq_self_eq_true, Bool.or_false, Bool.true_or, Bool.or_true, Nat.reduceBEq, tabG_length, tabG_at, Nat.zero_add, Int.natCast_add, Int.cast_ofNat_Int, Nat.reduceMul, Nat.reduceLT, Nat.zero_lt_one, Nat.lt_add_one, decide_true, List.length_map, List.length_range, leA_int, leA_bool, leA_slice, leA_agg, leA_tuple, WL_nil, WL_cons, leG_self, splice, List.getD_cons_zero, List.getD_cons_succ, List.take_zero, List.take_succ_cons, List.drop_zero, List.drop_succ_cons, List.take_nil, List.drop_nil, Bool.not_true, Bool.not_false, not_false_eq_true, els25, els29, elt25, elt29, fld32_0, fld32_1, notInt25, notInt29, notInt3, notInt32, plc32, tab25, tab29, tab3, tab32, tab4, und25, und29, und3, und4, zer32, zeroG4, s12_0, s12_1, s12_2, s12_3, s12_4, s12_5, all_segsG, segsG_length]
    have l1 := (lrun_len 0 m m.length).1
    have l2 := (lrun_len 1099511627776 o o.length).1
    have e1 : (linesI 0 m).length ≤ 1000 := by rw [linesI]; omega
    have e2 : (linesI 1099511627776 o).length ≤ 1000 := by rw [linesI]; omega
    refine ⟨by omega, by omega, by omega, fun st => ?_⟩
    refine ⟨4, .slice (segsG (linesI 0 m ++ linesI split o)) .none, ?_, by rw [leA_slice]⟩
    rw [List.take_of_length_le (by rw [segsG_length]; omega), ← segsG_append]
    exact frz_own rfl (by rw [segsG_length, List.length_append]; rfl) (frz_segs _ 1 _)

end Gv.Try
