/- Contract: the document's segments are the program's. -/
import Derived.Test.YthidcccnjplafaaGreatP11
import Derived.Test.YthidcccnjplafaaGreatP8
import Derived.Test.YthidcccnjplafaaGreatP5
import Derived.Test.YthidcccnjplafaaGreatP9
set_option linter.unusedVariables false
set_option linter.unusedSimpArgs false
set_option maxRecDepth 20000
set_option maxHeartbeats 8000000
namespace Gv.Tryz
open Go Gv Go.Proofs

def mixL (T : List Seg) (i : Nat) : List Seg := T.take i ++ (stripL T).drop i
theorem mix_length (T : List Seg) (i : Nat) (h : i ≤ T.length) : (mixL T i).length = T.length := by
  rw [mixL, List.length_append, List.length_take, List.length_drop, stripL_length]; omega
theorem mix_at (T : List Seg) (i : Nat) (h : i < T.length) : (mixL T i).getD i default = strip (T.getD i default) := by
  rw [← stripL_at, mixL]
  have hl : (T.take i).length = i := by rw [List.length_take]; omega
  simp only [List.getD_eq_getElem?_getD]
  rw [List.getElem?_append_right (by omega), hl, List.getElem?_drop]; simp
theorem mix_set (T : List Seg) (i : Nat) (h : i < T.length) : (mixL T i).set i (T.getD i default) = mixL T (i + 1) := by
  have hl : (T.take i).length = i := by rw [List.length_take]; omega
  rw [mixL, mixL, List.set_append_right _ _ (by omega), hl, Nat.sub_self]
  have hd : (stripL T).drop i = (stripL T).getD i default :: (stripL T).drop (i + 1) := by
    have h' : i < (stripL T).length := by rw [stripL_length]; exact h
    rw [List.drop_eq_getElem_cons h']; simp [List.getD, h']
  rw [hd, List.set_cons_zero, take_succ' T i h, List.append_assoc]; rfl
theorem mix_zero (T : List Seg) : mixL T 0 = stripL T := by simp [mixL]
theorem mix_end (T : List Seg) : mixL T T.length = T := by
  rw [mixL, List.take_length, List.drop_eq_nil_of_le (by rw [stripL_length]; exact Nat.le_refl _), List.append_nil]
theorem filt_take (l : List Int) (f : Int → Bool) (j : Nat) (h : j < l.length) : ((l.take (j + 1)).filter f).length = ((l.take j).filter f).length + (if f (l.getD j 0) = true then 1 else 0) := by
  rw [List.take_add_one, List.filter_append, List.length_append, List.getElem?_eq_getElem h]
  have : l.getD j 0 = l[j] := by simp [List.getD, h]
  rw [this]
  simp only [Option.toList, List.filter_cons, List.filter_nil]
  split <;> rfl

theorem spec24 (m o : List (List Int)) (hm : m.length + o.length ≤ 1000) (hr : rightI m o = true) (hrow : ∀ x, (parI m o x).length ≤ 4) (hseg : ∀ s ∈ buildI m o, 0 ≤ s.lo ∧ s.lo ≤ s.hi ∧ s.hi ≤ split + 1000) :
    GPure Tryz.prog 9 [.agg [.slice (tabG m) .none, .slice (tabG o) .none]] (.slice (segsG (buildI m o)) .none) := by
  have hA : (allI m.length o.length).length = m.length + o.length := allI_len _ _
  refine h9.pureF mixS (by simp) ?_
  simp only [gstart, s9, List.cons_append, List.nil_append, List.length_cons, List.length_nil, Nat.reduceAdd, Nat.reduceSub, List.replicate_succ, List.replicate_zero]
  simp +contextual -implicitDefEqProofs (maxSteps := 2000000) (disch := omega) only [drawC, drawK, keepT, ↓lenV, binV, optV, ↓loadV, ↓storeV, ↓fieldAddrV, ↓indexAddrV, ↓boxV, ↓buildV, ↓buildSliceV, ↓sliceV, ↓appendV, ↓srcV, bound, cutTag, hiTag, fillG, fillE, place, GVal.cells, grp, GVal.ofConst, ↓resV, resG, List.map, List.headD, List.take, List.drop, ↓reduceIte, Nat.reduceEqDiff, Nat.reduceAdd, Nat.reduceSub, Nat.reduceLeDiff, reduceCtorEq, implies_true, ne_eq, ↓asrcV, aggV, Tag.cap, List.replicate, allSolid, GVal.solid, Nat.reduceBEq, Nat.reduceMul, Nat.reduceLT, List.length_map, List.length_range, splice, vcA, ↓vcB, vcC, fbFz, e9]
  refine (spec14 m o .none .none (by omega) (by omega)).then ?_
  simp +contextual -implicitDefEqProofs (maxSteps := 2000000) (disch := omega) only [drawC, drawK, keepT, ↓lenV, binV, optV, ↓loadV, ↓storeV, ↓fieldAddrV, ↓indexAddrV, ↓boxV, ↓buildV, ↓buildSliceV, ↓sliceV, ↓appendV, ↓srcV, bound, cutTag, hiTag, fillG, fillE, place, GVal.cells, grp, GVal.ofConst, ↓resV, resG, List.map, List.headD, List.take, List.drop, ↓reduceIte, Nat.reduceEqDiff, Nat.reduceAdd, Nat.reduceSub, Nat.reduceLeDiff, reduceCtorEq, implies_true, ne_eq, ↓asrcV, aggV, Tag.cap, List.replicate, allSolid, GVal.solid, Nat.reduceBEq, Nat.reduceMul, Nat.reduceLT, List.length_map, List.length_range, splice, vcA, ↓vcB, vcC, fbFz, e9]
  refine vcSLoop_by (ι := { p : Nat × Nat // p.1 ≤ m.length + o.length ∧ (refL m o p.1).length ≤ p.1 }) (fun p => ⟨[.any, .ref [.slice (tabG m) .none, .slice (tabG o) .none], .any, .own 0 p.1.2 0 (refL m o p.1.1).length, .slice (ints (allI m.length o.length)) .none, .int .i64 (p.1.1 : Nat)] ++ List.replicate 135 .any, [.row p.1.2 5 (segsG (refL m o p.1.1))]⟩) (fun p => m.length + o.length - p.1.1) ?_ ?_
  · refine Into.row 3 5 rfl rfl ?_
    simp +contextual -implicitDefEqProofs (maxSteps := 2000000) (disch := omega) only [drawC, drawK, keepT, ↓lenV, binV, optV, ↓loadV, ↓storeV, ↓fieldAddrV, ↓indexAddrV, ↓boxV, ↓buildV, ↓buildSliceV, ↓sliceV, ↓appendV, ↓srcV, bound, cutTag, hiTag, fillG, fillE, place, GVal.cells, grp, GVal.ofConst, ↓resV, resG, List.map, List.headD, List.take, List.drop, ↓reduceIte, Nat.reduceEqDiff, Nat.reduceAdd, Nat.reduceSub, Nat.reduceLeDiff, reduceCtorEq, implies_true, ne_eq, ↓asrcV, aggV, Tag.cap, List.replicate, allSolid, GVal.solid, Nat.reduceBEq, Nat.reduceMul, Nat.reduceLT, List.length_map, List.length_range, splice, vcA, ↓vcB, vcC, fbFz, e9]
    intro t
    have e0 : refL m o 0 = [] := by rw [refL, if_pos (by omega)]; rfl
    exact Into.first ⟨(0, t), by omega, by rw [e0]; simp⟩ ⟨[], by simp [e0, segsG]⟩ (by simp [WL, leG_self, leG_any, e0])
  · rintro ⟨⟨k, v⟩, hk, hol⟩
    change k ≤ m.length + o.length at hk
    change (refL m o k).length ≤ k at hol
    by_cases hkm : k < m.length + o.length
    · have hst := refL_step hm hkm rfl rfl rfl
      have hp4 := hrow ((allI m.length o.length).getD k 0)
      have ek := allI_at m.length o.length k hkm
      have hs : split = 1099511627776 := rfl
      have hid : 0 ≤ (allI m.length o.length).getD k 0 ∧ (allI m.length o.length).getD k 0 ≤ split + 1000 := by split at ek <;> omega
      have d0 : decide ((k : Int) < ((allI m.length o.length).length : Int)) = true := decide_eq_true (by omega)
      clear ek
      have c16 := spec16 m o .none .none ((allI m.length o.length).getD k 0) (by omega) (by omega)
      have eid : (ints (allI m.length o.length)).getD k [] = [.int .i64 ((allI m.length o.length).getD k 0)] := ints_at _ _ (by rw [hA]; exact hkm)
      generalize (allI m.length o.length).getD k 0 = id at *
      simp +contextual -implicitDefEqProofs (maxSteps := 2000000) (disch := omega) only [drawC, drawK, keepT, ↓lenV, binV, optV, ↓loadV, ↓storeV, ↓fieldAddrV, ↓indexAddrV, ↓boxV, ↓buildV, ↓buildSliceV, ↓sliceV, ↓appendV, ↓srcV, bound, cutTag, hiTag, fillG, fillE, place, GVal.cells, grp, GVal.ofConst, ↓resV, resG, List.map, List.headD, List.take, List.drop, ↓reduceIte, Nat.reduceEqDiff, Nat.reduceAdd, Nat.reduceSub, Nat.reduceLeDiff, reduceCtorEq, implies_true, ne_eq, ↓asrcV, aggV, Tag.cap, List.replicate, allSolid, GVal.solid, Nat.reduceBEq, Nat.reduceMul, Nat.reduceLT, List.length_map, List.length_range, splice, vcAi, ↓vcB, vcC, fbFz, e9, d0, eid]
      refine ⟨by omega, by omega, c16.then ?_⟩
      generalize hrf : refL m o k = out at *
      generalize hrf1 : refL m o (k + 1) = out1 at *
      generalize parI m o id = p at *
      have hpos : 0 < out.length → out ≠ [] := fun h e => by subst e; simp at h
      have hsz : out1.length ≤ k + 1 := by
        by_cases hc : out ≠ [] ∧ (out.getD (out.length - 1) default).hi = id - 1 ∧ p.length = 1 ∧ p.getD 0 0 = id - 1
        · rw [hst.1 hc, List.length_set]; omega
        · rw [hst.2 hc, List.length_append]; simp; omega
      have eid' : (ints (allI m.length o.length)).getD k [] = [.int .i64 id] := eid
      simp +contextual -implicitDefEqProofs (maxSteps := 2000000) (disch := omega) only [drawC, drawK, keepT, ↓lenV, binV, optV, ↓loadV, ↓storeV, ↓fieldAddrV, ↓indexAddrV, ↓boxV, ↓buildV, ↓buildSliceV, ↓sliceV, ↓appendV, ↓srcV, bound, cutTag, hiTag, fillG, fillE, place, GVal.cells, grp, GVal.ofConst, ↓resV, resG, List.map, List.headD, List.take, List.drop, ↓reduceIte, Nat.reduceEqDiff, Nat.reduceAdd, Nat.reduceSub, Nat.reduceLeDiff, reduceCtorEq, implies_true, ne_eq, ↓asrcV, aggV, Tag.cap, List.replicate, allSolid, GVal.solid, Nat.reduceBEq, Nat.reduceMul, Nat.reduceLT, List.length_map, List.length_range, splice, vcA, ↓vcB, vcC, fbFz, e9, segsG_length, segsG_at, segG, toNat_pred, Int.toNat_zero, all_segsG, cast_beq_zero, eid', d0]
      refine ⟨fun h1 => ⟨by omega, by omega, by omega, by omega, by omega, by omega, fun h2 => ⟨fun h3 => ⟨by omega, by omega, by omega, by omega, fun h4 => ?_, fun h4 => ?_⟩, fun h3 => ?_⟩, fun h2 => ?_⟩, fun h1 => ?_⟩
      · have e1 := hst.1 ⟨hpos (by omega), h2, by omega, h4⟩
        repeat (refine ⟨by omega, ?_⟩)
        refine Into.at ⟨(k + 1, v), by show k + 1 ≤ _; omega, by show (refL m o (k + 1)).length ≤ k + 1; rw [hrf1]; exact hsz⟩ (by show _ < _; simp; omega) ⟨[], ?_⟩ (by simp [WL, leG_self, leG_any, leG_int, hrf1, e1])
        simp only [hrf1, e1, List.append_nil, ← segsG_set]; rfl
      all_goals
        have e1 := hst.2 (by
          rintro ⟨q1, q2, q3, q4⟩
          first
            | exact absurd q4 h4
            | (have q3' : (p.length : Int) = 1 := by omega
               exact absurd q3' h3)
            | exact absurd q2 h2
            | (have := List.length_pos_iff.2 q1; omega))
        repeat (refine ⟨by omega, ?_⟩)
        intro a
        refine ⟨⟨[.tok a 1], rfl⟩, ?_⟩
        repeat (refine ⟨by omega, ?_⟩)
        intro b
        rw [List.take_of_length_le (by rw [segsG_length]; omega)]
        refine Into.rowLast 0 (segsG out) _ (segG ⟨id, id, p, decide (p.length = 0), false⟩) rfl (fun x hx => by have := all_segsG out; simp only [eq_iff_iff, iff_true] at this; exact this x hx) rfl (by simp [WL, segG, leG_self, leG_none, leG_bool] <;> (intro e; subst e; simp at h3)) ?_
        refine Into.at ⟨(k + 1, b), by show k + 1 ≤ _; omega, by show (refL m o (k + 1)).length ≤ k + 1; rw [hrf1]; exact hsz⟩ (by show _ < _; simp; omega) ⟨[.tok a 1], by simp [hrf1, e1, segsG_append, segsG_one]⟩ (by simp [WL, leG_self, leG_any, leG_int, hrf1, e1])
    · have hk2 : k = m.length + o.length := by omega
      have d0 : decide ((k : Int) < ((allI m.length o.length).length : Int)) = false := decide_eq_false (by omega)
      have hre := refL_end (m := m) (o := o) hr
      subst hk2
      rw [hre, stripL_length] at hol
      generalize hT : buildI m o = T at *
      have told : ∀ i, i < T.length → ∀ (first : Int), first = (if split ≤ (T.getD i default).lo then split else 0) → ∀ l, UpSet m o [(T.getD i default).hi] l → (T.getD i default).head = decide (((l.filter (fun x => decide (first ≤ x))).length : Int) = (T.getD i default).hi - first + 1) := fun i hi first hf l hu =>
        head_told hm hr (by rw [hT, List.getD_eq_getElem?_getD, List.getElem?_eq_getElem hi]; exact List.getElem_mem hi) hf hu
      have segb : ∀ i, i < T.length → 0 ≤ (T.getD i default).lo ∧ (T.getD i default).lo ≤ (T.getD i default).hi ∧ (T.getD i default).hi ≤ split + 1000 := fun i hi => hseg _ (by rw [List.getD_eq_getElem?_getD, List.getElem?_eq_getElem hi]; exact List.getElem_mem hi)
      simp +contextual -implicitDefEqProofs (maxSteps := 2000000) (disch := omega) only [drawC, drawK, keepT, ↓lenV, binV, optV, ↓loadV, ↓storeV, ↓fieldAddrV, ↓indexAddrV, ↓boxV, ↓buildV, ↓buildSliceV, ↓sliceV, ↓appendV, ↓srcV, bound, cutTag, hiTag, fillG, fillE, place, GVal.cells, grp, GVal.ofConst, ↓resV, resG, List.map, List.headD, List.take, List.drop, ↓reduceIte, Nat.reduceEqDiff, Nat.reduceAdd, Nat.reduceSub, Nat.reduceLeDiff, reduceCtorEq, implies_true, ne_eq, ↓asrcV, aggV, Tag.cap, List.replicate, allSolid, GVal.solid, Nat.reduceBEq, Nat.reduceMul, Nat.reduceLT, List.length_map, List.length_range, splice, vcA, ↓vcB, vcC, fbFz, e9, segsG_length, d0, hre, stripL_length]
      refine ⟨fun h => absurd h (by rw [hA]; omega), fun _ => ?_⟩
      refine vcSLoop_by (ι := { i : Nat // i ≤ T.length }) (fun i => ⟨[.any, .ref [.slice (tabG m) .none, .slice (tabG o) .none], .any, .own 0 v 0 T.length, .any, .any, .any, .any, .any, .int .i64 (i.1 : Nat)] ++ List.replicate 131 .any, [.row v 5 (segsG (mixL T i.1))]⟩) (fun i => T.length - i.1) ?_ ?_
      · exact Into.first ⟨0, by omega⟩ ⟨[], by simp [mix_zero]⟩ (by simp [WL, leG_self, leG_any])
      · rintro ⟨i, hi⟩
        by_cases hiT : i < T.length
        · have d1 : decide ((i : Int) < (T.length : Int)) = true := decide_eq_true (by omega)
          have hml := mix_length T i hi
          have eM : (segsG (mixL T i)).getD i [] = segG (strip (T.getD i default)) := by rw [segsG_at _ _ (by omega), mix_at T i hiT]
          have sb := segb i hiT
          have tl := told i hiT
          have hms := mix_set T i hiT
          generalize T.getD i default = s at *
          have hsp : split = 1099511627776 := rfl
          by_cases hlo : 1099511627776 ≤ s.lo
          · have d2 : decide (1099511627776 ≤ s.lo) = true := decide_eq_true hlo
            have tl := tl 1099511627776 (by rw [if_pos (by omega), hsp])
            simp +contextual -implicitDefEqProofs (maxSteps := 2000000) (disch := omega) only [drawC, drawK, keepT, ↓lenV, binV, optV, ↓loadV, ↓storeV, ↓fieldAddrV, ↓indexAddrV, ↓boxV, ↓buildV, ↓buildSliceV, ↓sliceV, ↓appendV, ↓srcV, bound, cutTag, hiTag, fillG, fillE, place, GVal.cells, grp, GVal.ofConst, ↓resV, resG, List.map, List.headD, List.take, List.drop, ↓reduceIte, Nat.reduceEqDiff, Nat.reduceAdd, Nat.reduceSub, Nat.reduceLeDiff, reduceCtorEq, implies_true, ne_eq, ↓asrcV, aggV, Tag.cap, List.replicate, allSolid, GVal.solid, Nat.reduceBEq, Nat.reduceMul, Nat.reduceLT, List.length_map, List.length_range, splice, vcA, ↓vcB, vcC, fbFz, e9, segsG_length, d1, d2, hml, eM, segG, strip, ints_one]
            repeat (refine ⟨by omega, ?_⟩)
            refine (rel48 m o .none .none .full [s.hi] (by omega) (by omega) (by simp) hrow).then ?_
            rintro g ⟨l, rfl, hl⟩
            have hll := hl.out_len
            have hd := tl l hl
            have hcl : (l.filter (fun x => decide ((1099511627776 : Int) ≤ x))).length ≤ l.length := List.length_filter_le _ _
            simp +contextual -implicitDefEqProofs (maxSteps := 2000000) (disch := omega) only [drawC, drawK, keepT, ↓lenV, binV, optV, ↓loadV, ↓storeV, ↓fieldAddrV, ↓indexAddrV, ↓boxV, ↓buildV, ↓buildSliceV, ↓sliceV, ↓appendV, ↓srcV, bound, cutTag, hiTag, fillG, fillE, place, GVal.cells, grp, GVal.ofConst, ↓resV, resG, List.map, List.headD, List.take, List.drop, ↓reduceIte, Nat.reduceEqDiff, Nat.reduceAdd, Nat.reduceSub, Nat.reduceLeDiff, reduceCtorEq, implies_true, ne_eq, ↓asrcV, aggV, Tag.cap, List.replicate, allSolid, GVal.solid, Nat.reduceBEq, Nat.reduceMul, Nat.reduceLT, List.length_map, List.length_range, splice, vcA, ↓vcB, vcC, fbFz, e9]
            refine vcSLoop_by (ι := { j : Nat // j ≤ l.length }) (fun j => ⟨[.any, .ref [.slice (tabG m) .none, .slice (tabG o) .none], .any, .own 0 v 0 T.length, .any, .any, .any, .any, .any, .int .i64 (i : Nat), .int .i64 1099511627776, .slice (ints l) .none, .int .i64 (((l.take j.1).filter (fun x => decide ((1099511627776 : Int) ≤ x))).length : Nat), .int .i64 (j.1 : Nat)] ++ List.replicate 127 .any, [.row v 5 (segsG (mixL T i))]⟩) (fun j => l.length - j.1) ?_ ?_
            · exact Into.first ⟨0, by omega⟩ ⟨[], by simp⟩ (by simp [WL, leG_self, leG_any])
            · rintro ⟨j, hj⟩
              have hcj : ((l.take j).filter (fun x => decide ((1099511627776 : Int) ≤ x))).length ≤ j := Nat.le_trans (List.length_filter_le _ _) (by rw [List.length_take]; omega)
              by_cases hjl : j < l.length
              · have d3 : decide ((j : Int) < (l.length : Int)) = true := decide_eq_true (by omega)
                have hft := filt_take l (fun x => decide ((1099511627776 : Int) ≤ x)) j hjl
                simp only [decide_eq_true_eq] at hft
                simp +contextual -implicitDefEqProofs (maxSteps := 2000000) (disch := omega) only [drawC, drawK, keepT, ↓lenV, binV, optV, ↓loadV, ↓storeV, ↓fieldAddrV, ↓indexAddrV, ↓boxV, ↓buildV, ↓buildSliceV, ↓sliceV, ↓appendV, ↓srcV, bound, cutTag, hiTag, fillG, fillE, place, GVal.cells, grp, GVal.ofConst, ↓resV, resG, List.map, List.headD, List.take, List.drop, ↓reduceIte, Nat.reduceEqDiff, Nat.reduceAdd, Nat.reduceSub, Nat.reduceLeDiff, reduceCtorEq, implies_true, ne_eq, ↓asrcV, aggV, Tag.cap, List.replicate, allSolid, GVal.solid, Nat.reduceBEq, Nat.reduceMul, Nat.reduceLT, List.length_map, List.length_range, splice, vcA, ↓vcB, vcC, fbFz, e9, d3]
                refine ⟨by omega, by omega, fun h4 => ?_, fun h4 => ?_⟩
                · rw [if_pos h4] at hft
                  exact Into.at ⟨j + 1, by omega⟩ (by show l.length - (j + 1) < l.length - j; omega) ⟨[], by simp⟩ (by simp [WL, leG_self, leG_any, leG_int, hft])
                · rw [if_neg (by omega)] at hft
                  exact Into.at ⟨j + 1, by omega⟩ (by show l.length - (j + 1) < l.length - j; omega) ⟨[], by simp⟩ (by simp [WL, leG_self, leG_any, leG_int, hft])
              · have d3 : decide ((j : Int) < (l.length : Int)) = false := decide_eq_false (by omega)
                have etk : l.take j = l := List.take_of_length_le (by omega)
                have hbq : ((((l.filter (fun x => decide ((1099511627776 : Int) ≤ x))).length : Nat) : Int) == s.hi - 1099511627776 + 1) = s.head := by
                  rw [hd, Bool.eq_iff_iff, beq_iff_eq, decide_eq_true_iff]
                simp +contextual -implicitDefEqProofs (maxSteps := 2000000) (disch := omega) only [drawC, drawK, keepT, ↓lenV, binV, optV, ↓loadV, ↓storeV, ↓fieldAddrV, ↓indexAddrV, ↓boxV, ↓buildV, ↓buildSliceV, ↓sliceV, ↓appendV, ↓srcV, bound, cutTag, hiTag, fillG, fillE, place, GVal.cells, grp, GVal.ofConst, ↓resV, resG, List.map, List.headD, List.take, List.drop, ↓reduceIte, Nat.reduceEqDiff, Nat.reduceAdd, Nat.reduceSub, Nat.reduceLeDiff, reduceCtorEq, implies_true, ne_eq, ↓asrcV, aggV, Tag.cap, List.replicate, allSolid, GVal.solid, Nat.reduceBEq, Nat.reduceMul, Nat.reduceLT, List.length_map, List.length_range, splice, vcA, ↓vcB, vcC, fbFz, e9, segsG_length, d3, hml, eM, segG, strip, etk, hbq]
                repeat (refine ⟨by omega, ?_⟩)
                refine Into.at ⟨i + 1, by omega⟩ (by show T.length - (i + 1) < T.length - i; omega) ⟨[], ?_⟩ (by simp [WL, leG_self, leG_any, leG_int])
                simp only [← hms, List.append_nil, ← segsG_set]; rfl
          · have d2 : decide (1099511627776 ≤ s.lo) = false := decide_eq_false hlo
            have tl := tl 0 (by rw [if_neg (by omega)])
            simp +contextual -implicitDefEqProofs (maxSteps := 2000000) (disch := omega) only [drawC, drawK, keepT, ↓lenV, binV, optV, ↓loadV, ↓storeV, ↓fieldAddrV, ↓indexAddrV, ↓boxV, ↓buildV, ↓buildSliceV, ↓sliceV, ↓appendV, ↓srcV, bound, cutTag, hiTag, fillG, fillE, place, GVal.cells, grp, GVal.ofConst, ↓resV, resG, List.map, List.headD, List.take, List.drop, ↓reduceIte, Nat.reduceEqDiff, Nat.reduceAdd, Nat.reduceSub, Nat.reduceLeDiff, reduceCtorEq, implies_true, ne_eq, ↓asrcV, aggV, Tag.cap, List.replicate, allSolid, GVal.solid, Nat.reduceBEq, Nat.reduceMul, Nat.reduceLT, List.length_map, List.length_range, splice, vcA, ↓vcB, vcC, fbFz, e9, segsG_length, d1, d2, hml, eM, segG, strip, ints_one]
            repeat (refine ⟨by omega, ?_⟩)
            refine (rel48 m o .none .none .full [s.hi] (by omega) (by omega) (by simp) hrow).then ?_
            rintro g ⟨l, rfl, hl⟩
            have hll := hl.out_len
            have hd := tl l hl
            have hcl : (l.filter (fun x => decide ((0 : Int) ≤ x))).length ≤ l.length := List.length_filter_le _ _
            simp +contextual -implicitDefEqProofs (maxSteps := 2000000) (disch := omega) only [drawC, drawK, keepT, ↓lenV, binV, optV, ↓loadV, ↓storeV, ↓fieldAddrV, ↓indexAddrV, ↓boxV, ↓buildV, ↓buildSliceV, ↓sliceV, ↓appendV, ↓srcV, bound, cutTag, hiTag, fillG, fillE, place, GVal.cells, grp, GVal.ofConst, ↓resV, resG, List.map, List.headD, List.take, List.drop, ↓reduceIte, Nat.reduceEqDiff, Nat.reduceAdd, Nat.reduceSub, Nat.reduceLeDiff, reduceCtorEq, implies_true, ne_eq, ↓asrcV, aggV, Tag.cap, List.replicate, allSolid, GVal.solid, Nat.reduceBEq, Nat.reduceMul, Nat.reduceLT, List.length_map, List.length_range, splice, vcA, ↓vcB, vcC, fbFz, e9]
            refine vcSLoop_by (ι := { j : Nat // j ≤ l.length }) (fun j => ⟨[.any, .ref [.slice (tabG m) .none, .slice (tabG o) .none], .any, .own 0 v 0 T.length, .any, .any, .any, .any, .any, .int .i64 (i : Nat), .int .i64 0, .slice (ints l) .none, .int .i64 (((l.take j.1).filter (fun x => decide ((0 : Int) ≤ x))).length : Nat), .int .i64 (j.1 : Nat)] ++ List.replicate 127 .any, [.row v 5 (segsG (mixL T i))]⟩) (fun j => l.length - j.1) ?_ ?_
            · exact Into.first ⟨0, by omega⟩ ⟨[], by simp⟩ (by simp [WL, leG_self, leG_any])
            · rintro ⟨j, hj⟩
              have hcj : ((l.take j).filter (fun x => decide ((0 : Int) ≤ x))).length ≤ j := Nat.le_trans (List.length_filter_le _ _) (by rw [List.length_take]; omega)
              by_cases hjl : j < l.length
              · have d3 : decide ((j : Int) < (l.length : Int)) = true := decide_eq_true (by omega)
                have hft := filt_take l (fun x => decide ((0 : Int) ≤ x)) j hjl
                simp only [decide_eq_true_eq] at hft
                simp +contextual -implicitDefEqProofs (maxSteps := 2000000) (disch := omega) only [drawC, drawK, keepT, ↓lenV, binV, optV, ↓loadV, ↓storeV, ↓fieldAddrV, ↓indexAddrV, ↓boxV, ↓buildV, ↓buildSliceV, ↓sliceV, ↓appendV, ↓srcV, bound, cutTag, hiTag, fillG, fillE, place, GVal.cells, grp, GVal.ofConst, ↓resV, resG, List.map, List.headD, List.take, List.drop, ↓reduceIte, Nat.reduceEqDiff, Nat.reduceAdd, Nat.reduceSub, Nat.reduceLeDiff, reduceCtorEq, implies_true, ne_eq, ↓asrcV, aggV, Tag.cap, List.replicate, allSolid, GVal.solid, Nat.reduceBEq, Nat.reduceMul, Nat.reduceLT, List.length_map, List.length_range, splice, vcA, ↓vcB, vcC, fbFz, e9, d3]
                refine ⟨by omega, by omega, fun h4 => ?_, fun h4 => ?_⟩
                · rw [if_pos h4] at hft
                  exact Into.at ⟨j + 1, by omega⟩ (by show l.length - (j + 1) < l.length - j; omega) ⟨[], by simp⟩ (by simp [WL, leG_self, leG_any, leG_int, hft])
                · rw [if_neg (by omega)] at hft
                  exact Into.at ⟨j + 1, by omega⟩ (by show l.length - (j + 1) < l.length - j; omega) ⟨[], by simp⟩ (by simp [WL, leG_self, leG_any, leG_int, hft])
              · have d3 : decide ((j : Int) < (l.length : Int)) = false := decide_eq_false (by omega)
                have etk : l.take j = l := List.take_of_length_le (by omega)
                have hbq : ((((l.filter (fun x => decide ((0 : Int) ≤ x))).length : Nat) : Int) == s.hi - 0 + 1) = s.head := by
                  rw [hd, Bool.eq_iff_iff, beq_iff_eq, decide_eq_true_iff]
                simp +contextual -implicitDefEqProofs (maxSteps := 2000000) (disch := omega) only [drawC, drawK, keepT, ↓lenV, binV, optV, ↓loadV, ↓storeV, ↓fieldAddrV, ↓indexAddrV, ↓boxV, ↓buildV, ↓buildSliceV, ↓sliceV, ↓appendV, ↓srcV, bound, cutTag, hiTag, fillG, fillE, place, GVal.cells, grp, GVal.ofConst, ↓resV, resG, List.map, List.headD, List.take, List.drop, ↓reduceIte, Nat.reduceEqDiff, Nat.reduceAdd, Nat.reduceSub, Nat.reduceLeDiff, reduceCtorEq, implies_true, ne_eq, ↓asrcV, aggV, Tag.cap, List.replicate, allSolid, GVal.solid, Nat.reduceBEq, Nat.reduceMul, Nat.reduceLT, List.length_map, List.length_range, splice, vcA, ↓vcB, vcC, fbFz, e9, segsG_length, d3, hml, eM, segG, strip, etk, hbq]
                repeat (refine ⟨by omega, ?_⟩)
                refine Into.at ⟨i + 1, by omega⟩ (by show T.length - (i + 1) < T.length - i; omega) ⟨[], ?_⟩ (by simp [WL, leG_self, leG_any, leG_int])
                simp only [← hms, List.append_nil, ← segsG_set]; rfl
        · have d1 : decide ((i : Int) < (T.length : Int)) = false := decide_eq_false (by omega)
          have e1 : i = T.length := by omega
          subst e1
          simp +contextual -implicitDefEqProofs (maxSteps := 2000000) (disch := omega) only [drawC, drawK, keepT, ↓lenV, binV, optV, ↓loadV, ↓storeV, ↓fieldAddrV, ↓indexAddrV, ↓boxV, ↓buildV, ↓buildSliceV, ↓sliceV, ↓appendV, ↓srcV, bound, cutTag, hiTag, fillG, fillE, place, GVal.cells, grp, GVal.ofConst, ↓resV, resG, List.map, List.headD, List.take, List.drop, ↓reduceIte, Nat.reduceEqDiff, Nat.reduceAdd, Nat.reduceSub, Nat.reduceLeDiff, reduceCtorEq, implies_true, ne_eq, ↓asrcV, aggV, Tag.cap, List.replicate, allSolid, GVal.solid, Nat.reduceBEq, Nat.reduceMul, Nat.reduceLT, List.length_map, List.length_range, splice, vcA, ↓vcB, vcC, fbFz, e9, segsG_length, d1, mix_end]
          exact ⟨4, .slice (segsG T) .none, frz_own rfl (segsG_length _).symm (frz_segs _ 1 _), by rw [leA_slice]⟩

end Gv.Tryz
/- A call that is handed one object of the caller's: wherever it lies among the caller's objects, the others stay as they are. -/
set_option linter.unusedVariables false
namespace Gv
open Go
def GVal.place (i : Nat) : GVal → GVal
  | .ptr _ st a b => .ptr i st a b
  | .own _ st a b => .own i st a b
  | .map _ st => .map i st
  | g => g
theorem VR.place {E : Env} {v : Value} {g : GVal} (i : Nat) (h : VR E v (g.place i)) : VR E v g := by
  cases g with
  | ptr o st a b => cases h; exact .ptr _ _ _ _ _ _ _ (by assumption) (by assumption) (by assumption)
  | own o st a b => cases h; exact .own _ _ _ _ _ _ _ (by assumption) (by assumption) (by assumption)
  | map o st => cases h; exact .map _ _ _ _ (by assumption) (by assumption)
  | _ => exact h
theorem HSim.only {E : Env} {O : List GObj} {w : World} (h : HSim E O w) {i : Nat} {x : GObj} (hx : O[i]? = some x) (hc : x.isClock = false) : HSim E [x] w := by
  refine ⟨?_, h.sealed, h.one, fun k y hy => ?_, fun a b oa ob bb hab ha hb => ?_, h.glob⟩
  · obtain ⟨n, _, h2⟩ := h.fin
    refine ⟨n, fun c hc' => ?_, h2⟩
    cases x <;> simp [clockOf, GObj.isClock] at hc' hc
  · match k with
    | 0 => simp at hy; subst hy; exact h.real i x hx
    | k + 1 => simp at hy
  · match a, b with
    | 0, 0 => exact absurd rfl hab
    | a + 1, _ => simp at ha
    | 0, b + 1 => simp at hb
theorem GCalls.ownFrame {P : Program} {f : FuncId} {args : List GVal} {x : GObj} {R : GVal → GObj → Prop} (h : GCalls P f args [x] (fun g O' => ∃ x', O' = [x'] ∧ R g x')) {O : List GObj} (i : Nat) (hO : O[i]? = some x) (hc : clockOf O = none) (hcl : ∀ g x', R g x' → x'.isClock = false) (hx : x.isClock = false) :
    GCalls P f (args.map (GVal.place i)) O (fun g O' => ∃ x', O' = O.set i x' ∧ R g x') := by
  have hlt : i < O.length := (List.getElem?_eq_some_iff.1 hO).1
  refine ⟨h.1, fun E w vs hs ha => ?_⟩
  have ha' : ArgsR E vs args := ⟨by simpa using ha.1, fun k g hg => VR.place i (ha.2 k _ (by simp [hg]))⟩
  refine (h.2 E w vs (hs.only hO hx) ha').mono ?_
  rintro e w' ⟨v, E', O', g, rfl, h1, h2, h3, x', rfl, hR⟩
  have inX : ∀ b, InO E [x] b ↔ x.blk E = some b := fun b => ⟨fun ⟨k, y, hy, hb⟩ => by
    match k with
    | 0 => simp at hy; subst hy; exact hb
    | k + 1 => simp at hy, fun hb => ⟨0, x, rfl, hb⟩⟩
  have inX' : ∀ b, x'.blk E' = some b → x.blk E = some b ∨ w.heap.size ≤ b := fun b hb => by
    rcases h2.objs b ⟨0, x', rfl, hb⟩ with q | q
    · exact .inl ((inX b).1 q)
    · exact .inr q
  have get : ∀ (k : Nat) y, (O.set i x')[k]? = some y → (k = i ∧ y = x') ∨ (k ≠ i ∧ O[k]? = some y) := by
    intro k y hy
    rw [List.getElem?_set] at hy
    by_cases e : i = k
    · rw [if_pos e, if_pos hlt] at hy
      simp only [Option.some.injEq] at hy; exact .inl ⟨e.symm, hy.symm⟩
    · rw [if_neg e] at hy; exact .inr ⟨fun q => e q.symm, hy⟩
  have far : ∀ (k : Nat) y b, k ≠ i → O[k]? = some y → y.blk E = some b → ¬ InO E [x] b := fun k y b hk hy hb hin => hs.sep k i y x b hk hy hO hb ((inX b).1 hin)
  have hold : ∀ (k : Nat) y, k ≠ i → O[k]? = some y → Realized E' w' y ∧ y.blk E' = y.blk E := fun k y hk hy =>
    ⟨(hs.real k y hy).keep h2.ext (fun b hb => h2.heap b ((hs.real k y hy).blk_lt hb) (far k y b hk hy hb)) (fun b o v hb hv => by
      rcases h2.snap b o v hv with q | q | q
      · exact q
      · exact absurd ((hs.real k y hy).blk_lt hb) (by omega)
      · exact absurd q (far k y b hk hy hb)), GObj.blk_mono h2.ext (hs.real k y hy)⟩
  have hclk : clockOf (O.set i x') = none := by
    have := clockOf_set (obj' := x') hO hx (hcl _ _ hR)
    rw [this, hc]
  have hx'r : Realized E' w' x' := h1.real 0 x' rfl
  refine ⟨v, E', O.set i x', g, rfl, ⟨?_, h1.sealed, h1.one, fun k y hy => ?_, fun a b oa ob bb hab ha1 hb1 q1 q2 => ?_, h1.glob⟩, ⟨h2.ext, h2.os, h2.out, h2.size, fun b hb hn => h2.heap b hb fun hin => hn ⟨i, x, hO, (inX b).1 hin⟩, fun b o v hv => ?_, fun b hb => ?_, trivial⟩, h3, x', rfl, hR⟩
  · obtain ⟨n, _, q⟩ := h1.fin
    exact ⟨n, fun c hc' => (by rw [hclk] at hc'; cases hc'), q⟩
  · rcases get k y hy with ⟨rfl, rfl⟩ | ⟨hk, hy⟩
    · exact hx'r
    · exact (hold k y hk hy).1
  · rcases get a oa ha1 with ⟨rfl, rfl⟩ | ⟨hka, hya⟩ <;> rcases get b ob hb1 with ⟨rfl, rfl⟩ | ⟨hkb, hyb⟩
    · exact hab rfl
    · rw [(hold b ob hkb hyb).2] at q2
      rcases inX' bb q1 with e | e
      · exact hs.sep b a ob x bb hkb hyb hO q2 e
      · exact absurd ((hs.real b ob hyb).blk_lt q2) (by omega)
    · rw [(hold a oa hka hya).2] at q1
      rcases inX' bb q2 with e | e
      · exact hs.sep a b oa x bb hka hya hO q1 e
      · exact absurd ((hs.real a oa hya).blk_lt q1) (by omega)
    · rw [(hold a oa hka hya).2] at q1
      rw [(hold b ob hkb hyb).2] at q2
      exact hs.sep a b oa ob bb hab hya hyb q1 q2
  · rcases h2.snap b o v hv with q | q | q
    · exact .inl q
    · exact .inr (.inl q)
    · exact .inr (.inr ⟨i, x, hO, (inX b).1 q⟩)
  · obtain ⟨k, y, hy, hb⟩ := hb
    rcases get k y hy with ⟨rfl, rfl⟩ | ⟨hk, hy⟩
    · rcases inX' b hb with e | e
      · exact .inl ⟨_, x, hO, e⟩
      · exact .inr e
    · exact .inl ⟨k, y, hy, by rw [← (hold k y hk hy).2]; exact hb⟩
def dropTo (K : GVal → List GObj → Prop) (g : GVal) (O' : List GObj) : Prop := ∃ g' O1 X, O' = O1 ++ X ∧ leA g g' ∧ K g' O1
theorem GCalls.dropTo {P : Program} {f : FuncId} {args : List GVal} {O : List GObj} {K : GVal → List GObj → Prop} (h : GCalls P f args O (dropTo K)) : GCalls P f args O K :=
  (h.mono fun g O' ⟨g', O1, X, e, hl, hk⟩ => by
    subst e
    exact fun E v w hs hv => by
      obtain ⟨h1, h2⟩ := hs.drop
      exact ⟨g', O1, E, hk, h1, h2, hl.sound hv⟩ : GCalls P f args O (fun g O' => GInto g O' K)).into
end Gv
/- Contracts: small functions of ask. -/
set_option linter.unusedVariables false
set_option linter.unusedSimpArgs false
set_option maxRecDepth 20000
set_option maxHeartbeats 4000000
namespace Gv.Tryz
open Go Gv Go.Proofs
theorem aPart (s : List Sp.S) (t : Tag) (lo hi : Int) (hl : s.length ≤ 1000000) (ho : Sp.Ok s) (h1 : -9223372036854775808 ≤ lo ∧ lo ≤ 9223372036854775807) (h2 : -9223372036854775808 ≤ hi ∧ hi ≤ 9223372036854775807) :
    GPure Tryz.prog 46 [.slice (spl s) t, .int .i64 lo, .int .i64 hi] (.slice (spl (Sp.bothS s [(lo, hi)])) .none) := by
  refine h46.pure mixS (by simp) ?_
  simp only [gstart, s46, List.cons_append, List.nil_append, List.length_cons, List.length_nil, Nat.reduceAdd, Nat.reduceSub, List.replicate_succ, List.replicate_zero]
  simp +contextual -implicitDefEqProofs (maxSteps := 2000000) (disch := omega) only [optV, ↓buildV, ↓buildSliceV, ↓sliceV, bound, cutTag, hiTag, fillG, fillE, place, GVal.cells, grp, GVal.ofConst, ↓resV, resG, List.map, List.headD, List.take, List.drop, ↓reduceIte, Nat.reduceEqDiff, Nat.reduceAdd, Nat.reduceSub, Nat.reduceLeDiff, reduceCtorEq, implies_true, ne_eq, Tag.cap, List.replicate, allSolid, GVal.solid, Nat.reduceBEq, Nat.reduceMul, Nat.reduceLT, List.length_map, List.length_range, splice, vcA, ↓vcB, vcC, fbFz, e46]
  refine (sBoth s [(lo, hi)] t _ (by simp; omega) ho (fun x hx => by simp at hx; subst hx; exact ⟨h1, h2⟩)).then ?_ (by rfl)
  simp +contextual -implicitDefEqProofs (maxSteps := 2000000) (disch := omega) only [optV, ↓buildV, ↓buildSliceV, ↓sliceV, bound, cutTag, hiTag, fillG, fillE, place, GVal.cells, grp, GVal.ofConst, ↓resV, resG, List.map, List.headD, List.take, List.drop, ↓reduceIte, Nat.reduceEqDiff, Nat.reduceAdd, Nat.reduceSub, Nat.reduceLeDiff, reduceCtorEq, implies_true, ne_eq, Tag.cap, List.replicate, allSolid, GVal.solid, Nat.reduceBEq, Nat.reduceMul, Nat.reduceLT, List.length_map, List.length_range, splice, vcA, ↓vcB, vcC, fbFz, e46]
def movedS (s : List Sp.S) (b : Int) : List Sp.S := s.map fun x => (x.1 + b, x.2 + b)
theorem movedS_len (s : List Sp.S) (b : Int) : (movedS s b).length = s.length := by simp [movedS]
theorem cCloneS (s : List Sp.S) (hl : s.length ≤ 1000000) : GCalls Tryz.prog 39 [.slice (spl s) .none] [] (fun g O' => (∃ st, g = .own 0 st 0 s.length ∧ O' = [.row st 2 (spl s)]) ∨ (s = [] ∧ g = .slice [] .nil ∧ O' = [])) := by
  refine h39.calls mixS (by simp) ?_
  simp only [gstart, s39, List.cons_append, List.nil_append, List.length_cons, List.length_nil, Nat.reduceAdd, Nat.reduceSub, List.replicate_succ, List.replicate_zero]
  simp +contextual -implicitDefEqProofs (maxSteps := 2000000) (disch := omega) only [binV, optV, ↓buildSliceV, ↓sliceV, ↓appendV, ↓srcV, bound, cutTag, hiTag, fillE, GVal.cells, grp, GVal.ofConst, ↓resV, resG, List.map, List.headD, List.take, List.drop, ↓reduceIte, Nat.reduceEqDiff, Nat.reduceAdd, Nat.reduceSub, Nat.reduceLeDiff, reduceCtorEq, implies_true, ne_eq, ↓asrcV, aggV, Tag.cap, List.replicate, allSolid, GVal.solid, Nat.reduceBEq, Nat.reduceMul, Nat.reduceLT, List.length_map, List.length_range, splice, vcA, ↓vcB, vcC, fbFz, e39, spl_length, all_spl]
  have hnil : spl s = [] → s = [] := fun h => by cases s with
    | nil => rfl
    | cons a r => simp [spl] at h
  refine ⟨fun h => ⟨.inr (hnil h), by simp, fun st => .inl ⟨st, by rw [hnil h]; exact ⟨rfl, rfl⟩⟩⟩, fun h => ⟨by omega, by omega, by simp, fun st => .inl ⟨st, rfl, rfl⟩⟩⟩
theorem cCloneP (s : List Sp.S) (hl : s.length ≤ 1000000) : GPure Tryz.prog 39 [.slice (spl s) .none] (.slice (spl s) .none) := by
  refine GCalls.toPure ((cCloneS s hl).mono ?_)
  rintro g O' (⟨st, rfl, rfl⟩ | ⟨rfl, rfl, rfl⟩)
  · exact ⟨3, .slice (spl s) .none, frz_own rfl (spl_length _).symm (frz_spl _ 1 _), by rw [leA_slice]⟩
  · exact ⟨2, .slice [] .nil, rfl, by rw [leA_slice]; rfl⟩
theorem aMoved (s : List Sp.S) (b : Int) (hl : s.length ≤ 1000000) (hb : -1 ≤ b ∧ b ≤ 1) (ho : ∀ x ∈ s, (-4611686018427387904 ≤ x.1 ∧ x.1 ≤ 4611686018427387904) ∧ (-4611686018427387904 ≤ x.2 ∧ x.2 ≤ 4611686018427387904)) :
    GPure Tryz.prog 45 [.slice (spl s) .none, .int .i64 b] (.slice (spl (movedS s b)) .none) := by
  refine h45.pureF mixS (by simp) ?_
  simp only [gstart, s45, List.cons_append, List.nil_append, List.length_cons, List.length_nil, Nat.reduceAdd, Nat.reduceSub, List.replicate_succ, List.replicate_zero]
  simp +contextual -implicitDefEqProofs (maxSteps := 2000000) (disch := omega) only [drawC, drawK, keepT, ↓lenV, binV, optV, ↓loadV, ↓storeV, ↓fieldAddrV, ↓indexAddrV, ↓sliceV, bound, cutTag, hiTag, GVal.cells, grp, GVal.ofConst, ↓resV, resG, List.map, List.headD, List.take, List.drop, ↓reduceIte, Nat.reduceEqDiff, Nat.reduceAdd, Nat.reduceSub, Nat.reduceLeDiff, reduceCtorEq, implies_true, ne_eq, Tag.cap, List.replicate, allSolid, GVal.solid, Nat.reduceBEq, Nat.reduceMul, Nat.reduceLT, List.length_map, List.length_range, splice, vcA, ↓vcB, vcC, fbFz, e45]
  refine (cCloneS s hl).mono ?_
  rintro g O' (⟨st, rfl, rfl⟩ | ⟨rfl, rfl, rfl⟩)
  · simp +contextual -implicitDefEqProofs (maxSteps := 2000000) (disch := omega) only [drawC, drawK, keepT, ↓lenV, binV, optV, ↓loadV, ↓storeV, ↓fieldAddrV, ↓indexAddrV, ↓sliceV, bound, cutTag, hiTag, GVal.cells, grp, GVal.ofConst, ↓resV, resG, List.map, List.headD, List.take, List.drop, ↓reduceIte, Nat.reduceEqDiff, Nat.reduceAdd, Nat.reduceSub, Nat.reduceLeDiff, reduceCtorEq, implies_true, ne_eq, Tag.cap, List.replicate, allSolid, GVal.solid, Nat.reduceBEq, Nat.reduceMul, Nat.reduceLT, List.length_map, List.length_range, splice, vcA, ↓vcB, vcC, fbFz, e45, spl_length]
    refine vcSLoop_by (ι := { k : Nat // k ≤ s.length }) (fun k => ⟨[.any, .int .i64 b, .any, .any, .any, .own 0 st 0 s.length, .any, .any, .any, .any, .int .i64 s.length, .int .i64 (k.1 : Nat)] ++ List.replicate 26 .any, [.row st 2 (spl (movedS (s.take k.1) b ++ s.drop k.1))]⟩) (fun k => s.length - k.1) ?_ ?_
    · exact Into.first ⟨0, by omega⟩ ⟨[], by simp [movedS]⟩ (by simp [WL, leG_self, leG_any])
    · rintro ⟨k, hk⟩
      have hA : (movedS (s.take k) b ++ s.drop k).length = s.length := by simp [movedS_len]; omega
      by_cases h : k < s.length
      · have d0 : ((k : Int) < (s.length : Int)) = True := eq_true (by omega)
        have eg : (movedS (s.take k) b ++ s.drop k).getD k (0, 0) = s.getD k (0, 0) := by
          simp only [List.getD_eq_getElem?_getD]
          rw [List.getElem?_append_right (by simp [movedS_len]; omega)]
          simp [movedS_len, List.getElem?_drop]
          congr 2; omega
        have en : movedS (s.take (k + 1)) b ++ s.drop (k + 1) = (movedS (s.take k) b ++ s.drop k).set k ((s.getD k (0, 0)).1 + b, (s.getD k (0, 0)).2 + b) := by
          rw [take_getD h, drop_getD h]
          have e0 : (movedS (s.take k) b).length = k := by simp [movedS_len]; omega
          rw [List.set_append_right _ _ (by omega), e0, Nat.sub_self, List.set_cons_zero]
          simp [movedS]
        have hx := ho (s.getD k (0, 0)) (by rw [List.getD_eq_getElem?_getD, List.getElem?_eq_getElem h]; exact List.getElem_mem h)
        generalize s.getD k (0, 0) = x at *
        generalize movedS (s.take k) b ++ s.drop k = A at *
        have eS := spl_at A k (by omega)
        rw [eg] at eS
        have eS2 : ((spl A).set k [.int .i64 (x.1 + b), .int .i64 x.2]).getD k [] = [.int .i64 (x.1 + b), .int .i64 x.2] := by simp [List.getD, spl_length, hA, h]
        have eL2 : ((spl A).set k [.int .i64 (x.1 + b), .int .i64 x.2]).length = s.length := by simp [spl_length, hA]
        simp +contextual -implicitDefEqProofs (maxSteps := 2000000) (disch := omega) only [drawC, drawK, keepT, ↓lenV, binV, optV, ↓loadV, ↓storeV, ↓fieldAddrV, ↓indexAddrV, ↓sliceV, bound, cutTag, hiTag, GVal.cells, grp, GVal.ofConst, ↓resV, resG, List.map, List.headD, List.take, List.drop, ↓reduceIte, Nat.reduceEqDiff, Nat.reduceAdd, Nat.reduceSub, Nat.reduceLeDiff, reduceCtorEq, implies_true, ne_eq, Tag.cap, List.replicate, allSolid, GVal.solid, Nat.reduceBEq, Nat.reduceMul, Nat.reduceLT, List.length_map, List.length_range, splice, vcA, ↓vcB, vcC, fbFz, e45, spl_length, d0, eS, spG, hA, eS2, eL2, List.set_set]
        repeat (refine ⟨by omega, ?_⟩)
        refine Into.at ⟨k + 1, by omega⟩ (by show _ < _; simp; omega) ⟨[], ?_⟩ (by simp [WL, leG_self, leG_any, leG_int])
        show _ = [GObj.row st 2 (spl (movedS (s.take (k + 1)) b ++ s.drop (k + 1)))] ++ []
        rw [en, ← spl_set]; rfl
      · have d0 : ((k : Int) < (s.length : Int)) = False := eq_false (by omega)
        have e1 : k = s.length := by omega
        subst e1
        simp +contextual -implicitDefEqProofs (maxSteps := 2000000) (disch := omega) only [drawC, drawK, keepT, ↓lenV, binV, optV, ↓loadV, ↓storeV, ↓fieldAddrV, ↓indexAddrV, ↓sliceV, bound, cutTag, hiTag, GVal.cells, grp, GVal.ofConst, ↓resV, resG, List.map, List.headD, List.take, List.drop, ↓reduceIte, Nat.reduceEqDiff, Nat.reduceAdd, Nat.reduceSub, Nat.reduceLeDiff, reduceCtorEq, implies_true, ne_eq, Tag.cap, List.replicate, allSolid, GVal.solid, Nat.reduceBEq, Nat.reduceMul, Nat.reduceLT, List.length_map, List.length_range, splice, vcA, ↓vcB, vcC, fbFz, e45, spl_length, d0, hA, List.take_length, List.drop_length, List.append_nil]
        exact ⟨3, .slice (spl (movedS s b)) .none, frz_own rfl (by rw [spl_length, movedS_len]) (frz_spl _ 1 _), by rw [leA_slice]⟩
  · simp +contextual -implicitDefEqProofs (maxSteps := 2000000) (disch := omega) only [drawC, drawK, keepT, ↓lenV, binV, optV, ↓loadV, ↓storeV, ↓fieldAddrV, ↓indexAddrV, ↓sliceV, bound, cutTag, hiTag, GVal.cells, grp, GVal.ofConst, ↓resV, resG, List.map, List.headD, List.take, List.drop, ↓reduceIte, Nat.reduceEqDiff, Nat.reduceAdd, Nat.reduceSub, Nat.reduceLeDiff, reduceCtorEq, implies_true, ne_eq, Tag.cap, List.replicate, allSolid, GVal.solid, Nat.reduceBEq, Nat.reduceMul, Nat.reduceLT, List.length_map, List.length_range, splice, vcA, ↓vcB, vcC, fbFz, e45]
    refine vcSLoop_by (ι := Unit) (fun _ => ⟨[.any, .any, .any, .any, .any, .slice [] .nil, .any, .any, .any, .any, .int .i64 0, .int .i64 0] ++ List.replicate 26 .any, []⟩) (fun _ => 0) ?_ ?_
    · exact Into.first () ⟨[], by simp⟩ (by simp [WL, leG_self, leG_any])
    · rintro ⟨⟩
      simp +contextual -implicitDefEqProofs (maxSteps := 2000000) (disch := omega) only [drawC, drawK, keepT, ↓lenV, binV, optV, ↓loadV, ↓storeV, ↓fieldAddrV, ↓indexAddrV, ↓sliceV, bound, cutTag, hiTag, GVal.cells, grp, GVal.ofConst, ↓resV, resG, List.map, List.headD, List.take, List.drop, ↓reduceIte, Nat.reduceEqDiff, Nat.reduceAdd, Nat.reduceSub, Nat.reduceLeDiff, reduceCtorEq, implies_true, ne_eq, Tag.cap, List.replicate, allSolid, GVal.solid, Nat.reduceBEq, Nat.reduceMul, Nat.reduceLT, List.length_map, List.length_range, splice, vcA, ↓vcB, vcC, fbFz, e45]
      exact ⟨fun h => absurd h (by omega), fun _ => ⟨2, .slice [] .nil, rfl, by rw [leA_slice]; rfl⟩⟩
theorem aTouch1 (s : List Sp.S) (n : Int) (hl : s.length ≤ 4398046511104) (ho : Sp.Ok s) : GPure Tryz.prog 74 [.int .i64 n, .ref [.slice (spl s) .none]] (.bool (Sp.hasB s n)) := by
  refine h74.pure mixS (by simp) ?_
  simp only [gstart, s74, List.cons_append, List.nil_append, List.length_cons, List.length_nil, Nat.reduceAdd, Nat.reduceSub, List.replicate_succ, List.replicate_zero]
  simp +contextual -implicitDefEqProofs (maxSteps := 2000000) (disch := omega) only [↓loadV, GVal.cells, grp, GVal.ofConst, ↓resV, resG, List.map, List.headD, List.take, List.drop, ↓reduceIte, Nat.reduceEqDiff, Nat.reduceAdd, Nat.reduceSub, Nat.reduceLeDiff, reduceCtorEq, implies_true, ne_eq, Tag.cap, List.replicate, allSolid, GVal.solid, Nat.reduceBEq, Nat.reduceMul, Nat.reduceLT, List.length_map, List.length_range, splice, vcA, ↓vcB, vcC, fbFz, e74]
  refine (sHas s .none n hl ho).then ?_ (by rfl)
  simp +contextual -implicitDefEqProofs (maxSteps := 2000000) (disch := omega) only [↓loadV, GVal.cells, grp, GVal.ofConst, ↓resV, resG, List.map, List.headD, List.take, List.drop, ↓reduceIte, Nat.reduceEqDiff, Nat.reduceAdd, Nat.reduceSub, Nat.reduceLeDiff, reduceCtorEq, implies_true, ne_eq, Tag.cap, List.replicate, allSolid, GVal.solid, Nat.reduceBEq, Nat.reduceMul, Nat.reduceLT, List.length_map, List.length_range, splice, vcA, ↓vcB, vcC, fbFz, e74]
def idxT : List Int → List Sp.S → Int → Int
  | [], _, _ => -1
  | a :: r, s, i => if Sp.hasB s a = true then i else idxT r s (i + 1)
theorem idxT_ge : ∀ (l : List Int) (s : List Sp.S) (i : Int), 0 ≤ i → (decide (0 ≤ idxT l s i) = l.any fun a => Sp.hasB s a)
  | [], s, i, h => by simp [idxT]
  | a :: r, s, i, h => by
    rw [idxT, List.any_cons]
    split
    · rename_i h1; rw [h1, decide_eq_true h]; rfl
    · rename_i h1
      rw [idxT_ge r s (i + 1) (by omega)]
      cases hq : Sp.hasB s a with
      | true => exact absurd hq h1
      | false => rfl
theorem drop_getI {l : List Int} {k : Nat} (h : k < l.length) : l.drop k = l.getD k 0 :: l.drop (k + 1) := by
  rw [List.drop_eq_getElem_cons h]; simp [List.getD, h]
theorem aIdx (l : List Int) (t : Tag) (s : List Sp.S) (hl : l.length ≤ 4398046511104) (hs : s.length ≤ 4398046511104) (ho : Sp.Ok s) : GPure Tryz.prog 89 [.slice (ints l) t, .func (.func 74) [] [.ref [.slice (spl s) .none]]] (.int .i64 (idxT l s 0)) := by
  refine h89.pure mixS (by simp) ?_
  simp only [gstart, s89, List.cons_append, List.nil_append, List.length_cons, List.length_nil, Nat.reduceAdd, Nat.reduceSub, List.replicate_succ, List.replicate_zero]
  simp +contextual -implicitDefEqProofs (maxSteps := 2000000) (disch := omega) only [↓lenV, binV, ↓loadV, ↓indexAddrV, GVal.cells, grp, GVal.ofConst, ↓resV, resG, List.map, List.headD, List.take, List.drop, ↓reduceIte, Nat.reduceEqDiff, Nat.reduceAdd, Nat.reduceSub, Nat.reduceLeDiff, reduceCtorEq, implies_true, ne_eq, Tag.cap, List.replicate, allSolid, GVal.solid, Nat.reduceBEq, Nat.reduceMul, Nat.reduceLT, List.length_map, List.length_range, splice, vcA, ↓vcB, vcC, fbFz, e89]
  refine vcSLoop_by (ι := { k : Nat // k ≤ l.length ∧ idxT (l.drop k) s k = idxT l s 0 }) (fun k => ⟨[.slice (ints l) t, .func (.func 74) [] [.ref [.slice (spl s) .none]], .any, .any, .any, .any, .slice (ints l) t, .int .i64 l.length, .int .i64 (k.1 : Nat)] ++ List.replicate 10 .any, []⟩) (fun k => l.length - k.1) ?_ ?_
  · exact Into.first ⟨0, by omega, by simp⟩ ⟨[], by simp⟩ (by simp [WL, leG_self, leG_any, leG_int])
  · rintro ⟨k, hk, he⟩
    by_cases h : k < l.length
    · have d0 : ((k : Int) < (l.length : Int)) = True := eq_true (by omega)
      have eS := ints_at l k h
      rw [drop_getI h] at he
      generalize l.getD k 0 = x at *
      simp +contextual -implicitDefEqProofs (maxSteps := 2000000) (disch := omega) only [↓lenV, binV, ↓loadV, ↓indexAddrV, GVal.cells, grp, GVal.ofConst, ↓resV, resG, List.map, List.headD, List.take, List.drop, ↓reduceIte, Nat.reduceEqDiff, Nat.reduceAdd, Nat.reduceSub, Nat.reduceLeDiff, reduceCtorEq, implies_true, ne_eq, Tag.cap, List.replicate, allSolid, GVal.solid, Nat.reduceBEq, Nat.reduceMul, Nat.reduceLT, List.length_map, List.length_range, splice, vcAi, ↓vcB, vcC, fbFz, e89, d0, eS]
      repeat (refine ⟨by omega, ?_⟩)
      refine (aTouch1 s x hs ho).then ?_ (by rfl)
      rw [idxT] at he
      cases e : Sp.hasB s x with
      | true =>
        rw [if_pos e] at he
        simp +contextual -implicitDefEqProofs (maxSteps := 2000000) (disch := omega) only [↓lenV, binV, ↓loadV, ↓indexAddrV, GVal.cells, grp, GVal.ofConst, ↓resV, resG, List.map, List.headD, List.take, List.drop, ↓reduceIte, Nat.reduceEqDiff, Nat.reduceAdd, Nat.reduceSub, Nat.reduceLeDiff, reduceCtorEq, implies_true, ne_eq, Tag.cap, List.replicate, allSolid, GVal.solid, Nat.reduceBEq, Nat.reduceMul, Nat.reduceLT, List.length_map, List.length_range, splice, vcAi, ↓vcB, vcC, fbFz, e89, d0, eS]
        rw [he]
      | false =>
        rw [if_neg (by rw [e]; simp)] at he
        simp +contextual -implicitDefEqProofs (maxSteps := 2000000) (disch := omega) only [↓lenV, binV, ↓loadV, ↓indexAddrV, GVal.cells, grp, GVal.ofConst, ↓resV, resG, List.map, List.headD, List.take, List.drop, ↓reduceIte, Nat.reduceEqDiff, Nat.reduceAdd, Nat.reduceSub, Nat.reduceLeDiff, reduceCtorEq, implies_true, ne_eq, Tag.cap, List.replicate, allSolid, GVal.solid, Nat.reduceBEq, Nat.reduceMul, Nat.reduceLT, List.length_map, List.length_range, splice, vcAi, ↓vcB, vcC, fbFz, e89, d0, eS]
        exact Into.at ⟨k + 1, by omega, by rw [← he]; simp⟩ (by show _ < _; simp; omega) ⟨[], by simp⟩ (by simp [WL, leG_self, leG_any, leG_int])
    · have d0 : ((k : Int) < (l.length : Int)) = False := eq_false (by omega)
      rw [List.drop_of_length_le (by omega)] at he
      simp +contextual -implicitDefEqProofs (maxSteps := 2000000) (disch := omega) only [↓lenV, binV, ↓loadV, ↓indexAddrV, GVal.cells, grp, GVal.ofConst, ↓resV, resG, List.map, List.headD, List.take, List.drop, ↓reduceIte, Nat.reduceEqDiff, Nat.reduceAdd, Nat.reduceSub, Nat.reduceLeDiff, reduceCtorEq, implies_true, ne_eq, Tag.cap, List.replicate, allSolid, GVal.solid, Nat.reduceBEq, Nat.reduceMul, Nat.reduceLT, List.length_map, List.length_range, splice, vcA, ↓vcB, vcC, fbFz, e89, d0, false_imp_iff, true_and]
      rw [← he]; rfl
theorem aCont (l : List Int) (t : Tag) (s : List Sp.S) (hl : l.length ≤ 4398046511104) (hs : s.length ≤ 4398046511104) (ho : Sp.Ok s) : GPure Tryz.prog 73 [.slice (ints l) t, .func (.func 74) [] [.ref [.slice (spl s) .none]]] (.bool (l.any fun a => Sp.hasB s a)) := by
  refine h73.pure mixS (by simp) ?_
  simp only [gstart, s73, List.cons_append, List.nil_append, List.length_cons, List.length_nil, Nat.reduceAdd, Nat.reduceSub, List.replicate_succ, List.replicate_zero]
  simp +contextual -implicitDefEqProofs (maxSteps := 2000000) (disch := omega) only [binV, GVal.cells, grp, GVal.ofConst, ↓resV, resG, List.map, List.headD, List.take, List.drop, ↓reduceIte, Nat.reduceEqDiff, Nat.reduceAdd, Nat.reduceSub, Nat.reduceLeDiff, reduceCtorEq, implies_true, ne_eq, Tag.cap, List.replicate, allSolid, GVal.solid, Nat.reduceBEq, Nat.reduceMul, Nat.reduceLT, List.length_map, List.length_range, splice, vcA, ↓vcB, vcC, fbFz, e73]
  refine (aIdx l t s hl hs ho).then ?_ (by rfl)
  rw [← idxT_ge l s 0 (by omega)]
  simp +contextual -implicitDefEqProofs (maxSteps := 2000000) (disch := omega) only [binV, GVal.cells, grp, GVal.ofConst, ↓resV, resG, List.map, List.headD, List.take, List.drop, ↓reduceIte, Nat.reduceEqDiff, Nat.reduceAdd, Nat.reduceSub, Nat.reduceLeDiff, reduceCtorEq, implies_true, ne_eq, Tag.cap, List.replicate, allSolid, GVal.solid, Nat.reduceBEq, Nat.reduceMul, Nat.reduceLT, List.length_map, List.length_range, splice, vcA, ↓vcB, vcC, fbFz, e73]
theorem aTouches (l : List Int) (t : Tag) (s : List Sp.S) (hl : l.length ≤ 4398046511104) (hs : s.length ≤ 4398046511104) (ho : Sp.Ok s) : GPure Tryz.prog 49 [.slice (ints l) t, .slice (spl s) .none] (.bool (l.any fun a => Sp.hasB s a)) := by
  refine h49.pure mixS (by simp) ?_
  simp only [gstart, s49, List.cons_append, List.nil_append, List.length_cons, List.length_nil, Nat.reduceAdd, Nat.reduceSub, List.replicate_succ, List.replicate_zero]
  simp +contextual -implicitDefEqProofs (maxSteps := 2000000) (disch := omega) only [↓boxV, GVal.cells, grp, GVal.ofConst, ↓resV, resG, List.map, List.headD, List.take, List.drop, ↓reduceIte, Nat.reduceEqDiff, Nat.reduceAdd, Nat.reduceSub, Nat.reduceLeDiff, reduceCtorEq, implies_true, ne_eq, Tag.cap, List.replicate, allSolid, GVal.solid, Nat.reduceBEq, Nat.reduceMul, Nat.reduceLT, List.length_map, List.length_range, splice, vcA, ↓vcB, vcC, fbFz, e49]
  refine (aCont l t s hl hs ho).then ?_ (by rfl)
  simp +contextual -implicitDefEqProofs (maxSteps := 2000000) (disch := omega) only [↓boxV, GVal.cells, grp, GVal.ofConst, ↓resV, resG, List.map, List.headD, List.take, List.drop, ↓reduceIte, Nat.reduceEqDiff, Nat.reduceAdd, Nat.reduceSub, Nat.reduceLeDiff, reduceCtorEq, implies_true, ne_eq, Tag.cap, List.replicate, allSolid, GVal.solid, Nat.reduceBEq, Nat.reduceMul, Nat.reduceLT, List.length_map, List.length_range, splice, vcA, ↓vcB, vcC, fbFz, e49]
end Gv.Tryz
/- A dag over a table: what it holds; how it is made. -/
set_option linter.unusedVariables false
set_option linter.unusedSimpArgs false
set_option maxRecDepth 20000
set_option maxHeartbeats 4000000
namespace Gv.Tryz
open Go Gv Go.Proofs
abbrev dagG (L : List (List Seg)) (N : List Sp.S) (k : Int) : List GVal := [.slice (levsG L) .none, .slice (spl N) .none, .int .i64 k]
def DPure (f : FuncId) (L : List (List Seg)) (N : List Sp.S) (ar : List GVal) (r : GVal) : Prop :=
  ∀ (st : Nat) (k : Int), GCalls Tryz.prog f (.ptr 0 st 0 0 :: ar) [.row st 3 [dagG L N k]] (fun g O' => ∃ x', O' = [x'] ∧ (g = r ∧ x' = .row st 3 [dagG L N k]))
theorem DPure.then {f : FuncId} {L : List (List Seg)} {N : List Sp.S} {ar : List GVal} {r : GVal} (h : DPure f L N ar r) {O : List GObj} {i st : Nat} {k : Int} {K : GVal → List GObj → Prop}
    (hk : K r O) (hO : O[i]? = some (.row st 3 [dagG L N k]) := by rfl) (hc : clockOf O = none := by rfl) (ha : ar.map (GVal.place i) = ar := by rfl) : GCalls Tryz.prog f (.ptr i st 0 0 :: ar) O K := by
  have := GCalls.ownFrame (h st k) i hO hc (fun g x' h => by rw [h.2]; rfl) rfl
  rw [List.map_cons, ha] at this
  refine this.mono ?_
  rintro g O' ⟨x', rfl, rfl, rfl⟩
  have e : O.set i (.row st 3 [dagG L N k]) = O := by
    apply List.ext_getElem (by simp)
    intro j h1 h2
    rw [List.getElem_set]
    split
    · rename_i e; subst e
      rw [List.getElem?_eq_getElem h2] at hO
      exact (Option.some.inj hO).symm
    · rfl
  rw [e]; exact hk
theorem aThere (L : List (List Seg)) (N s : List Sp.S) (t : Tag) (hl : s.length + N.length ≤ 4398046511104) (hs : Sp.Ok s) (hN : Sp.Ok N) : DPure 41 L N [.slice (spl s) t] (.slice (spl (Sp.bothS s N)) .none) := by
  intro st k
  refine h41.calls mixS (by simp) ?_
  simp only [gstart, s41, List.cons_append, List.nil_append, List.length_cons, List.length_nil, Nat.reduceAdd, Nat.reduceSub, List.replicate_succ, List.replicate_zero]
  simp +contextual -implicitDefEqProofs (maxSteps := 2000000) (disch := omega) only [optV, ↓loadV, ↓fieldAddrV, ↓sliceV, ↓nilV, bound, cutTag, hiTag, GVal.cells, grp, GVal.ofConst, ↓resV, resG, List.map, List.headD, List.take, List.drop, ↓reduceIte, Nat.reduceEqDiff, Nat.reduceAdd, Nat.reduceSub, Nat.reduceLeDiff, reduceCtorEq, implies_true, ne_eq, Tag.cap, List.replicate, allSolid, GVal.solid, Nat.reduceBEq, Nat.reduceMul, Nat.reduceLT, List.length_map, List.length_range, splice, vcA, ↓vcB, vcC, fbFz, e41]
  refine (sBoth s N t .none hl hs hN).then ?_ (by rfl)
  simp +contextual -implicitDefEqProofs (maxSteps := 2000000) (disch := omega) only [optV, ↓loadV, ↓fieldAddrV, ↓sliceV, ↓nilV, bound, cutTag, hiTag, GVal.cells, grp, GVal.ofConst, ↓resV, resG, List.map, List.headD, List.take, List.drop, ↓reduceIte, Nat.reduceEqDiff, Nat.reduceAdd, Nat.reduceSub, Nat.reduceLeDiff, reduceCtorEq, implies_true, ne_eq, Tag.cap, List.replicate, allSolid, GVal.solid, Nat.reduceBEq, Nat.reduceMul, Nat.reduceLT, List.length_map, List.length_range, splice, vcA, ↓vcB, vcC, fbFz, e41]
  exact ⟨_, rfl, rfl⟩
theorem aAll (L : List (List Seg)) (N : List Sp.S) (hl : N.length ≤ 1000000) : DPure 13 L N [] (.slice (spl N) .none) := by
  intro st k
  refine h13.calls mixS (by simp) ?_
  simp only [gstart, s13, List.cons_append, List.nil_append, List.length_cons, List.length_nil, Nat.reduceAdd, Nat.reduceSub, List.replicate_succ, List.replicate_zero]
  simp +contextual -implicitDefEqProofs (maxSteps := 2000000) (disch := omega) only [optV, ↓loadV, ↓fieldAddrV, ↓sliceV, ↓nilV, bound, cutTag, hiTag, GVal.cells, grp, GVal.ofConst, ↓resV, resG, List.map, List.headD, List.take, List.drop, ↓reduceIte, Nat.reduceEqDiff, Nat.reduceAdd, Nat.reduceSub, Nat.reduceLeDiff, reduceCtorEq, implies_true, ne_eq, Tag.cap, List.replicate, allSolid, GVal.solid, Nat.reduceBEq, Nat.reduceMul, Nat.reduceLT, List.length_map, List.length_range, splice, vcA, ↓vcB, vcC, fbFz, e13]
  refine (cCloneP N hl).then ?_ (by rfl)
  simp +contextual -implicitDefEqProofs (maxSteps := 2000000) (disch := omega) only [optV, ↓loadV, ↓fieldAddrV, ↓sliceV, ↓nilV, bound, cutTag, hiTag, GVal.cells, grp, GVal.ofConst, ↓resV, resG, List.map, List.headD, List.take, List.drop, ↓reduceIte, Nat.reduceEqDiff, Nat.reduceAdd, Nat.reduceSub, Nat.reduceLeDiff, reduceCtorEq, implies_true, ne_eq, Tag.cap, List.replicate, allSolid, GVal.solid, Nat.reduceBEq, Nat.reduceMul, Nat.reduceLT, List.length_map, List.length_range, splice, vcA, ↓vcB, vcC, fbFz, e13]
  exact ⟨_, rfl, rfl⟩
theorem aFlat (L : List (List Seg)) (N : List Sp.S) (h : 1 ≤ L.length) : DPure 42 L N [] (.slice (segsG (L.getD 0 [])) .none) := by
  intro st k
  have e := levsG_at L 0 (by omega)
  refine h42.calls mixS (by simp) ?_
  simp only [gstart, s42, List.cons_append, List.nil_append, List.length_cons, List.length_nil, Nat.reduceAdd, Nat.reduceSub, List.replicate_succ, List.replicate_zero]
  simp +contextual -implicitDefEqProofs (maxSteps := 2000000) (disch := omega) only [optV, ↓loadV, ↓fieldAddrV, ↓indexAddrV, ↓sliceV, ↓nilV, bound, cutTag, hiTag, GVal.cells, grp, GVal.ofConst, ↓resV, resG, List.map, List.headD, List.take, List.drop, ↓reduceIte, Nat.reduceEqDiff, Nat.reduceAdd, Nat.reduceSub, Nat.reduceLeDiff, reduceCtorEq, implies_true, ne_eq, Tag.cap, List.replicate, allSolid, GVal.solid, Nat.reduceBEq, Nat.reduceMul, Nat.reduceLT, List.length_map, List.length_range, splice, vcA, ↓vcB, vcC, fbFz, e42, levsG_length, e, Int.toNat_zero]
  exact ⟨by omega, by omega, _, rfl, rfl⟩
theorem aSteps (L : List (List Seg)) (N : List Sp.S) (k : Int) (st : Nat) : GCalls Tryz.prog 38 [.ptr 0 st 0 0] [.row st 3 [dagG L N k]] (fun g O' => g = .int .i64 k ∧ O' = [.row st 3 [dagG L N k]]) := by
  refine h38.calls mixS (by simp) ?_
  simp only [gstart, s38, List.cons_append, List.nil_append, List.length_cons, List.length_nil, Nat.reduceAdd, Nat.reduceSub, List.replicate_succ, List.replicate_zero]
  simp +contextual -implicitDefEqProofs (maxSteps := 2000000) (disch := omega) only [↓loadV, ↓fieldAddrV, ↓nilV, GVal.cells, grp, GVal.ofConst, ↓resV, resG, List.map, List.headD, List.take, List.drop, ↓reduceIte, Nat.reduceEqDiff, Nat.reduceAdd, Nat.reduceSub, Nat.reduceLeDiff, reduceCtorEq, implies_true, ne_eq, Tag.cap, List.replicate, allSolid, GVal.solid, Nat.reduceBEq, Nat.reduceMul, Nat.reduceLT, List.length_map, List.length_range, splice, vcA, ↓vcB, vcC, fbFz, e38]
theorem seg_mem {l : List Seg} {k : Nat} (h : k < l.length) : l.getD k default ∈ l := by
  rw [List.getD_eq_getElem?_getD, List.getElem?_eq_getElem h]; exact List.getElem_mem h
/-! what the flat segments are -/
structure FlatS (m o : List (List Int)) (s : Seg) : Prop where
  lo : 0 ≤ s.lo
  le : s.lo ≤ s.hi
  top : s.hi ≤ 1099511628776
  par : s.par = parI m o s.lo
  inn : ∀ id, s.lo ≤ id → id ≤ s.hi → inT m o id
  one : ∀ id, s.lo < id → id ≤ s.hi → parI m o id = [id - 1]
theorem okS_flat {m o : List (List Int)} : ∀ (l : List Seg) (n : Nat), okS m o n l → ∀ s ∈ l, FlatS m o s
  | [], n, h, s, hs => by simp at hs
  | a :: r, n, h, s, hs => by
    simp only [okS] at h
    obtain ⟨⟨h1, h2, h3⟩, h4, h5, h6, h7, h8⟩ := h
    rcases List.mem_cons.1 hs with rfl | hs
    · have hsp : split = 1099511627776 := rfl
      refine ⟨h1, h2, by omega, h5.symm, fun id q1 q2 => ?_, fun id q1 q2 => ?_⟩
      · obtain ⟨a, b, _⟩ := h4 (id - s.lo).toNat (by omega)
        show hasI m.length o.length id = true
        rw [← allI_hasI, show id = s.lo + ((id - s.lo).toNat : Int) by omega, ← b, List.getD_eq_getElem?_getD, List.getElem?_eq_getElem (by rw [allI_len]; exact a)]
        exact List.getElem_mem _
      · obtain ⟨_, _, c⟩ := h4 (id - s.lo).toNat (by omega)
        have c := c (by omega)
        rwa [show s.lo + ((id - s.lo).toNat : Int) = id by omega] at c
    · exact okS_flat r _ h8 s hs
structure DagOK (m o : List (List Int)) (L : List (List Seg)) : Prop where
  tok : TOK m o
  len1 : 1 ≤ L.length
  len4 : L.length ≤ 4
  oks : okS m o 0 (L.getD 0 [])
  segs : ∀ i, i < L.length → SegsOK (L.getD i [])
  okc : ∀ i, i < L.length → okC m o 0 (L.getD i []) (m.length + o.length)
  size : ∀ i, (L.getD i []).length ≤ 1000 ∧ sumP (L.getD i []) ≤ 100000
  lows : ∀ i, i < L.length → ∀ y ∈ L.getD i [], ∃ s ∈ L.getD 0 [], y.lo = s.lo
theorem UpOK.lows {size : Int} {l u : List Seg} (h : UpOK size l u) : ∀ y ∈ u, ∃ s ∈ l, y.lo = s.lo := by
  induction h with
  | nil => intro y hy; simp at hy
  | cons l u n h1 h2 h3 ih =>
    intro y hy
    obtain ⟨n1, n2, n3, n4⟩ := h1
    rcases List.mem_cons.1 hy with rfl | hy
    · refine ⟨(l.take n).getD 0 default, List.mem_of_mem_take (seg_mem (l := l.take n) (k := 0) ?_), rfl⟩
      rw [List.length_take]; omega
    · obtain ⟨s, hs, e⟩ := ih y hy
      exact ⟨s, List.mem_of_mem_drop hs, e⟩
theorem SegsOK.sorted : ∀ {l : List Seg}, SegsOK l → SortedS l
  | [], _ => trivial
  | s :: r, h => by
    have h1 := h.app (a := [s]) (b := r)
    refine ⟨?_, fun x hx => h1.2.2 s (by simp) x hx, SegsOK.sorted h1.2.1⟩
    have := okP_at h (s := s) (by simp)
    unfold okP at this
    simp only at this
    omega
theorem DagOK.of {m o : List (List Int)} (h : TOK m o) {l : List Seg} (hl : okS m o 0 l) (hn : l.length ≤ 1000) {size : Int} {L : List (List Seg)} (hL : LevOK size l L) : DagOK m o L := by
  have hsg := (okS_segs h.len _ 0 hl).1
  have hoC := okS_C h.len h.right _ 0 hl
  have hsegs := hL.segs hsg
  obtain ⟨L1, L2, L3, L4, L5⟩ := hL
  have hC : ∀ i, i < L.length → okC m o 0 (L.getD i []) (m.length + o.length) := by
    intro i
    induction i with
    | zero => intro _; rw [L3]; exact hoC
    | succ i ih => intro hi; exact (L4 i hi).1.okC h.len _ _ (hsegs i (by omega)) (ih (by omega))
  have hlow : ∀ i, i < L.length → ∀ y ∈ L.getD i [], ∃ s ∈ L.getD 0 [], y.lo = s.lo := by
    intro i
    induction i with
    | zero => intro _ y hy; exact ⟨y, hy, rfl⟩
    | succ i ih =>
      intro hi y hy
      obtain ⟨s, hs, e⟩ := (L4 i hi).1.lows y hy
      obtain ⟨q, hq, e2⟩ := ih (by omega) s hs
      exact ⟨q, hq, by rw [e, e2]⟩
  exact ⟨h, L1, L2, by rw [L3]; exact hl, hsegs, hC, L5, hlow⟩
theorem DagOK.flat {m o : List (List Int)} {L : List (List Seg)} (h : DagOK m o L) : ∀ s ∈ L.getD 0 [], FlatS m o s := okS_flat _ 0 h.oks
theorem allI_idx {a b : Nat} {x : Int} (h : x ∈ allI a b) : ∃ i, i < a + b ∧ (allI a b).getD i 0 = x := by
  obtain ⟨i, hi, e⟩ := List.getElem_of_mem h
  exact ⟨i, by rw [allI_len] at hi; exact hi, by rw [List.getD_eq_getElem?_getD, List.getElem?_eq_getElem hi]; exact e⟩
theorem DagOK.seg {m o : List (List Int)} {L : List (List Seg)} (h : DagOK m o L) {i : Nat} (hi : i < L.length) {x : Int} (hx : inT m o x) : ∃ k, k < (L.getD i []).length ∧ inS x ((L.getD i []).getD k default) ∧ fnd x (L.getD i []) 0 = ((k : Int), true) := by
  obtain ⟨j, hj, e⟩ := allI_idx ((allI_hasI _ _ _).2 hx)
  obtain ⟨s, hs, h1, h2⟩ := okC_in m o _ _ _ (h.okc i hi) j (by omega) hj
  rw [e] at h1 h2
  obtain ⟨k, hk, ek⟩ := List.getElem_of_mem hs
  have ek' : (L.getD i []).getD k default = s := by rw [List.getD_eq_getElem?_getD, List.getElem?_eq_getElem hk]; exact ek
  refine ⟨k, hk, by rw [ek']; exact ⟨h1, h2⟩, ?_⟩
  rw [fnd_yes x (L.getD i []) k 0 hk (by rw [ek']; exact ⟨h1, h2⟩) (fun j hj hin => ?_), Nat.zero_add]
  have := (h.segs i hi).sorted.at_ j k hj hk
  rw [ek'] at this
  obtain ⟨_, h4⟩ := hin
  omega
theorem DagOK.segH {m o : List (List Int)} {L : List (List Seg)} (h : DagOK m o L) {i : Nat} (hi : i < L.length) {k : Nat} (hk : k < (L.getD i []).length) : SegH m o ((L.getD i []).getD k default) := by
  have := (okC_le m o _ _ _ (h.okc i hi)).2.2
  exact this _ (seg_mem hk)
def allN (L : List (List Seg)) : List Sp.S := Sp.nf (spansOf (L.getD 0 []))
theorem allN_rt (L : List (List Seg)) : Sp.Rt 0 (allN L) := Sp.nf_rt _
theorem DagOK.allHas {m o : List (List Int)} {L : List (List Seg)} (h : DagOK m o L) (n : Int) : Sp.has (allN L) n ↔ inT m o n := by
  unfold allN
  rw [Sp.nf_has]
  constructor
  · rintro ⟨p, hp, h0, h1, h2⟩
    obtain ⟨s, hs, rfl⟩ := List.mem_map.1 hp
    exact (h.flat s hs).inn n h1 h2
  · intro hn
    obtain ⟨k, hk, hin, _⟩ := h.seg (i := 0) (by have := h.len1; omega) hn
    refine ⟨_, List.mem_map.2 ⟨(L.getD 0 []).getD k default, seg_mem hk, rfl⟩, (inT_range h.tok hn).1, hin.1, hin.2⟩
theorem DagOK.allEq {m o : List (List Int)} {L : List (List Seg)} (h : DagOK m o L) : allN L = idsP m o (fun _ => True) := idsP_eq (allN_rt L) fun n => by rw [h.allHas]; simp
theorem DagOK.allOk {m o : List (List Int)} {L : List (List Seg)} (h : DagOK m o L) : Sp.Ok (allN L) := by rw [h.allEq]; exact idsP_ok h.tok _
theorem DagOK.allLen {m o : List (List Int)} {L : List (List Seg)} (h : DagOK m o L) : (allN L).length ≤ 1000 := by rw [h.allEq]; have := idsP_len m o (fun _ => True); have := h.tok.len; omega
theorem DagOK.thereEq {m o : List (List Int)} {L : List (List Seg)} (h : DagOK m o L) (s : List Sp.S) : Sp.bothS s (allN L) = idsP m o (Sp.has s) :=
  idsP_eq (Sp.bothS_rt _ _) fun n => by rw [Sp.bothS_has, h.allHas]; exact and_comm
theorem spansOf_len (l : List Seg) : (spansOf l).length = l.length := by simp [spansOf]
theorem spansOf_take (l : List Seg) (k : Nat) (h : k < l.length) : spansOf (l.take (k + 1)) = spansOf (l.take k) ++ [((l.getD k default).lo, (l.getD k default).hi)] := by
  unfold spansOf
  rw [List.take_add_one, List.map_append]; simp [List.getD, h]
theorem rel35 (l : List Seg) (size : Int) (hl : l.length ≤ 1000) (hp : sumP l ≤ 100000) (hs : 2 ≤ size) (hok : Sp.Ok (spansOf l)) :
    GCalls Tryz.prog 32 [.slice (segsG l) .none, .int .i64 size] [] (fun g O' => ∃ st L, g = .ptr 0 st 0 0 ∧ O' = [.row st 3 [dagG L (Sp.nf (spansOf l)) 0]] ∧ LevOK size l L) := by
  refine GCalls.dropTo ?_
  refine h32.calls mixS (by simp) ?_
  simp only [gstart, s32, List.cons_append, List.nil_append, List.length_cons, List.length_nil, Nat.reduceAdd, Nat.reduceSub, List.replicate_succ, List.replicate_zero]
  simp +contextual -implicitDefEqProofs (maxSteps := 2000000) (disch := omega) only [drawC, drawK, keepT, ↓lenV, binV, ↓loadV, ↓storeV, ↓fieldAddrV, ↓indexAddrV, ↓allocV, ↓boxV, ↓buildV, ↓buildSliceV, ↓nilV, ↓appendV, ↓srcV, fillG, fillE, place, GVal.cells, grp, GVal.ofConst, ↓resV, resG, List.map, List.headD, List.take, List.drop, ↓reduceIte, Nat.reduceEqDiff, Nat.reduceAdd, Nat.reduceSub, Nat.reduceLeDiff, reduceCtorEq, implies_true, ne_eq, ↓asrcV, Tag.cap, List.replicate, allSolid, GVal.solid, Nat.reduceBEq, Nat.reduceMul, Nat.reduceLT, List.length_map, List.length_range, splice, vcA, ↓vcB, vcC, fbFz, e32]
  refine (rel21 l size hl hp hs).then ?_
  rintro g ⟨L, rfl, hL⟩
  simp +contextual -implicitDefEqProofs (maxSteps := 2000000) (disch := omega) only [drawC, drawK, keepT, ↓lenV, binV, ↓loadV, ↓storeV, ↓fieldAddrV, ↓indexAddrV, ↓allocV, ↓boxV, ↓buildV, ↓buildSliceV, ↓nilV, ↓appendV, ↓srcV, fillG, fillE, place, GVal.cells, grp, GVal.ofConst, ↓resV, resG, List.map, List.headD, List.take, List.drop, ↓reduceIte, Nat.reduceEqDiff, Nat.reduceAdd, Nat.reduceSub, Nat.reduceLeDiff, reduceCtorEq, implies_true, ne_eq, ↓asrcV, Tag.cap, List.replicate, allSolid, GVal.solid, Nat.reduceBEq, Nat.reduceMul, Nat.reduceLT, List.length_map, List.length_range, splice, vcA, ↓vcB, vcC, fbFz, e32]
  intro st
  have hsz : (spansOf l).length = l.length := spansOf_len l
  refine vcSLoop_by (ι := { p : Nat × Nat // p.1 ≤ l.length }) (fun p => ⟨[.any, .any, .any, .any, .any, .ptr 0 st 0 0, .any, .any, .any, .any, .any, .any, .any, .slice (segsG l) .none, .int .i64 l.length, .int .i64 (p.1.1 : Nat)] ++ List.replicate 27 .any, [.row st 3 [[.slice (levsG L) .none, .slice (spl (spansOf (l.take p.1.1))) (.tok 1 p.1.2), .int .i64 0]], .tok p.1.2 2]⟩) (fun p => l.length - p.1.1) ?_ ?_
  · refine Into.cellTok 0 1 2 [] (tg := .nil) rfl rfl rfl rfl ?_
    simp +contextual -implicitDefEqProofs (maxSteps := 2000000) (disch := omega) only [drawC, drawK, keepT, ↓lenV, binV, ↓loadV, ↓storeV, ↓fieldAddrV, ↓indexAddrV, ↓allocV, ↓boxV, ↓buildV, ↓buildSliceV, ↓nilV, ↓appendV, ↓srcV, fillG, fillE, place, GVal.cells, grp, GVal.ofConst, ↓resV, resG, List.map, List.headD, List.take, List.drop, ↓reduceIte, Nat.reduceEqDiff, Nat.reduceAdd, Nat.reduceSub, Nat.reduceLeDiff, reduceCtorEq, implies_true, ne_eq, ↓asrcV, Tag.cap, List.replicate, allSolid, GVal.solid, Nat.reduceBEq, Nat.reduceMul, Nat.reduceLT, List.length_map, List.length_range, splice, vcA, ↓vcB, vcC, fbFz, e32]
    intro u
    exact Into.first ⟨(0, u), by omega⟩ ⟨[], by simp [spansOf, spl]⟩ (by simp [WL, leG_self, leG_any, segsG_length])
  · rintro ⟨⟨k, u⟩, hk⟩
    change k ≤ l.length at hk
    by_cases h : k < l.length
    · have d0 : ((k : Int) < (l.length : Int)) = True := eq_true (by omega)
      have eS := segsG_at l k h
      have eN := spansOf_take l k h
      have lk : (spansOf (l.take k)).length = k := by rw [spansOf_len, List.length_take]; omega
      generalize l.getD k default = s at *
      generalize spansOf (l.take k) = A at *
      simp +contextual -implicitDefEqProofs (maxSteps := 2000000) (disch := omega) only [drawC, drawK, keepT, ↓lenV, binV, ↓loadV, ↓storeV, ↓fieldAddrV, ↓indexAddrV, ↓allocV, ↓boxV, ↓buildV, ↓buildSliceV, ↓nilV, ↓appendV, ↓srcV, fillG, fillE, place, GVal.cells, grp, GVal.ofConst, ↓resV, resG, List.map, List.headD, List.take, List.drop, ↓reduceIte, Nat.reduceEqDiff, Nat.reduceAdd, Nat.reduceSub, Nat.reduceLeDiff, reduceCtorEq, implies_true, ne_eq, ↓asrcV, Tag.cap, List.replicate, allSolid, GVal.solid, Nat.reduceBEq, Nat.reduceMul, Nat.reduceLT, List.length_map, List.length_range, splice, vcA, ↓vcB, vcC, fbFz, e32, segsG_length, d0, eS, segG, spl_length, all_spl, lk]
      refine ⟨by omega, fun st1 => ⟨by omega, by omega, fun st2 => ?_⟩⟩
      exact Into.at ⟨(k + 1, st2), by show k + 1 ≤ _; omega⟩ (by show _ < _; simp; omega) ⟨[.row st1 5 [segG s]], by simp [eN, spl_append, spl_one, spG, segG]⟩ (by simp [WL, leG_self, leG_any, leG_int])
    · have d0 : ((k : Int) < (l.length : Int)) = False := eq_false (by omega)
      have e : k = l.length := by omega
      subst e
      simp +contextual -implicitDefEqProofs (maxSteps := 2000000) (disch := omega) only [drawC, drawK, keepT, ↓lenV, binV, ↓loadV, ↓storeV, ↓fieldAddrV, ↓indexAddrV, ↓allocV, ↓boxV, ↓buildV, ↓buildSliceV, ↓nilV, ↓appendV, ↓srcV, fillG, fillE, place, GVal.cells, grp, GVal.ofConst, ↓resV, resG, List.map, List.headD, List.take, List.drop, ↓reduceIte, Nat.reduceEqDiff, Nat.reduceAdd, Nat.reduceSub, Nat.reduceLeDiff, reduceCtorEq, implies_true, ne_eq, ↓asrcV, Tag.cap, List.replicate, allSolid, GVal.solid, Nat.reduceBEq, Nat.reduceMul, Nat.reduceLT, List.length_map, List.length_range, splice, vcA, ↓vcB, vcC, fbFz, e32, segsG_length, d0, List.take_length]
      refine (sMake (spansOf l) _ (by omega) hok).then ?_ (by rfl)
      simp +contextual -implicitDefEqProofs (maxSteps := 2000000) (disch := omega) only [drawC, drawK, keepT, ↓lenV, binV, ↓loadV, ↓storeV, ↓fieldAddrV, ↓indexAddrV, ↓allocV, ↓boxV, ↓buildV, ↓buildSliceV, ↓nilV, ↓appendV, ↓srcV, fillG, fillE, place, GVal.cells, grp, GVal.ofConst, ↓resV, resG, List.map, List.headD, List.take, List.drop, ↓reduceIte, Nat.reduceEqDiff, Nat.reduceAdd, Nat.reduceSub, Nat.reduceLeDiff, reduceCtorEq, implies_true, ne_eq, ↓asrcV, Tag.cap, List.replicate, allSolid, GVal.solid, Nat.reduceBEq, Nat.reduceMul, Nat.reduceLT, List.length_map, List.length_range, splice, vcA, ↓vcB, vcC, fbFz, e32]
      exact ⟨.ptr 0 st 0 0, [.row st 3 [dagG L (Sp.nf (spansOf l)) 0]], [.tok u 2], rfl, by unfold leA; simp [leG_self], st, L, rfl, rfl, hL⟩
theorem buildI_len {m o : List (List Int)} (h : TOK m o) : (buildI m o).length ≤ 1000 := by
  have l1 := (lrun_len 0 m m.length).1
  have l2 := (lrun_len split o o.length).1
  have := h.len
  rw [buildI, if_pos h.right, List.length_append, linesI, linesI]; omega
theorem flat_par4 {m o : List (List Int)} (h : TOK m o) {s : Seg} (hs : FlatS m o s) : s.par.length ≤ 4 := by
  rw [hs.par]; exact okRow_len h.right _
theorem sumP_le4 : ∀ (l : List Seg), (∀ s ∈ l, s.par.length ≤ 4) → sumP l ≤ 4 * l.length
  | [], _ => by simp [sumP]
  | a :: l, h => by
    have := sumP_le4 l fun s hs => h s (by simp [hs])
    have := h a (by simp)
    simp only [sumP, List.length_cons]; omega
theorem okS_ok {m o : List (List Int)} {l : List Seg} (h : okS m o 0 l) : Sp.Ok (spansOf l) := fun p hp => by
  obtain ⟨s, hs, rfl⟩ := List.mem_map.1 hp
  have f := okS_flat l 0 h s hs
  have := f.lo
  have := f.le
  have := f.top
  simp only
  omega
theorem aOver {m o : List (List Int)} (h : TOK m o) {l : List Seg} (hl : okS m o 0 l) (hn : l.length ≤ 1000) (size : Int) (hs : 2 ≤ size) :
    GCalls Tryz.prog 32 [.slice (segsG l) .none, .int .i64 size] [] (fun g O' => ∃ st L, g = .ptr 0 st 0 0 ∧ O' = [.row st 3 [dagG L (allN L) 0]] ∧ DagOK m o L ∧ LevOK size l L) := by
  have hp : sumP l ≤ 100000 := by
    have := sumP_le4 l fun s hs => flat_par4 h (okS_flat l 0 hl s hs)
    omega
  refine (rel35 l size hn hp hs (okS_ok hl)).mono ?_
  rintro g O' ⟨st, L, rfl, rfl, hL⟩
  have e : L.getD 0 [] = l := hL.2.2.1
  exact ⟨st, L, rfl, by rw [allN, e], .of h hl hn hL, hL⟩
theorem aNew {m o : List (List Int)} (h : TOK m o) (tm to : Tag) (size : Int) (hs : 2 ≤ size) :
    GCalls Tryz.prog 6 [.agg [.slice (tabG m) tm, .slice (tabG o) to], .int .i64 size] [] (fun g O' => ∃ st L, g = .ptr 0 st 0 0 ∧ O' = [.row st 3 [dagG L (allN L) 0]] ∧ DagOK m o L ∧ LevOK size (buildI m o) L) := by
  have hl := h.len
  have hm4 : ∀ p ∈ m, p.length ≤ 17592186044416 := fun p hp => by
    have hr := h.right; rw [rightI, Bool.and_eq_true] at hr; have := okG_row hr.1 p hp; omega
  have ho4 : ∀ p ∈ o, p.length ≤ 17592186044416 := fun p hp => by
    have hr := h.right; rw [rightI, Bool.and_eq_true] at hr; have := okG_row hr.2 p hp; omega
  have hoS := build_okS m o (by omega) (by omega) h.right
  have c34 := spec34 m o tm to (by omega) (by omega) hm4 ho4
  rw [h.right] at c34
  refine h6.calls mixS (by simp) ?_
  simp only [gstart, s6, List.cons_append, List.nil_append, List.length_cons, List.length_nil, Nat.reduceAdd, Nat.reduceSub, List.replicate_succ, List.replicate_zero]
  simp +contextual -implicitDefEqProofs (maxSteps := 2000000) (disch := omega) only [binV, ↓unV, ↓loadV, ↓boxV, GVal.cells, grp, GVal.ofConst, ↓resV, resG, List.map, List.headD, List.take, List.drop, ↓reduceIte, Nat.reduceEqDiff, Nat.reduceAdd, Nat.reduceSub, Nat.reduceLeDiff, reduceCtorEq, implies_true, ne_eq, Tag.cap, List.replicate, allSolid, GVal.solid, Nat.reduceBEq, Nat.reduceMul, Nat.reduceLT, List.length_map, List.length_range, splice, vcA, ↓vcB, vcC, fbFz, e6]
  refine c34.then ?_ (by rfl)
  have d0 : (size < 2) = False := eq_false (by omega)
  simp +contextual -implicitDefEqProofs (maxSteps := 2000000) (disch := omega) only [binV, ↓unV, ↓loadV, ↓boxV, GVal.cells, grp, GVal.ofConst, ↓resV, resG, List.map, List.headD, List.take, List.drop, ↓reduceIte, Nat.reduceEqDiff, Nat.reduceAdd, Nat.reduceSub, Nat.reduceLeDiff, reduceCtorEq, implies_true, ne_eq, Tag.cap, List.replicate, allSolid, GVal.solid, Nat.reduceBEq, Nat.reduceMul, Nat.reduceLT, List.length_map, List.length_range, splice, vcA, ↓vcB, vcC, fbFz, e6, d0]
  refine (spec12 m o tm to (by omega) (by omega) hm4 ho4).then ?_ (by rfl)
  simp +contextual -implicitDefEqProofs (maxSteps := 2000000) (disch := omega) only [binV, ↓unV, ↓loadV, ↓boxV, GVal.cells, grp, GVal.ofConst, ↓resV, resG, List.map, List.headD, List.take, List.drop, ↓reduceIte, Nat.reduceEqDiff, Nat.reduceAdd, Nat.reduceSub, Nat.reduceLeDiff, reduceCtorEq, implies_true, ne_eq, Tag.cap, List.replicate, allSolid, GVal.solid, Nat.reduceBEq, Nat.reduceMul, Nat.reduceLT, List.length_map, List.length_range, splice, vcA, ↓vcB, vcC, fbFz, e6, d0]
  refine (aOver h hoS (buildI_len h) size hs).mono ?_
  rintro g O' ⟨st, L, rfl, rfl, h1, h2⟩
  simp +contextual -implicitDefEqProofs (maxSteps := 2000000) (disch := omega) only [binV, ↓unV, ↓loadV, ↓boxV, GVal.cells, grp, GVal.ofConst, ↓resV, resG, List.map, List.headD, List.take, List.drop, ↓reduceIte, Nat.reduceEqDiff, Nat.reduceAdd, Nat.reduceSub, Nat.reduceLeDiff, reduceCtorEq, implies_true, ne_eq, Tag.cap, List.replicate, allSolid, GVal.solid, Nat.reduceBEq, Nat.reduceMul, Nat.reduceLT, List.length_map, List.length_range, splice, vcA, ↓vcB, vcC, fbFz, e6]
  exact ⟨st, L, rfl, rfl, h1, h2⟩
end Gv.Tryz
