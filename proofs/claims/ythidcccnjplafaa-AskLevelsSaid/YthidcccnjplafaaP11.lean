/- Contracts: the reference's levels. -/
import Derived.Test.YthidcccnjplafaaP10
set_option linter.unusedVariables false
set_option linter.unusedSimpArgs false
set_option maxRecDepth 20000
set_option maxHeartbeats 8000000
namespace Gv.Try
open Go Gv Go.Proofs
theorem segs_cut (l : List Seg) (i k : Nat) : (List.take (i + k) (segsG l)).drop i = segsG ((l.drop i).take k) := by
  rw [← segsG_take, ← segsG_drop, List.drop_take, Nat.add_sub_cancel_left]
theorem segs_cut2 (l : List Seg) (i k : Nat) : (l.take (i + k)).drop i = (l.drop i).take k := by
  rw [List.drop_take, Nat.add_sub_cancel_left]
theorem jl_le (lo : Int) (l : List Seg) (i k : Nat) (hp : sumP l ≤ 100000) : (jall lo ((l.drop i).take k)).length ≤ 100000 := by
  have := jall_len lo (l.drop i) k
  have := sumP_take (l.drop i) k
  have := sumP_drop l i
  omega
theorem joinI_cut (l : List Seg) (i n : Nat) (h1 : 1 ≤ n) (h2 : n ≤ (l.drop i).length) : joinI ((l.drop i).take n) = ⟨(l.getD i default).lo, (l.getD (i + n - 1) default).hi, jall (l.getD i default).lo ((l.drop i).take n), anyR ((l.drop i).take n), (l.getD (i + n - 1) default).head⟩ := by
  have hl : ((l.drop i).take n).length = n := by rw [List.length_take]; omega
  have e0 : ((l.drop i).take n).getD 0 default = l.getD i default := by
    rw [List.getD_eq_getElem?_getD, List.getElem?_take_of_lt (by omega), List.getElem?_drop, List.getD_eq_getElem?_getD]; rfl
  have e1 : ((l.drop i).take n).getD (n - 1) default = l.getD (i + n - 1) default := by
    rw [List.getD_eq_getElem?_getD, List.getElem?_take_of_lt (by omega), List.getElem?_drop, List.getD_eq_getElem?_getD, show i + (n - 1) = i + n - 1 by omega]
  unfold joinI
  rw [hl, e0, e1]
theorem vcSLoop_weak {P : Program} {R : List Nat} {a : SCode} {Q : Ex → GSt → Prop} {s s' : List GVal} {O : List GObj} (h : vcSLoop P R a Q ⟨s', O⟩) (hw : WL s s') : vcSLoop P R a Q ⟨s, O⟩ := by
  obtain ⟨ι, I, μ, h0, h1⟩ := h
  exact ⟨ι, I, μ, fun E w x hs ha => h0 E w x hs (ha.weak hw), h1⟩
theorem Into.mono {st : GSt} {N N' : GSt → Prop} (h : Into st N) (hn : ∀ s, N s → N' s) : Into st N' := fun E a w hs ha => by
  obtain ⟨st', E', q, r⟩ := h E a w hs ha
  exact ⟨st', E', hn _ q, r⟩
theorem upRest (l : List Seg) (size : Int) (hl : l.length ≤ 1000) (hp : sumP l ≤ 100000) (out : List Seg) (i v run st : Nat) (h3 : out.length ≤ i) (hi : i < l.length) (r1 : 1 ≤ run) (hrD : run ≤ (l.drop i).length) (lo : Int) (la : Seg)
    (eJ : joinI ((l.drop i).take run) = ⟨lo, la.hi, jall lo ((l.drop i).take run), anyR ((l.drop i).take run), la.head⟩) (jl : ∀ k2, (jall lo ((l.drop i).take k2)).length ≤ 100000) (Qx : Ex → GSt → Prop)
    (hQ : ∀ st', Into st' (fun s => ∃ w : Nat, s = ⟨[.slice (segsG l) .none, .int .i64 size, .any, .any, .any, .slice (segsG (out ++ [joinI ((l.drop i).take run)])) (.tok 0 w), .int .i64 ((i : Int) + (run : Nat))] ++ List.replicate 135 .any, [.tok w 5]⟩) → Qx .normal st') :
    vcSLoop Try.prog [] (.seq s46_20 s46_33) (blockQ 4 (thenQ (vcS Try.prog [] (.seq s46_35 s46_36) Qx) Qx)) ⟨[.slice (segsG l) .none, .int .i64 size, .any, .any, .any, .slice (segsG out) (.tok 0 v), .int .i64 (i : Nat), .int .i64 (run : Nat), .any, .ptr 1 st 0 0, .int .i64 (i : Nat)] ++ List.replicate 131 .any, [.tok v 5, .row st 5 [[.int .i64 lo, .int .i64 la.hi, .slice [] .nil, .bool false, .bool la.head]]]⟩ := by
  skip
  have hrl : run ≤ l.length - i := by rw [List.length_drop] at hrD; exact hrD
  have hil : ((i : Int) < (l.length : Int)) := by omega
  refine vcSLoop_by (ι := { p : Nat × Nat // p.1 ≤ run }) (fun p => ⟨[.slice (segsG l) .none, .int .i64 size, .any, .any, .any, .slice (segsG out) (.tok 0 v), .int .i64 (i : Nat), .int .i64 (run : Nat), .any, .ptr 1 st 0 0, .int .i64 ((i : Int) + (p.1.1 : Nat))] ++ List.replicate 131 .any, [.tok v 5, .row st 5 [[.int .i64 lo, .int .i64 la.hi, .slice (ints (jall lo ((l.drop i).take p.1.1))) (.tok 2 p.1.2), .bool (anyR ((l.drop i).take p.1.1)), .bool la.head]], .tok p.1.2 1]⟩) (fun p => run - p.1.1) ?_ ?_
  · refine Into.cellTok 1 2 1 [] (tg := .nil) rfl rfl rfl rfl ?_
    simp +contextual -implicitDefEqProofs (maxSteps := 2000000) (disch := omega) only [drawC, ↓lenV, binV, ↓unV, optV, ↓loadV, ↓storeV, ↓fieldAddrV, ↓indexAddrV, ↓allocV, ↓buildV, ↓buildSliceV, ↓sliceV, ↓appendV, ↓srcV, bound, cutTag, hiTag, fillG, fillE, place, GVal.cells, grp, GVal.ofConst, ↓resV, resG, List.map, List.headD, List.take, List.drop, ↓reduceIte, Nat.reduceEqDiff, Nat.reduceAdd, Nat.reduceSub, Nat.reduceLeDiff, reduceCtorEq, implies_true, ne_eq, ↓asrcV, aggV, Tag.cap, List.replicate, allSolid, GVal.solid, Nat.reduceBEq, Nat.reduceMul, Nat.reduceLT, List.length_map, List.length_range, splice, vcA, ↓vcB, vcC, fbFf, e46, List.set_cons_succ, List.set_cons_zero]
    intro u
    exact Into.first ⟨(0, u), Nat.zero_le _⟩ ⟨[], by simp [jall, anyR, ints]⟩ (by simp [WL, leG_self, leG_any])
  · rintro ⟨⟨k2, u⟩, hk2⟩
    change k2 ≤ run at hk2
    by_cases hkr : k2 < run
    · have d1 : ((i : Int) + (k2 : Int) < (i : Int) + (run : Int)) = True := eq_true (by omega)
      have hlD : k2 < (l.drop i).length := by omega
      have eR := anyR_take (l.drop i) k2 hlD
      have eJ2 := jall_take lo (l.drop i) k2 hlD
      rw [getD_drop'] at eR eJ2
      have hik : i + k2 < l.length := by omega
      have hT3 : ((i : Int) + (k2 : Int)).toNat = i + k2 := by omega
      have eS := segsG_at l (i + k2) hik
      have hps := sumP_at l (i + k2)
      have jl1 := jl k2
      generalize l.getD (i + k2) default = x at *
      generalize jall lo ((l.drop i).take k2) = J0 at *
      have jl2 : ∀ j, (jpar lo J0 (x.par.take j)).length ≤ 1000000 := fun j => by
        have h1 := jpar_len lo (x.par.take j) J0
        have h2 : (x.par.take j).length ≤ x.par.length := by rw [List.length_take]; omega
        omega
      have inner : ∀ (n0 n1 : Bool), True := fun _ _ => trivial
      cases hb : anyR ((l.drop i).take k2)
      · rw [hb, Bool.false_or] at eR
        simp +contextual -implicitDefEqProofs (maxSteps := 2000000) (disch := omega) only [drawC, ↓lenV, binV, ↓unV, optV, ↓loadV, ↓storeV, ↓fieldAddrV, ↓indexAddrV, ↓allocV, ↓buildV, ↓buildSliceV, ↓sliceV, ↓appendV, ↓srcV, bound, cutTag, hiTag, fillG, fillE, place, GVal.cells, grp, GVal.ofConst, ↓resV, resG, List.map, List.headD, List.take, List.drop, ↓reduceIte, Nat.reduceEqDiff, Nat.reduceAdd, Nat.reduceSub, Nat.reduceLeDiff, reduceCtorEq, implies_true, ne_eq, ↓asrcV, aggV, Tag.cap, List.replicate, allSolid, GVal.solid, Nat.reduceBEq, Nat.reduceMul, Nat.reduceLT, List.length_map, List.length_range, splice, vcA, ↓vcB, vcC, fbFf, e46, segsG_length, d1, hT3, eS, segG, hb, List.set_cons_succ, List.set_cons_zero]
        refine ⟨by omega, by omega, ?_⟩
        refine vcSLoop_by (ι := { p : Nat × Nat // p.1 ≤ x.par.length }) (fun p => ⟨[.slice (segsG l) .none, .int .i64 size, .any, .any, .any, .slice (segsG out) (.tok 0 v), .int .i64 (i : Nat), .int .i64 (run : Nat), .any, .ptr 1 st 0 0, .int .i64 ((i : Int) + (k2 : Nat)), .int .i64 (p.1.1 : Nat)] ++ List.replicate 130 .any, [.tok v 5, .row st 5 [[.int .i64 lo, .int .i64 la.hi, .slice (ints (jpar lo J0 (x.par.take p.1.1))) (.tok 2 p.1.2), .bool (anyR ((l.drop i).take (k2 + 1))), .bool la.head]], .tok p.1.2 1]⟩) (fun p => x.par.length - p.1.1) ?_ ?_
        · exact Into.first ⟨(0, u), Nat.zero_le _⟩ ⟨[], by simp [jpar, eR]⟩ (by simp [WL, leG_self, leG_any])
        · rintro ⟨⟨j, w⟩, hj⟩
          change j ≤ x.par.length at hj
          by_cases hjl : j < x.par.length
          · have d2 : ((j : Int) < (x.par.length : Int)) = True := eq_true (by omega)
            have eT := jpar_take lo J0 x.par j hjl
            have jl3 := jl2 j
            have c62 := spec62 (jpar lo J0 (x.par.take j)) (.tok 2 w) (x.par.getD j 0) (by omega)
            by_cases hlt : x.par.getD j 0 < lo
            · have d3 : (x.par.getD j 0 < lo) = True := eq_true hlt
              by_cases hm : x.par.getD j 0 ∈ jpar lo J0 (x.par.take j)
              · rw [decide_eq_true hm] at c62
                rw [if_neg (fun h => h.2 hm)] at eT
                simp +contextual -implicitDefEqProofs (maxSteps := 2000000) (disch := omega) only [drawC, ↓lenV, binV, ↓unV, optV, ↓loadV, ↓storeV, ↓fieldAddrV, ↓indexAddrV, ↓allocV, ↓buildV, ↓buildSliceV, ↓sliceV, ↓appendV, ↓srcV, bound, cutTag, hiTag, fillG, fillE, place, GVal.cells, grp, GVal.ofConst, ↓resV, resG, List.map, List.headD, List.take, List.drop, ↓reduceIte, Nat.reduceEqDiff, Nat.reduceAdd, Nat.reduceSub, Nat.reduceLeDiff, reduceCtorEq, implies_true, ne_eq, ↓asrcV, aggV, Tag.cap, List.replicate, allSolid, GVal.solid, Nat.reduceBEq, Nat.reduceMul, Nat.reduceLT, List.length_map, List.length_range, splice, vcA, ↓vcB, vcC, fbFf, e46, segsG_length, d2, d3, hT3, eS, segG, Int.toNat_zero, List.set_cons_succ, List.set_cons_zero]
                refine ⟨by omega, by omega, by omega, by omega, by omega, c62.then ?_⟩
                simp +contextual -implicitDefEqProofs (maxSteps := 2000000) (disch := omega) only [drawC, ↓lenV, binV, ↓unV, optV, ↓loadV, ↓storeV, ↓fieldAddrV, ↓indexAddrV, ↓allocV, ↓buildV, ↓buildSliceV, ↓sliceV, ↓appendV, ↓srcV, bound, cutTag, hiTag, fillG, fillE, place, GVal.cells, grp, GVal.ofConst, ↓resV, resG, List.map, List.headD, List.take, List.drop, ↓reduceIte, Nat.reduceEqDiff, Nat.reduceAdd, Nat.reduceSub, Nat.reduceLeDiff, reduceCtorEq, implies_true, ne_eq, ↓asrcV, aggV, Tag.cap, List.replicate, allSolid, GVal.solid, Nat.reduceBEq, Nat.reduceMul, Nat.reduceLT, List.length_map, List.length_range, splice, vcA, ↓vcB, vcC, fbFf, e46, segsG_length, d2, d3, hT3, eS, segG, Int.toNat_zero, List.set_cons_succ, List.set_cons_zero]
                exact Into.at ⟨(j + 1, w), by show j + 1 ≤ _; omega⟩ (by show x.par.length - (j + 1) < x.par.length - j; omega) ⟨[], by simp only [eT, List.append_nil]⟩ (by simp [WL, leG_self, leG_any, leG_int])
              · rw [decide_eq_false hm] at c62
                rw [if_pos ⟨hlt, hm⟩] at eT
                simp +contextual -implicitDefEqProofs (maxSteps := 2000000) (disch := omega) only [drawC, ↓lenV, binV, ↓unV, optV, ↓loadV, ↓storeV, ↓fieldAddrV, ↓indexAddrV, ↓allocV, ↓buildV, ↓buildSliceV, ↓sliceV, ↓appendV, ↓srcV, bound, cutTag, hiTag, fillG, fillE, place, GVal.cells, grp, GVal.ofConst, ↓resV, resG, List.map, List.headD, List.take, List.drop, ↓reduceIte, Nat.reduceEqDiff, Nat.reduceAdd, Nat.reduceSub, Nat.reduceLeDiff, reduceCtorEq, implies_true, ne_eq, ↓asrcV, aggV, Tag.cap, List.replicate, allSolid, GVal.solid, Nat.reduceBEq, Nat.reduceMul, Nat.reduceLT, List.length_map, List.length_range, splice, vcA, ↓vcB, vcC, fbFf, e46, segsG_length, d2, d3, hT3, eS, segG, Int.toNat_zero, List.set_cons_succ, List.set_cons_zero]
                refine ⟨by omega, by omega, by omega, by omega, by omega, c62.then ?_⟩
                simp +contextual -implicitDefEqProofs (maxSteps := 2000000) (disch := omega) only [drawC, ↓lenV, binV, ↓unV, optV, ↓loadV, ↓storeV, ↓fieldAddrV, ↓indexAddrV, ↓allocV, ↓buildV, ↓buildSliceV, ↓sliceV, ↓appendV, ↓srcV, bound, cutTag, hiTag, fillG, fillE, place, GVal.cells, grp, GVal.ofConst, ↓resV, resG, List.map, List.headD, List.take, List.drop, ↓reduceIte, Nat.reduceEqDiff, Nat.reduceAdd, Nat.reduceSub, Nat.reduceLeDiff, reduceCtorEq, implies_true, ne_eq, ↓asrcV, aggV, Tag.cap, List.replicate, allSolid, GVal.solid, Nat.reduceBEq, Nat.reduceMul, Nat.reduceLT, List.length_map, List.length_range, splice, vcA, ↓vcB, vcC, fbFf, e46, segsG_length, d2, d3, hT3, eS, segG, Int.toNat_zero, List.set_cons_succ, List.set_cons_zero]
                refine ⟨by omega, by omega, fun w2 => ?_⟩
                exact Into.at ⟨(j + 1, w2), by show j + 1 ≤ _; omega⟩ (by show x.par.length - (j + 1) < x.par.length - j; omega) ⟨[], by simp only [eT, List.append_nil, ints_append, ints_one]⟩ (by simp [WL, leG_self, leG_any, leG_int])
            · have d3 : (x.par.getD j 0 < lo) = False := eq_false hlt
              rw [if_neg (fun h => hlt h.1)] at eT
              simp +contextual -implicitDefEqProofs (maxSteps := 2000000) (disch := omega) only [drawC, ↓lenV, binV, ↓unV, optV, ↓loadV, ↓storeV, ↓fieldAddrV, ↓indexAddrV, ↓allocV, ↓buildV, ↓buildSliceV, ↓sliceV, ↓appendV, ↓srcV, bound, cutTag, hiTag, fillG, fillE, place, GVal.cells, grp, GVal.ofConst, ↓resV, resG, List.map, List.headD, List.take, List.drop, ↓reduceIte, Nat.reduceEqDiff, Nat.reduceAdd, Nat.reduceSub, Nat.reduceLeDiff, reduceCtorEq, implies_true, ne_eq, ↓asrcV, aggV, Tag.cap, List.replicate, allSolid, GVal.solid, Nat.reduceBEq, Nat.reduceMul, Nat.reduceLT, List.length_map, List.length_range, splice, vcA, ↓vcB, vcC, fbFf, e46, segsG_length, d2, d3, hT3, eS, segG, Int.toNat_zero, List.set_cons_succ, List.set_cons_zero]
              refine ⟨by omega, by omega, by omega, by omega, by omega, ?_⟩
              exact Into.at ⟨(j + 1, w), by show j + 1 ≤ _; omega⟩ (by show x.par.length - (j + 1) < x.par.length - j; omega) ⟨[], by simp only [eT, List.append_nil]⟩ (by simp [WL, leG_self, leG_any, leG_int])
          · have d2 : ((j : Int) < (x.par.length : Int)) = False := eq_false (by omega)
            rw [List.take_of_length_le (i := j) (l := x.par) (by omega)]
            simp +contextual -implicitDefEqProofs (maxSteps := 2000000) (disch := omega) only [drawC, ↓lenV, binV, ↓unV, optV, ↓loadV, ↓storeV, ↓fieldAddrV, ↓indexAddrV, ↓allocV, ↓buildV, ↓buildSliceV, ↓sliceV, ↓appendV, ↓srcV, bound, cutTag, hiTag, fillG, fillE, place, GVal.cells, grp, GVal.ofConst, ↓resV, resG, List.map, List.headD, List.take, List.drop, ↓reduceIte, Nat.reduceEqDiff, Nat.reduceAdd, Nat.reduceSub, Nat.reduceLeDiff, reduceCtorEq, implies_true, ne_eq, ↓asrcV, aggV, Tag.cap, List.replicate, allSolid, GVal.solid, Nat.reduceBEq, Nat.reduceMul, Nat.reduceLT, List.length_map, List.length_range, splice, vcA, ↓vcB, vcC, fbFf, e46, segsG_length, d2, hT3, eS, segG, Int.toNat_zero, List.set_cons_succ, List.set_cons_zero]
            refine ⟨by omega, by omega, ?_⟩
            exact Into.at ⟨(k2 + 1, w), by show k2 + 1 ≤ run; omega⟩ (by show run - (k2 + 1) < run - k2; omega) ⟨[], by simp only [eJ2, List.append_nil]⟩ (by simp [WL, leG_self, leG_any, leG_int] <;> omega)
      · rw [hb, Bool.true_or] at eR
        simp +contextual -implicitDefEqProofs (maxSteps := 2000000) (disch := omega) only [drawC, ↓lenV, binV, ↓unV, optV, ↓loadV, ↓storeV, ↓fieldAddrV, ↓indexAddrV, ↓allocV, ↓buildV, ↓buildSliceV, ↓sliceV, ↓appendV, ↓srcV, bound, cutTag, hiTag, fillG, fillE, place, GVal.cells, grp, GVal.ofConst, ↓resV, resG, List.map, List.headD, List.take, List.drop, ↓reduceIte, Nat.reduceEqDiff, Nat.reduceAdd, Nat.reduceSub, Nat.reduceLeDiff, reduceCtorEq, implies_true, ne_eq, ↓asrcV, aggV, Tag.cap, List.replicate, allSolid, GVal.solid, Nat.reduceBEq, Nat.reduceMul, Nat.reduceLT, List.length_map, List.length_range, splice, vcA, ↓vcB, vcC, fbFf, e46, segsG_length, d1, hT3, eS, segG, hb, List.set_cons_succ, List.set_cons_zero]
        refine vcSLoop_by (ι := { p : Nat × Nat // p.1 ≤ x.par.length }) (fun p => ⟨[.slice (segsG l) .none, .int .i64 size, .any, .any, .any, .slice (segsG out) (.tok 0 v), .int .i64 (i : Nat), .int .i64 (run : Nat), .any, .ptr 1 st 0 0, .int .i64 ((i : Int) + (k2 : Nat)), .int .i64 (p.1.1 : Nat)] ++ List.replicate 130 .any, [.tok v 5, .row st 5 [[.int .i64 lo, .int .i64 la.hi, .slice (ints (jpar lo J0 (x.par.take p.1.1))) (.tok 2 p.1.2), .bool (anyR ((l.drop i).take (k2 + 1))), .bool la.head]], .tok p.1.2 1]⟩) (fun p => x.par.length - p.1.1) ?_ ?_
        · exact Into.first ⟨(0, u), Nat.zero_le _⟩ ⟨[], by simp [jpar, eR]⟩ (by simp [WL, leG_self, leG_any])
        · rintro ⟨⟨j, w⟩, hj⟩
          change j ≤ x.par.length at hj
          by_cases hjl : j < x.par.length
          · have d2 : ((j : Int) < (x.par.length : Int)) = True := eq_true (by omega)
            have eT := jpar_take lo J0 x.par j hjl
            have jl3 := jl2 j
            have c62 := spec62 (jpar lo J0 (x.par.take j)) (.tok 2 w) (x.par.getD j 0) (by omega)
            by_cases hlt : x.par.getD j 0 < lo
            · have d3 : (x.par.getD j 0 < lo) = True := eq_true hlt
              by_cases hm : x.par.getD j 0 ∈ jpar lo J0 (x.par.take j)
              · rw [decide_eq_true hm] at c62
                rw [if_neg (fun h => h.2 hm)] at eT
                simp +contextual -implicitDefEqProofs (maxSteps := 2000000) (disch := omega) only [drawC, ↓lenV, binV, ↓unV, optV, ↓loadV, ↓storeV, ↓fieldAddrV, ↓indexAddrV, ↓allocV, ↓buildV, ↓buildSliceV, ↓sliceV, ↓appendV, ↓srcV, bound, cutTag, hiTag, fillG, fillE, place, GVal.cells, grp, GVal.ofConst, ↓resV, resG, List.map, List.headD, List.take, List.drop, ↓reduceIte, Nat.reduceEqDiff, Nat.reduceAdd, Nat.reduceSub, Nat.reduceLeDiff, reduceCtorEq, implies_true, ne_eq, ↓asrcV, aggV, Tag.cap, List.replicate, allSolid, GVal.solid, Nat.reduceBEq, Nat.reduceMul, Nat.reduceLT, List.length_map, List.length_range, splice, vcA, ↓vcB, vcC, fbFf, e46, segsG_length, d2, d3, hT3, eS, segG, Int.toNat_zero, List.set_cons_succ, List.set_cons_zero]
                refine ⟨by omega, by omega, by omega, by omega, by omega, c62.then ?_⟩
                simp +contextual -implicitDefEqProofs (maxSteps := 2000000) (disch := omega) only [drawC, ↓lenV, binV, ↓unV, optV, ↓loadV, ↓storeV, ↓fieldAddrV, ↓indexAddrV, ↓allocV, ↓buildV, ↓buildSliceV, ↓sliceV, ↓appendV, ↓srcV, bound, cutTag, hiTag, fillG, fillE, place, GVal.cells, grp, GVal.ofConst, ↓resV, resG, List.map, List.headD, List.take, List.drop, ↓reduceIte, Nat.reduceEqDiff, Nat.reduceAdd, Nat.reduceSub, Nat.reduceLeDiff, reduceCtorEq, implies_true, ne_eq, ↓asrcV, aggV, Tag.cap, List.replicate, allSolid, GVal.solid, Nat.reduceBEq, Nat.reduceMul, Nat.reduceLT, List.length_map, List.length_range, splice, vcA, ↓vcB, vcC, fbFf, e46, segsG_length, d2, d3, hT3, eS, segG, Int.toNat_zero, List.set_cons_succ, List.set_cons_zero]
                exact Into.at ⟨(j + 1, w), by show j + 1 ≤ _; omega⟩ (by show x.par.length - (j + 1) < x.par.length - j; omega) ⟨[], by simp only [eT, List.append_nil]⟩ (by simp [WL, leG_self, leG_any, leG_int])
              · rw [decide_eq_false hm] at c62
                rw [if_pos ⟨hlt, hm⟩] at eT
                simp +contextual -implicitDefEqProofs (maxSteps := 2000000) (disch := omega) only [drawC, ↓lenV, binV, ↓unV, optV, ↓loadV, ↓storeV, ↓fieldAddrV, ↓indexAddrV, ↓allocV, ↓buildV, ↓buildSliceV, ↓sliceV, ↓appendV, ↓srcV, bound, cutTag, hiTag, fillG, fillE, place, GVal.cells, grp, GVal.ofConst, ↓resV, resG, List.map, List.headD, List.take, List.drop, ↓reduceIte, Nat.reduceEqDiff, Nat.reduceAdd, Nat.reduceSub, Nat.reduceLeDiff, reduceCtorEq, implies_true, ne_eq, ↓asrcV, aggV, Tag.cap, List.replicate, allSolid, GVal.solid, Nat.reduceBEq, Nat.reduceMul, Nat.reduceLT, List.length_map, List.length_range, splice, vcA, ↓vcB, vcC, fbFf, e46, segsG_length, d2, d3, hT3, eS, segG, Int.toNat_zero, List.set_cons_succ, List.set_cons_zero]
                refine ⟨by omega, by omega, by omega, by omega, by omega, c62.then ?_⟩
                simp +contextual -implicitDefEqProofs (maxSteps := 2000000) (disch := omega) only [drawC, ↓lenV, binV, ↓unV, optV, ↓loadV, ↓storeV, ↓fieldAddrV, ↓indexAddrV, ↓allocV, ↓buildV, ↓buildSliceV, ↓sliceV, ↓appendV, ↓srcV, bound, cutTag, hiTag, fillG, fillE, place, GVal.cells, grp, GVal.ofConst, ↓resV, resG, List.map, List.headD, List.take, List.drop, ↓reduceIte, Nat.reduceEqDiff, Nat.reduceAdd, Nat.reduceSub, Nat.reduceLeDiff, reduceCtorEq, implies_true, ne_eq, ↓asrcV, aggV, Tag.cap, List.replicate, allSolid, GVal.solid, Nat.reduceBEq, Nat.reduceMul, Nat.reduceLT, List.length_map, List.length_range, splice, vcA, ↓vcB, vcC, fbFf, e46, segsG_length, d2, d3, hT3, eS, segG, Int.toNat_zero, List.set_cons_succ, List.set_cons_zero]
                refine ⟨by omega, by omega, fun w2 => ?_⟩
                exact Into.at ⟨(j + 1, w2), by show j + 1 ≤ _; omega⟩ (by show x.par.length - (j + 1) < x.par.length - j; omega) ⟨[], by simp only [eT, List.append_nil, ints_append, ints_one]⟩ (by simp [WL, leG_self, leG_any, leG_int])
            · have d3 : (x.par.getD j 0 < lo) = False := eq_false hlt
              rw [if_neg (fun h => hlt h.1)] at eT
              simp +contextual -implicitDefEqProofs (maxSteps := 2000000) (disch := omega) only [drawC, ↓lenV, binV, ↓unV, optV, ↓loadV, ↓storeV, ↓fieldAddrV, ↓indexAddrV, ↓allocV, ↓buildV, ↓buildSliceV, ↓sliceV, ↓appendV, ↓srcV, bound, cutTag, hiTag, fillG, fillE, place, GVal.cells, grp, GVal.ofConst, ↓resV, resG, List.map, List.headD, List.take, List.drop, ↓reduceIte, Nat.reduceEqDiff, Nat.reduceAdd, Nat.reduceSub, Nat.reduceLeDiff, reduceCtorEq, implies_true, ne_eq, ↓asrcV, aggV, Tag.cap, List.replicate, allSolid, GVal.solid, Nat.reduceBEq, Nat.reduceMul, Nat.reduceLT, List.length_map, List.length_range, splice, vcA, ↓vcB, vcC, fbFf, e46, segsG_length, d2, d3, hT3, eS, segG, Int.toNat_zero, List.set_cons_succ, List.set_cons_zero]
              refine ⟨by omega, by omega, by omega, by omega, by omega, ?_⟩
              exact Into.at ⟨(j + 1, w), by show j + 1 ≤ _; omega⟩ (by show x.par.length - (j + 1) < x.par.length - j; omega) ⟨[], by simp only [eT, List.append_nil]⟩ (by simp [WL, leG_self, leG_any, leG_int])
          · have d2 : ((j : Int) < (x.par.length : Int)) = False := eq_false (by omega)
            rw [List.take_of_length_le (i := j) (l := x.par) (by omega)]
            simp +contextual -implicitDefEqProofs (maxSteps := 2000000) (disch := omega) only [drawC, ↓lenV, binV, ↓unV, optV, ↓loadV, ↓storeV, ↓fieldAddrV, ↓indexAddrV, ↓allocV, ↓buildV, ↓buildSliceV, ↓sliceV, ↓appendV, ↓srcV, bound, cutTag, hiTag, fillG, fillE, place, GVal.cells, grp, GVal.ofConst, ↓resV, resG, List.map, List.headD, List.take, List.drop, ↓reduceIte, Nat.reduceEqDiff, Nat.reduceAdd, Nat.reduceSub, Nat.reduceLeDiff, reduceCtorEq, implies_true, ne_eq, ↓asrcV, aggV, Tag.cap, List.replicate, allSolid, GVal.solid, Nat.reduceBEq, Nat.reduceMul, Nat.reduceLT, List.length_map, List.length_range, splice, vcA, ↓vcB, vcC, fbFf, e46, segsG_length, d2, hT3, eS, segG, Int.toNat_zero, List.set_cons_succ, List.set_cons_zero]
            refine ⟨by omega, by omega, ?_⟩
            exact Into.at ⟨(k2 + 1, w), by show k2 + 1 ≤ run; omega⟩ (by show run - (k2 + 1) < run - k2; omega) ⟨[], by simp only [eJ2, List.append_nil]⟩ (by simp [WL, leG_self, leG_any, leG_int] <;> omega)
    · have d1 : ((i : Int) + (k2 : Int) < (i : Int) + (run : Int)) = False := eq_false (by omega)
      obtain rfl : k2 = run := by omega
      simp +contextual -implicitDefEqProofs (maxSteps := 2000000) (disch := omega) only [drawC, ↓lenV, binV, ↓unV, optV, ↓loadV, ↓storeV, ↓fieldAddrV, ↓indexAddrV, ↓allocV, ↓buildV, ↓buildSliceV, ↓sliceV, ↓appendV, ↓srcV, bound, cutTag, hiTag, fillG, fillE, place, GVal.cells, grp, GVal.ofConst, ↓resV, resG, List.map, List.headD, List.take, List.drop, ↓reduceIte, Nat.reduceEqDiff, Nat.reduceAdd, Nat.reduceSub, Nat.reduceLeDiff, reduceCtorEq, implies_true, ne_eq, ↓asrcV, aggV, Tag.cap, List.replicate, allSolid, GVal.solid, Nat.reduceBEq, Nat.reduceMul, Nat.reduceLT, List.length_map, List.length_range, splice, vcA, ↓vcB, vcC, fbFf, e46, segsG_length, d1, all_segsG, not_true_eq_false, not_false_eq_true, false_imp_iff, true_imp_iff, and_true, true_and]
      refine ⟨by omega, by omega, fun w => ?_⟩
      refine hQ _ ?_
      refine Into.sliceLast 5 (segsG out) _ (segG (joinI ((l.drop i).take k2))) rfl (by rw [eJ]; simp [WL, segG, leG_self, leG_none]) ?_
      refine Into.first w ⟨_, rfl⟩ ?_
      simp [WL, leG_self, leG_any, leG_int, segsG_append, segsG_one]
theorem refUp (l : List Seg) (size : Int) (hl : l.length ≤ 1000) (hp : sumP l ≤ 100000) (hs : 2 ≤ size) (hs2 : size ≤ 1000000) : GRel Try.prog 46 [.slice (segsG l) .none, .int .i64 size] (fun g => ∃ u, g = .slice (segsG u) .none ∧ UpMx size l u) := by
  refine h46.rel mixS (by simp) ?_
  simp only [gstart, s46, List.cons_append, List.nil_append, List.length_cons, List.length_nil, Nat.reduceAdd, Nat.reduceSub, List.replicate_succ, List.replicate_zero]
  simp +contextual -implicitDefEqProofs (maxSteps := 2000000) (disch := omega) only [drawC, ↓lenV, binV, ↓unV, optV, ↓loadV, ↓storeV, ↓fieldAddrV, ↓indexAddrV, ↓allocV, ↓buildV, ↓buildSliceV, ↓sliceV, ↓appendV, ↓srcV, bound, cutTag, hiTag, fillG, fillE, place, GVal.cells, grp, GVal.ofConst, ↓resV, resG, List.map, List.headD, List.take, List.drop, ↓reduceIte, Nat.reduceEqDiff, Nat.reduceAdd, Nat.reduceSub, Nat.reduceLeDiff, reduceCtorEq, implies_true, ne_eq, ↓asrcV, aggV, Tag.cap, List.replicate, allSolid, GVal.solid, Nat.reduceBEq, Nat.reduceMul, Nat.reduceLT, List.length_map, List.length_range, splice, vcA, ↓vcB, vcC, fbFf, e46]
  refine ⟨fun h => absurd h (by omega), fun _ => ?_⟩
  refine vcSLoop_by (ι := { p : List Seg × Nat × Nat // p.2.1 ≤ l.length ∧ (∀ u, UpMx size (l.drop p.2.1) u → UpMx size l (p.1 ++ u)) ∧ p.1.length ≤ p.2.1 }) (fun p => ⟨[.slice (segsG l) .none, .int .i64 size, .any, .any, .any, .slice (segsG p.1.1) (.tok 0 p.1.2.2), .int .i64 (p.1.2.1 : Nat)] ++ List.replicate 135 .any, [.tok p.1.2.2 5]⟩) (fun p => l.length - p.1.2.1) ?_ ?_
  · refine Into.tok 5 5 [] rfl rfl ?_
    simp +contextual -implicitDefEqProofs (maxSteps := 2000000) (disch := omega) only [drawC, ↓lenV, binV, ↓unV, optV, ↓loadV, ↓storeV, ↓fieldAddrV, ↓indexAddrV, ↓allocV, ↓buildV, ↓buildSliceV, ↓sliceV, ↓appendV, ↓srcV, bound, cutTag, hiTag, fillG, fillE, place, GVal.cells, grp, GVal.ofConst, ↓resV, resG, List.map, List.headD, List.take, List.drop, ↓reduceIte, Nat.reduceEqDiff, Nat.reduceAdd, Nat.reduceSub, Nat.reduceLeDiff, reduceCtorEq, implies_true, ne_eq, ↓asrcV, aggV, Tag.cap, List.replicate, allSolid, GVal.solid, Nat.reduceBEq, Nat.reduceMul, Nat.reduceLT, List.length_map, List.length_range, splice, vcA, ↓vcB, vcC, fbFf, e46]
    intro t
    exact Into.first ⟨([], 0, t), Nat.zero_le _, fun u h => h, by simp⟩ ⟨[], by simp⟩ (by simp [WL, leG_self, leG_any, segsG_nil])
  · rintro ⟨⟨out, i, v⟩, h1, h2, h3⟩
    change i ≤ l.length at h1
    change ∀ u, UpMx size (l.drop i) u → UpMx size l (out ++ u) at h2
    change out.length ≤ i at h3
    by_cases hi : i < l.length
    · have d0 : ((i : Int) < (l.length : Int)) = True := eq_true (by omega)
      simp +contextual -implicitDefEqProofs (maxSteps := 2000000) (disch := omega) only [drawC, ↓lenV, binV, ↓unV, optV, ↓loadV, ↓storeV, ↓fieldAddrV, ↓indexAddrV, ↓allocV, ↓buildV, ↓buildSliceV, ↓sliceV, ↓appendV, ↓srcV, bound, cutTag, hiTag, fillG, fillE, place, GVal.cells, grp, GVal.ofConst, ↓resV, resG, List.map, List.headD, List.take, List.drop, ↓reduceIte, Nat.reduceEqDiff, Nat.reduceAdd, Nat.reduceSub, Nat.reduceLeDiff, reduceCtorEq, implies_true, ne_eq, ↓asrcV, aggV, Tag.cap, List.replicate, allSolid, GVal.solid, Nat.reduceBEq, Nat.reduceMul, Nat.reduceLT, List.length_map, List.length_range, splice, vcA, ↓vcB, vcC, fbFf, e46, segsG_length, d0]
      refine vcSLoop_by (ι := { p : Nat × Nat // 1 ≤ p.1 ∧ p.1 < p.2 ∧ runOK (l.drop i) size (p.2 - 1) ∧ (p.1 = 1 ∨ headsN ((l.drop i).take p.1) = 1) ∧ ∀ j, p.1 < j → j < p.2 → headsN ((l.drop i).take j) ≠ 1 }) (fun p => ⟨[.slice (segsG l) .none, .int .i64 size, .any, .any, .any, .slice (segsG out) (.tok 0 v), .int .i64 (i : Nat), .int .i64 (p.1.1 : Nat), .int .i64 (p.1.2 : Nat)] ++ List.replicate 133 .any, [.tok v 5]⟩) (fun p => l.length + 2 - p.1.2) ?_ ?_
      · refine Into.first ⟨(1, 2), Nat.le_refl _, Nat.lt_succ_self _, ⟨by omega, by omega, by rw [List.length_drop]; show 1 ≤ _; omega, fun j hj => by rw [show j = 0 by omega]; simp [sameG]⟩, .inl rfl, fun j a b => by omega⟩ ⟨[], by simp⟩ (by simp [WL, leG_self, leG_any])
      · rintro ⟨⟨run, k⟩, r1, r2, r3, r4, r5⟩
        change 1 ≤ run at r1
        change run < k at r2
        change runOK (l.drop i) size (k - 1) at r3
        change run = 1 ∨ headsN ((l.drop i).take run) = 1 at r4
        change ∀ j, run < j → j < k → headsN ((l.drop i).take j) ≠ 1 at r5
        have r3' := r3
        obtain ⟨n1, n2, n3, n4⟩ := r3
        have n3' := n3
        rw [List.length_drop] at n3
        have hT : ((i : Int) + (k : Int) - 1).toNat = i + k - 1 := by omega
        have hT2 : ((i : Int) + (k : Int)).toNat = i + k := by omega
        have hTr : ((i : Int) + (run : Int) - 1).toNat = i + run - 1 := by omega
        have hF : (segsG l).take l.length = segsG l := List.take_of_length_le (by rw [segsG_length]; omega)
        have rok : runOK (l.drop i) size run := r3'.down r1 (by omega)
        obtain ⟨bA, bB, bC, bD, eA, eB, eC, eD⟩ : ∃ bA bB bC bD : Bool, decide ((k : Int) ≤ size) = bA ∧ decide ((i : Int) + (k : Int) ≤ (l.length : Int)) = bB ∧ decide (1099511627776 ≤ (l.getD i default).lo) = bC ∧ decide (1099511627776 ≤ (l.getD (i + k - 1) default).lo) = bD := ⟨_, _, _, _, rfl, rfl, rfl, rfl⟩
        have more : bA = true → bB = true → bC = bD → runOK (l.drop i) size k := fun h4 h5 h6 => by
          rw [h4] at eA; rw [h5] at eB
          have g1 := of_decide_eq_true eA
          have g2 := of_decide_eq_true eB
          refine ⟨by omega, g1, by rw [List.length_drop]; omega, fun j hj => ?_⟩
          by_cases e : j = k - 1
          · rw [e, getD_drop', getD_drop', Nat.add_zero, show i + (k - 1) = i + k - 1 by omega]
            unfold sameG
            rw [← h6] at eD
            cases bC
            · have g3 := of_decide_eq_false eC
              have g4 := of_decide_eq_false eD
              rw [decide_eq_true (p := _ < (1099511627776 : Int)) (by omega), decide_eq_true (p := _ < (1099511627776 : Int)) (by omega)]; rfl
            · have g3 := of_decide_eq_true eC
              have g4 := of_decide_eq_true eD
              rw [decide_eq_false (p := _ < (1099511627776 : Int)) (by omega), decide_eq_false (p := _ < (1099511627776 : Int)) (by omega)]; rfl
          · exact n4 j (by omega)
        have less : ∀ h4 : runOK (l.drop i) size k, bA = true ∧ bB = true ∧ bC = bD := fun h4 => by
          obtain ⟨m1, m2, m3, m4⟩ := h4
          rw [List.length_drop] at m3
          refine ⟨by rw [← eA]; exact decide_eq_true m2, by rw [← eB]; exact decide_eq_true (by omega), ?_⟩
          have m5 := m4 (k - 1) (by omega)
          rw [getD_drop', getD_drop', Nat.add_zero, show i + (k - 1) = i + k - 1 by omega] at m5
          unfold sameG at m5
          rw [← eC, ← eD]
          by_cases g1 : (l.getD i default).lo < 1099511627776
          · rw [decide_eq_true (p := (l.getD i default).lo < 1099511627776) g1] at m5
            by_cases g2 : (l.getD (i + k - 1) default).lo < 1099511627776
            · rw [decide_eq_false (by omega), decide_eq_false (by omega)]
            · rw [decide_eq_false (p := (l.getD (i + k - 1) default).lo < 1099511627776) g2] at m5; cases m5
          · rw [decide_eq_false (p := (l.getD i default).lo < 1099511627776) g1] at m5
            by_cases g2 : (l.getD (i + k - 1) default).lo < 1099511627776
            · rw [decide_eq_true (p := (l.getD (i + k - 1) default).lo < 1099511627776) g2] at m5; cases m5
            · rw [decide_eq_true (by omega), decide_eq_true (by omega)]
        by_cases hgo : runOK (l.drop i) size k
        · obtain ⟨q1, q2, q3⟩ := less hgo
          subst q1 q2 q3
          obtain ⟨m1, m2, m3, m4⟩ := hgo
          have m3' := m3
          rw [List.length_drop] at m3
          have cH := refHeads ((l.drop i).take k) (by rw [List.length_take]; omega) (fun j => by have := sumP_at ((l.drop i).take k) j; have := sumP_take (l.drop i) k; have := sumP_drop l i; omega)
          have dA : ((k : Int) ≤ size) = True := eq_true m2
          have dB : ((i : Int) + (k : Int) ≤ (l.length : Int)) = True := eq_true (by omega)
          have dI : (i + k - 1 < l.length) = True := eq_true (by omega)
          by_cases hH : headsN ((l.drop i).take k) = 1
          · have dE : ((headsN ((l.drop i).take k) : Int) = 1) = True := eq_true (by omega)
            rcases Bool.eq_false_or_eq_true bC with hb | hb
            all_goals
              rw [hb] at eC eD
              have dC := congrArg (fun b : Bool => (b = true)) eC
              have dD := congrArg (fun b : Bool => (b = true)) eD
              simp only [decide_eq_true_eq, Bool.false_eq_true, eq_self_iff_true] at dC dD
              simp +contextual -implicitDefEqProofs (maxSteps := 2000000) (disch := omega) only [drawC, ↓lenV, binV, ↓unV, optV, ↓loadV, ↓storeV, ↓fieldAddrV, ↓indexAddrV, ↓allocV, ↓buildV, ↓buildSliceV, ↓sliceV, ↓appendV, ↓srcV, bound, cutTag, hiTag, fillG, fillE, place, GVal.cells, grp, GVal.ofConst, ↓resV, resG, List.map, List.headD, List.take, List.drop, ↓reduceIte, Nat.reduceEqDiff, Nat.reduceAdd, Nat.reduceSub, Nat.reduceLeDiff, reduceCtorEq, implies_true, ne_eq, ↓asrcV, aggV, Tag.cap, List.replicate, allSolid, GVal.solid, Nat.reduceBEq, Nat.reduceMul, Nat.reduceLT, List.length_map, List.length_range, splice, vcA, ↓vcB, vcC, fbFf, e46, segsG_length, segsG_at, segG, hT, hT2, hF, dA, dB, dC, dD, segs_cut, segs_cut2, segsG_take, segsG_drop, all_segsG]
              refine ⟨by omega, by omega, by omega, by omega, by omega, by omega, ?_⟩
              refine cH.then ?_
              simp +contextual -implicitDefEqProofs (maxSteps := 2000000) (disch := omega) only [drawC, ↓lenV, binV, ↓unV, optV, ↓loadV, ↓storeV, ↓fieldAddrV, ↓indexAddrV, ↓allocV, ↓buildV, ↓buildSliceV, ↓sliceV, ↓appendV, ↓srcV, bound, cutTag, hiTag, fillG, fillE, place, GVal.cells, grp, GVal.ofConst, ↓resV, resG, List.map, List.headD, List.take, List.drop, ↓reduceIte, Nat.reduceEqDiff, Nat.reduceAdd, Nat.reduceSub, Nat.reduceLeDiff, reduceCtorEq, implies_true, ne_eq, ↓asrcV, aggV, Tag.cap, List.replicate, allSolid, GVal.solid, Nat.reduceBEq, Nat.reduceMul, Nat.reduceLT, List.length_map, List.length_range, splice, vcA, ↓vcB, vcC, fbFf, e46, segsG_length, segsG_at, segG, hT, hT2, hF, dA, dB, dC, dD, dE, segs_cut, segs_cut2, segsG_take, segsG_drop, all_segsG, not_true_eq_false, not_false_eq_true, false_imp_iff, true_imp_iff, and_true, true_and]
              refine Into.at ⟨(k, k + 1), m1, Nat.lt_succ_self _, ⟨m1, m2, m3', m4⟩, .inr hH, fun j a b => by omega⟩ (by show _ < _; simp; omega) ⟨[], by simp⟩ (by simp [WL, leG_self, leG_any, leG_int])
          · have dE : ((headsN ((l.drop i).take k) : Int) = 1) = False := eq_false (by omega)
            have r5' : ∀ j, run < j → j < k + 1 → headsN ((l.drop i).take j) ≠ 1 := fun j a b => by
              by_cases e : j = k
              · rw [e]; exact hH
              · exact r5 j a (by omega)
            rcases Bool.eq_false_or_eq_true bC with hb | hb
            all_goals
              rw [hb] at eC eD
              have dC := congrArg (fun b : Bool => (b = true)) eC
              have dD := congrArg (fun b : Bool => (b = true)) eD
              simp only [decide_eq_true_eq, Bool.false_eq_true, eq_self_iff_true] at dC dD
              simp +contextual -implicitDefEqProofs (maxSteps := 2000000) (disch := omega) only [drawC, ↓lenV, binV, ↓unV, optV, ↓loadV, ↓storeV, ↓fieldAddrV, ↓indexAddrV, ↓allocV, ↓buildV, ↓buildSliceV, ↓sliceV, ↓appendV, ↓srcV, bound, cutTag, hiTag, fillG, fillE, place, GVal.cells, grp, GVal.ofConst, ↓resV, resG, List.map, List.headD, List.take, List.drop, ↓reduceIte, Nat.reduceEqDiff, Nat.reduceAdd, Nat.reduceSub, Nat.reduceLeDiff, reduceCtorEq, implies_true, ne_eq, ↓asrcV, aggV, Tag.cap, List.replicate, allSolid, GVal.solid, Nat.reduceBEq, Nat.reduceMul, Nat.reduceLT, List.length_map, List.length_range, splice, vcA, ↓vcB, vcC, fbFf, e46, segsG_length, segsG_at, segG, hT, hT2, hF, dA, dB, dC, dD, segs_cut, segs_cut2, segsG_take, segsG_drop, all_segsG]
              refine ⟨by omega, by omega, by omega, by omega, by omega, by omega, ?_⟩
              refine cH.then ?_
              simp +contextual -implicitDefEqProofs (maxSteps := 2000000) (disch := omega) only [drawC, ↓lenV, binV, ↓unV, optV, ↓loadV, ↓storeV, ↓fieldAddrV, ↓indexAddrV, ↓allocV, ↓buildV, ↓buildSliceV, ↓sliceV, ↓appendV, ↓srcV, bound, cutTag, hiTag, fillG, fillE, place, GVal.cells, grp, GVal.ofConst, ↓resV, resG, List.map, List.headD, List.take, List.drop, ↓reduceIte, Nat.reduceEqDiff, Nat.reduceAdd, Nat.reduceSub, Nat.reduceLeDiff, reduceCtorEq, implies_true, ne_eq, ↓asrcV, aggV, Tag.cap, List.replicate, allSolid, GVal.solid, Nat.reduceBEq, Nat.reduceMul, Nat.reduceLT, List.length_map, List.length_range, splice, vcA, ↓vcB, vcC, fbFf, e46, segsG_length, segsG_at, segG, hT, hT2, hF, dA, dB, dC, dD, dE, segs_cut, segs_cut2, segsG_take, segsG_drop, all_segsG, not_true_eq_false, not_false_eq_true, false_imp_iff, true_imp_iff, and_true, true_and]
              refine Into.at ⟨(run, k + 1), r1, Nat.lt_succ_of_lt r2, ⟨m1, m2, m3', m4⟩, r4, r5'⟩ (by show _ < _; simp; omega) ⟨[], by simp⟩ (by simp [WL, leG_self, leG_any, leG_int])
        · have hmx : ∀ j, run < j → runOK (l.drop i) size j → headsN ((l.drop i).take j) ≠ 1 := fun j hj hr => by
            by_cases e : j < k
            · exact r5 j hj e
            · exact absurd (hr.down (by omega) (by omega)) hgo
          have hex : bA = false ∨ (bA = true ∧ bB = false) ∨ (bA = true ∧ bB = true ∧ bC = true ∧ bD = false) ∨ (bA = true ∧ bB = true ∧ bC = false ∧ bD = true) := by
            cases bA
            · exact .inl rfl
            · cases bB
              · exact .inr (.inl ⟨rfl, rfl⟩)
              · cases bC <;> cases bD
                · exact absurd (more rfl rfl rfl) hgo
                · exact .inr (.inr (.inr ⟨rfl, rfl, rfl, rfl⟩))
                · exact .inr (.inr (.inl ⟨rfl, rfl, rfl, rfl⟩))
                · exact absurd (more rfl rfl rfl) hgo
          clear more less
          have hrl : run ≤ l.length - i := by have := rok.2.2.1; rw [List.length_drop] at this; exact this
          have hrD := rok.2.2.1
          have eJ := joinI_cut l i run r1 hrD
          have jl := fun k2 => jl_le (l.getD i default).lo l i k2 hp
          have hout : ∀ u, UpMx size (l.drop (i + run)) u → UpMx size l (out ++ [joinI ((l.drop i).take run)] ++ u) := fun u hu => by
            rw [List.append_assoc]
            exact h2 _ (.cons (l.drop i) u run rok r4 hmx (by rw [List.drop_drop]; exact hu))
          have dI1 : (i + run - 1 < l.length) = True := eq_true (by omega)
          have dI2 : (i < l.length) = True := eq_true (by omega)
          have hil : ((i : Int) < (l.length : Int)) := by omega
          have hTi : ((i : Int)).toNat = i := by omega
          generalize hla : l.getD (i + run - 1) default = la at *
          generalize hlo : (l.getD i default).lo = lo at *
          rcases hex with h | ⟨g1, h⟩ | ⟨g1, g2, g3, h⟩ | ⟨g1, g2, g3, h⟩
          · have dA := congrArg (fun b : Bool => (b = true)) (eA.trans h)
            simp only [decide_eq_true_eq, Bool.false_eq_true] at dA
            simp +contextual -implicitDefEqProofs (maxSteps := 2000000) (disch := omega) only [drawC, ↓lenV, binV, ↓unV, optV, ↓loadV, ↓storeV, ↓fieldAddrV, ↓indexAddrV, ↓allocV, ↓buildV, ↓buildSliceV, ↓sliceV, ↓appendV, ↓srcV, bound, cutTag, hiTag, fillG, fillE, place, GVal.cells, grp, GVal.ofConst, ↓resV, resG, List.map, List.headD, List.take, List.drop, ↓reduceIte, Nat.reduceEqDiff, Nat.reduceAdd, Nat.reduceSub, Nat.reduceLeDiff, reduceCtorEq, implies_true, ne_eq, ↓asrcV, aggV, Tag.cap, List.replicate, allSolid, GVal.solid, Nat.reduceBEq, Nat.reduceMul, Nat.reduceLT, List.length_map, List.length_range, splice, vcA, ↓vcB, vcC, fbFf, e46, segsG_length, segsG_at, segG, hT, hT2, hTr, hF, dA, hla, hlo]
            refine ⟨by omega, by omega, by omega, by omega, by omega, by omega, fun st => ⟨⟨_, rfl⟩, ?_⟩⟩
            refine vcSLoop_weak (upRest l size hl hp out i v run st h3 hi r1 hrD lo la eJ jl _ ?_) (by simp [WL, leG_self, leG_any])
            intro st' hst
            refine Into.mono hst ?_
            rintro s ⟨w, rfl⟩
            exact ⟨⟨(out ++ [joinI ((l.drop i).take run)], i + run, w), by show i + run ≤ l.length; omega, hout, by show (out ++ [_]).length ≤ i + run; rw [List.length_append]; simp; omega⟩, by simp, by show l.length - (i + run) < l.length - i; omega⟩
          · have dA := congrArg (fun b : Bool => (b = true)) (eA.trans g1)
            have dB := congrArg (fun b : Bool => (b = true)) (eB.trans h)
            simp only [decide_eq_true_eq, Bool.false_eq_true, eq_self_iff_true] at dA dB
            simp +contextual -implicitDefEqProofs (maxSteps := 2000000) (disch := omega) only [drawC, ↓lenV, binV, ↓unV, optV, ↓loadV, ↓storeV, ↓fieldAddrV, ↓indexAddrV, ↓allocV, ↓buildV, ↓buildSliceV, ↓sliceV, ↓appendV, ↓srcV, bound, cutTag, hiTag, fillG, fillE, place, GVal.cells, grp, GVal.ofConst, ↓resV, resG, List.map, List.headD, List.take, List.drop, ↓reduceIte, Nat.reduceEqDiff, Nat.reduceAdd, Nat.reduceSub, Nat.reduceLeDiff, reduceCtorEq, implies_true, ne_eq, ↓asrcV, aggV, Tag.cap, List.replicate, allSolid, GVal.solid, Nat.reduceBEq, Nat.reduceMul, Nat.reduceLT, List.length_map, List.length_range, splice, vcA, ↓vcB, vcC, fbFf, e46, segsG_length, segsG_at, segG, hT, hT2, hTr, hF, dA, dB, hla, hlo]
            refine ⟨by omega, by omega, by omega, by omega, by omega, by omega, fun st => ⟨⟨_, rfl⟩, ?_⟩⟩
            refine vcSLoop_weak (upRest l size hl hp out i v run st h3 hi r1 hrD lo la eJ jl _ ?_) (by simp [WL, leG_self, leG_any])
            intro st' hst
            refine Into.mono hst ?_
            rintro s ⟨w, rfl⟩
            exact ⟨⟨(out ++ [joinI ((l.drop i).take run)], i + run, w), by show i + run ≤ l.length; omega, hout, by show (out ++ [_]).length ≤ i + run; rw [List.length_append]; simp; omega⟩, by simp, by show l.length - (i + run) < l.length - i; omega⟩
          · have dA := congrArg (fun b : Bool => (b = true)) (eA.trans g1)
            have dB := congrArg (fun b : Bool => (b = true)) (eB.trans g2)
            have dC := congrArg (fun b : Bool => (b = true)) (eC.trans g3)
            have dD := congrArg (fun b : Bool => (b = true)) (eD.trans h)
            simp only [decide_eq_true_eq, Bool.false_eq_true, eq_self_iff_true] at dA dB dC dD
            have hk3 : i + k - 1 < l.length := by have := of_decide_eq_true (eB.trans g2); omega
            simp +contextual -implicitDefEqProofs (maxSteps := 2000000) (disch := omega) only [drawC, ↓lenV, binV, ↓unV, optV, ↓loadV, ↓storeV, ↓fieldAddrV, ↓indexAddrV, ↓allocV, ↓buildV, ↓buildSliceV, ↓sliceV, ↓appendV, ↓srcV, bound, cutTag, hiTag, fillG, fillE, place, GVal.cells, grp, GVal.ofConst, ↓resV, resG, List.map, List.headD, List.take, List.drop, ↓reduceIte, Nat.reduceEqDiff, Nat.reduceAdd, Nat.reduceSub, Nat.reduceLeDiff, reduceCtorEq, implies_true, ne_eq, ↓asrcV, aggV, Tag.cap, List.replicate, allSolid, GVal.solid, Nat.reduceBEq, Nat.reduceMul, Nat.reduceLT, List.length_map, List.length_range, splice, vcA, ↓vcB, vcC, fbFf, e46, segsG_length, segsG_at, segG, hT, hT2, hTr, hF, dA, dB, dC, dD, hla, hlo]
            refine ⟨by omega, by omega, by omega, by omega, by omega, by omega, by omega, by omega, by omega, by omega, fun st => ⟨⟨_, rfl⟩, ?_⟩⟩
            refine vcSLoop_weak (upRest l size hl hp out i v run st h3 hi r1 hrD lo la eJ jl _ ?_) (by simp [WL, leG_self, leG_any])
            intro st' hst
            refine Into.mono hst ?_
            rintro s ⟨w, rfl⟩
            exact ⟨⟨(out ++ [joinI ((l.drop i).take run)], i + run, w), by show i + run ≤ l.length; omega, hout, by show (out ++ [_]).length ≤ i + run; rw [List.length_append]; simp; omega⟩, by simp, by show l.length - (i + run) < l.length - i; omega⟩
          · have dA := congrArg (fun b : Bool => (b = true)) (eA.trans g1)
            have dB := congrArg (fun b : Bool => (b = true)) (eB.trans g2)
            have dC := congrArg (fun b : Bool => (b = true)) (eC.trans g3)
            have dD := congrArg (fun b : Bool => (b = true)) (eD.trans h)
            simp only [decide_eq_true_eq, Bool.false_eq_true, eq_self_iff_true] at dA dB dC dD
            have hk3 : i + k - 1 < l.length := by have := of_decide_eq_true (eB.trans g2); omega
            simp +contextual -implicitDefEqProofs (maxSteps := 2000000) (disch := omega) only [drawC, ↓lenV, binV, ↓unV, optV, ↓loadV, ↓storeV, ↓fieldAddrV, ↓indexAddrV, ↓allocV, ↓buildV, ↓buildSliceV, ↓sliceV, ↓appendV, ↓srcV, bound, cutTag, hiTag, fillG, fillE, place, GVal.cells, grp, GVal.ofConst, ↓resV, resG, List.map, List.headD, List.take, List.drop, ↓reduceIte, Nat.reduceEqDiff, Nat.reduceAdd, Nat.reduceSub, Nat.reduceLeDiff, reduceCtorEq, implies_true, ne_eq, ↓asrcV, aggV, Tag.cap, List.replicate, allSolid, GVal.solid, Nat.reduceBEq, Nat.reduceMul, Nat.reduceLT, List.length_map, List.length_range, splice, vcA, ↓vcB, vcC, fbFf, e46, segsG_length, segsG_at, segG, hT, hT2, hTr, hF, dA, dB, dC, dD, hla, hlo]
            refine ⟨by omega, by omega, by omega, by omega, by omega, by omega, by omega, by omega, by omega, by omega, fun st => ⟨⟨_, rfl⟩, ?_⟩⟩
            refine vcSLoop_weak (upRest l size hl hp out i v run st h3 hi r1 hrD lo la eJ jl _ ?_) (by simp [WL, leG_self, leG_any])
            intro st' hst
            refine Into.mono hst ?_
            rintro s ⟨w, rfl⟩
            exact ⟨⟨(out ++ [joinI ((l.drop i).take run)], i + run, w), by show i + run ≤ l.length; omega, hout, by show (out ++ [_]).length ≤ i + run; rw [List.length_append]; simp; omega⟩, by simp, by show l.length - (i + run) < l.length - i; omega⟩
    · have d0 : ((i : Int) < (l.length : Int)) = False := eq_false (by omega)
      have e : l.drop i = [] := List.drop_eq_nil_of_le (by omega)
      have hu := h2 [] (by rw [e]; exact .nil)
      rw [List.append_nil] at hu
      simp +contextual -implicitDefEqProofs (maxSteps := 2000000) (disch := omega) only [drawC, ↓lenV, binV, ↓unV, optV, ↓loadV, ↓storeV, ↓fieldAddrV, ↓indexAddrV, ↓allocV, ↓buildV, ↓buildSliceV, ↓sliceV, ↓appendV, ↓srcV, bound, cutTag, hiTag, fillG, fillE, place, GVal.cells, grp, GVal.ofConst, ↓resV, resG, List.map, List.headD, List.take, List.drop, ↓reduceIte, Nat.reduceEqDiff, Nat.reduceAdd, Nat.reduceSub, Nat.reduceLeDiff, reduceCtorEq, implies_true, ne_eq, ↓asrcV, aggV, Tag.cap, List.replicate, allSolid, GVal.solid, Nat.reduceBEq, Nat.reduceMul, Nat.reduceLT, List.length_map, List.length_range, splice, vcA, ↓vcB, vcC, fbFf, e46, segsG_length, d0]
      exact ⟨_, ⟨3, _, frz_segsS _ 0 _ _, by rw [Tag.frz, leA_slice]⟩, out, rfl, hu⟩
end Gv.Try
/- Contracts: all that some IDs stand on. -/
set_option linter.unusedVariables false
set_option linter.unusedSimpArgs false
set_option maxRecDepth 20000
set_option maxHeartbeats 4000000
namespace Gv.Try
open Go Gv Go.Proofs

theorem nodup_len : ∀ (l A : List Int), l.Nodup → (∀ x ∈ l, x ∈ A) → l.length ≤ A.length
  | [], A, _, _ => by simp
  | a :: r, A, hn, h => by
    rw [List.nodup_cons] at hn
    have ha := h a (by simp)
    have := nodup_len r (A.erase a) hn.2 fun x hx => (List.mem_erase_of_ne (fun e => hn.1 (by rw [← e]; exact hx))).2 (h x (by simp [hx]))
    rw [List.length_erase_of_mem ha] at this
    have h2 : 0 < A.length := List.length_pos_of_mem ha
    simp only [List.length_cons]; omega

/-- on the way: what is out, what is still to do -/
structure UpInv (m o : List (List Int)) (ids out todo : List Int) : Prop where
  nodup : out.Nodup
  has : ∀ x ∈ out, hasI m.length o.length x = true
  start : ∀ x ∈ ids, hasI m.length o.length x = true → x ∈ out ∨ x ∈ todo
  step : ∀ x ∈ out, ∀ p ∈ parI m o x, hasI m.length o.length p = true → p ∈ out ∨ p ∈ todo
  least : ∀ S : Int → Prop, (∀ x ∈ ids, S x) → (∀ x, S x → ∀ p ∈ parI m o x, S p) → ∀ x, x ∈ out ∨ x ∈ todo → S x
  len : todo.length ≤ ids.length + 4 * out.length
theorem UpInv.out_len {m o : List (List Int)} {ids out todo : List Int} (h : UpInv m o ids out todo) : out.length ≤ m.length + o.length := by
  have := nodup_len out (allI m.length o.length) h.nodup fun x hx => (allI_hasI _ _ _).2 (h.has x hx)
  rwa [allI_len] at this
theorem UpInv.skip {m o : List (List Int)} {ids out t : List Int} {x : Int} (h : UpInv m o ids out (t ++ [x])) (hx : hasI m.length o.length x = false ∨ x ∈ out) : UpInv m o ids out t := by
  have key : ∀ y, hasI m.length o.length y = true → y ∈ out ∨ y ∈ t ++ [x] → y ∈ out ∨ y ∈ t := fun y hy hh => by
    rcases hh with hh | hh
    · exact .inl hh
    · rcases List.mem_append.1 hh with hh | hh
      · exact .inr hh
      · simp at hh; subst hh
        rcases hx with hx | hx
        · rw [hy] at hx; cases hx
        · exact .inl hx
  refine ⟨h.nodup, h.has, fun y hy hh => key y hh (h.start y hy hh), fun y hy p hp hh => key p hh (h.step y hy p hp hh), fun S h1 h2 y hy => h.least S h1 h2 y (hy.imp id fun hy => by simp [hy]), ?_⟩
  have := h.len; simp at this; omega
theorem UpInv.go {m o : List (List Int)} {ids out t : List Int} {x : Int} (h : UpInv m o ids out (t ++ [x])) (hx : hasI m.length o.length x = true) (hn : x ∉ out) (hp : (parI m o x).length ≤ 4) : UpInv m o ids (out ++ [x]) (t ++ parI m o x) := by
  have key : ∀ y, y ∈ out ∨ y ∈ t ++ [x] → y ∈ out ++ [x] ∨ y ∈ t ++ parI m o x := fun y hh => by
    rcases hh with hh | hh
    · exact .inl (by simp [hh])
    · rcases List.mem_append.1 hh with hh | hh
      · exact .inr (by simp [hh])
      · simp at hh; exact .inl (by simp [hh])
  refine ⟨?_, fun y hy => ?_, fun y hy hh => key y (h.start y hy hh), fun y hy p hp hh => ?_, fun S h1 h2 y hy => ?_, ?_⟩
  · rw [List.nodup_append]
    exact ⟨h.nodup, by simp, fun a ha b hb => by simp at hb; subst hb; exact fun e => hn (by rw [← e]; exact ha)⟩
  · rcases List.mem_append.1 hy with hy | hy
    · exact h.has y hy
    · simp at hy; rw [hy]; exact hx
  · rcases List.mem_append.1 hy with hy | hy
    · exact key p (h.step y hy p hp hh)
    · simp at hy; subst hy; exact .inr (List.mem_append_right _ (by assumption))
  · have hSx : S x := h.least S h1 h2 x (.inr (by simp))
    rcases hy with hy | hy
    · rcases List.mem_append.1 hy with hy | hy
      · exact h.least S h1 h2 y (.inl hy)
      · simp at hy; rw [hy]; exact hSx
    · rcases List.mem_append.1 hy with hy | hy
      · exact h.least S h1 h2 y (.inr (by simp [hy]))
      · exact h2 x hSx y hy
  · have := h.len; simp at this ⊢; omega
/-- all that some IDs stand on, and they -/
def UpSet (m o : List (List Int)) (ids l : List Int) : Prop := UpInv m o ids l []

def upMu (N : Nat) (out todo : List Int) : Nat := 5 * (N - out.length) + todo.length

theorem rel48 (m o : List (List Int)) (tm to ti : Tag) (ids : List Int) (hm : m.length ≤ 1000) (ho : o.length ≤ 1000) (hi : ids.length ≤ 100000) (hr : ∀ x, (parI m o x).length ≤ 4) :
    GRel Try.prog 48 [.agg [.slice (tabG m) tm, .slice (tabG o) to], .slice (ints ids) ti] (fun g => ∃ l, g = .slice (ints l) .none ∧ UpSet m o ids l) := by
  refine h48.rel mixS (by simp) ?_
  simp only [gstart, s48, List.cons_append, List.nil_append, List.length_cons, List.length_nil, Nat.reduceAdd, Nat.reduceSub, List.replicate_succ, List.replicate_zero]
  simp +contextual -implicitDefEqProofs (maxSteps := 2000000) (disch := omega) only [↓lenV, binV, ↓unV, optV, ↓loadV, ↓indexAddrV, ↓boxV, ↓buildSliceV, ↓sliceV, ↓appendV, ↓srcV, bound, cutTag, hiTag, fillE, GVal.cells, grp, GVal.ofConst, ↓resV, resG, List.map, List.headD, List.take, List.drop, ↓reduceIte, Nat.reduceEqDiff, Nat.reduceAdd, Nat.reduceSub, Nat.reduceLeDiff, reduceCtorEq, implies_true, ne_eq, ↓asrcV, Tag.cap, List.replicate, allSolid, GVal.solid, Nat.reduceBEq, Nat.reduceMul, Nat.reduceLT, List.length_map, List.length_range, splice, vcA, ↓vcB, vcC, fbFf, e48]
  refine ⟨by omega, by omega, fun a => ?_⟩
  refine vcSLoop_by (ι := { p : List Int × List Int × Nat // UpInv m o ids p.1 p.2.1 }) (fun p => ⟨[.any, .any, .ref [.slice (tabG m) tm, .slice (tabG o) to], .any, .any, .slice (ints p.1.1) (.tok 1 p.1.2.2), .slice (ints p.1.2.1) .none] ++ List.replicate 43 .any, [.tok a 1, .tok p.1.2.2 1]⟩) (fun p => upMu (m.length + o.length) p.1.1 p.1.2.1) ?_ ?_
  · refine Into.tok 5 1 [] rfl rfl ?_
    simp +contextual -implicitDefEqProofs (maxSteps := 2000000) (disch := omega) only [↓lenV, binV, ↓unV, optV, ↓loadV, ↓indexAddrV, ↓boxV, ↓buildSliceV, ↓sliceV, ↓appendV, ↓srcV, bound, cutTag, hiTag, fillE, GVal.cells, grp, GVal.ofConst, ↓resV, resG, List.map, List.headD, List.take, List.drop, ↓reduceIte, Nat.reduceEqDiff, Nat.reduceAdd, Nat.reduceSub, Nat.reduceLeDiff, reduceCtorEq, implies_true, ne_eq, ↓asrcV, Tag.cap, List.replicate, allSolid, GVal.solid, Nat.reduceBEq, Nat.reduceMul, Nat.reduceLT, List.length_map, List.length_range, splice, vcA, ↓vcB, vcC, fbFf, e48]
    intro t
    exact Into.first ⟨([], ids, t), by simp, by simp, fun x hx _ => .inr hx, by simp, fun S h1 h2 x hx => h1 x (by simpa using hx), by simp⟩ ⟨[], by simp⟩ (by simp [WL, leG_self, leG_any, ints_nil, leG_none])
  · rintro ⟨⟨out, todo, v⟩, inv⟩
    change UpInv m o ids out todo at inv
    have hol := inv.out_len
    have htl := inv.len
    have fin : todo = [] → ∃ r, frzTo r (.slice (ints out) (.tok 1 v)) [.tok a 1, .tok v 1] ∧ ∃ l, r = .slice (ints l) .none ∧ UpSet m o ids l := fun e => by
      subst e
      exact ⟨_, ⟨2, _, frz_intsS _ 0 _ _, by rw [Tag.frz, leA_slice]⟩, out, rfl, inv⟩
    simp +contextual -implicitDefEqProofs (maxSteps := 2000000) (disch := omega) only [↓lenV, binV, ↓unV, optV, ↓loadV, ↓indexAddrV, ↓boxV, ↓buildSliceV, ↓sliceV, ↓appendV, ↓srcV, bound, cutTag, hiTag, fillE, GVal.cells, grp, GVal.ofConst, ↓resV, resG, List.map, List.headD, List.take, List.drop, ↓reduceIte, Nat.reduceEqDiff, Nat.reduceAdd, Nat.reduceSub, Nat.reduceLeDiff, reduceCtorEq, implies_true, ne_eq, ↓asrcV, Tag.cap, List.replicate, allSolid, GVal.solid, Nat.reduceBEq, Nat.reduceMul, Nat.reduceLT, List.length_map, List.length_range, splice, vcA, ↓vcB, vcC, fbFf, e48, toNat_pred, ints_take, Int.toNat_zero]
    refine ⟨fun h => ⟨by omega, by omega, by omega, by omega, by omega, ?_⟩, fun h => fin (List.length_eq_zero_iff.1 (by omega))⟩
    have hlast : todo = todo.take (todo.length - 1) ++ [todo.getD (todo.length - 1) 0] := by
      have h1 : todo.length - 1 < todo.length := by omega
      have := List.take_add_one (l := todo) (i := todo.length - 1)
      rw [List.take_of_length_le (by omega), List.getElem?_eq_getElem h1] at this
      simpa [List.getD, h1] using this
    have hl2 : (todo.take (todo.length - 1)).length = todo.length - 1 := by rw [List.length_take]; omega
    generalize todo.getD (todo.length - 1) 0 = x at *
    generalize todo.take (todo.length - 1) = t at *
    rw [hlast] at inv
    have c16 := spec16 m o tm to x hm ho
    have hp := hr x
    cases hh : hasI m.length o.length x
    · rw [hh] at c16
      refine c16.then ?_
      simp +contextual -implicitDefEqProofs (maxSteps := 2000000) (disch := omega) only [↓lenV, binV, ↓unV, optV, ↓loadV, ↓indexAddrV, ↓boxV, ↓buildSliceV, ↓sliceV, ↓appendV, ↓srcV, bound, cutTag, hiTag, fillE, GVal.cells, grp, GVal.ofConst, ↓resV, resG, List.map, List.headD, List.take, List.drop, ↓reduceIte, Nat.reduceEqDiff, Nat.reduceAdd, Nat.reduceSub, Nat.reduceLeDiff, reduceCtorEq, implies_true, ne_eq, ↓asrcV, Tag.cap, List.replicate, allSolid, GVal.solid, Nat.reduceBEq, Nat.reduceMul, Nat.reduceLT, List.length_map, List.length_range, splice, vcA, ↓vcB, vcC, fbFf, e48]
      exact Into.at ⟨(out, t, v), inv.skip (.inl hh)⟩ (by show upMu _ out t < upMu _ out todo; unfold upMu; omega) ⟨[], by simp⟩ (by simp [WL, leG_self, leG_any])
    · rw [hh] at c16
      refine c16.then ?_
      simp +contextual -implicitDefEqProofs (maxSteps := 2000000) (disch := omega) only [↓lenV, binV, ↓unV, optV, ↓loadV, ↓indexAddrV, ↓boxV, ↓buildSliceV, ↓sliceV, ↓appendV, ↓srcV, bound, cutTag, hiTag, fillE, GVal.cells, grp, GVal.ofConst, ↓resV, resG, List.map, List.headD, List.take, List.drop, ↓reduceIte, Nat.reduceEqDiff, Nat.reduceAdd, Nat.reduceSub, Nat.reduceLeDiff, reduceCtorEq, implies_true, ne_eq, ↓asrcV, Tag.cap, List.replicate, allSolid, GVal.solid, Nat.reduceBEq, Nat.reduceMul, Nat.reduceLT, List.length_map, List.length_range, splice, vcA, ↓vcB, vcC, fbFf, e48]
      have c62 := spec62 out (.tok 1 v) x (by omega)
      by_cases hm2 : x ∈ out
      · rw [decide_eq_true hm2] at c62
        refine c62.then ?_
        simp +contextual -implicitDefEqProofs (maxSteps := 2000000) (disch := omega) only [↓lenV, binV, ↓unV, optV, ↓loadV, ↓indexAddrV, ↓boxV, ↓buildSliceV, ↓sliceV, ↓appendV, ↓srcV, bound, cutTag, hiTag, fillE, GVal.cells, grp, GVal.ofConst, ↓resV, resG, List.map, List.headD, List.take, List.drop, ↓reduceIte, Nat.reduceEqDiff, Nat.reduceAdd, Nat.reduceSub, Nat.reduceLeDiff, reduceCtorEq, implies_true, ne_eq, ↓asrcV, Tag.cap, List.replicate, allSolid, GVal.solid, Nat.reduceBEq, Nat.reduceMul, Nat.reduceLT, List.length_map, List.length_range, splice, vcA, ↓vcB, vcC, fbFf, e48]
        exact Into.at ⟨(out, t, v), inv.skip (.inr hm2)⟩ (by show upMu _ out t < upMu _ out todo; unfold upMu; omega) ⟨[], by simp⟩ (by simp [WL, leG_self, leG_any])
      · rw [decide_eq_false hm2] at c62
        refine c62.then ?_
        have inv2 := inv.go hh hm2 hp
        have hol2 := inv2.out_len
        simp only [List.length_append, List.length_singleton] at hol2
        simp +contextual -implicitDefEqProofs (maxSteps := 2000000) (disch := omega) only [↓lenV, binV, ↓unV, optV, ↓loadV, ↓indexAddrV, ↓boxV, ↓buildSliceV, ↓sliceV, ↓appendV, ↓srcV, bound, cutTag, hiTag, fillE, GVal.cells, grp, GVal.ofConst, ↓resV, resG, List.map, List.headD, List.take, List.drop, ↓reduceIte, Nat.reduceEqDiff, Nat.reduceAdd, Nat.reduceSub, Nat.reduceLeDiff, reduceCtorEq, implies_true, ne_eq, ↓asrcV, Tag.cap, List.replicate, allSolid, GVal.solid, Nat.reduceBEq, Nat.reduceMul, Nat.reduceLT, List.length_map, List.length_range, splice, vcA, ↓vcB, vcC, fbFf, e48]
        have ht : t.length + 1 = todo.length := by omega
        refine ⟨by omega, by omega, fun st1 => ⟨by omega, by omega, fun st2 => ⟨by omega, by omega, fun st3 => ?_⟩⟩⟩
        exact Into.at ⟨(out ++ [x], t ++ parI m o x, st1), inv2⟩ (by show upMu _ (out ++ [x]) (t ++ parI m o x) < upMu _ out todo; unfold upMu; simp only [List.length_append, List.length_singleton]; omega) ⟨[.tok st3 1], by simp⟩ (by simp [WL, leG_self, leG_any, ints_append, ints_one, leG_none])

end Gv.Try
/- Contracts: the document's segments. -/
set_option linter.unusedVariables false
set_option linter.unusedSimpArgs false
set_option maxRecDepth 20000
set_option maxHeartbeats 8000000
namespace Gv.Try
open Go Gv Go.Proofs

def spansOf (l : List Seg) : List (Int × Int) := l.map fun s => (s.lo, s.hi)
/-- an own group's span -/
def okP (p : Int × Int) : Prop := 0 ≤ p.1 ∧ p.1 ≤ p.2 ∧ p.2 ≤ split + 1000 ∧ (p.1 < split ↔ p.2 < split)
/-- segments one behind the other -/
def SegsOK (l : List Seg) : Prop := (∀ p ∈ spansOf l, okP p) ∧ (spansOf l).Pairwise (fun a b => a.2 < b.1)
theorem sumP_set : ∀ (l : List Seg) (i : Nat) (s : Seg), s.par = (l.getD i default).par → sumP (l.set i s) = sumP l
  | [], i, s, h => rfl
  | a :: l, 0, s, h => by simp at h; simp [sumP, h]
  | a :: l, i + 1, s, h => by
    simp only [List.getD_cons_succ] at h
    simp [sumP, sumP_set l i s h]
theorem SegsOK.snoc {l : List Seg} {s : Seg} (h : SegsOK l) (hs : okP (s.lo, s.hi)) (hl : ∀ x ∈ l, x.hi < s.lo) : SegsOK (l ++ [s]) := by
  obtain ⟨h1, h2⟩ := h
  refine ⟨fun p hp => ?_, ?_⟩
  · simp only [spansOf, List.map_append, List.map_cons, List.map_nil, List.mem_append, List.mem_singleton] at hp
    rcases hp with hp | rfl
    · exact h1 p hp
    · exact hs
  · simp only [spansOf, List.map_append, List.map_cons, List.map_nil, List.pairwise_append]
    refine ⟨h2, by simp, fun a ha b hb => ?_⟩
    simp at hb
    subst hb
    obtain ⟨x, hx, rfl⟩ := List.mem_map.1 ha
    exact hl x hx
theorem SegsOK.init {l : List Seg} {s : Seg} (h : SegsOK (l ++ [s])) : SegsOK l ∧ okP (s.lo, s.hi) ∧ ∀ x ∈ l, x.hi < s.lo := by
  obtain ⟨h1, h2⟩ := h
  simp only [spansOf, List.map_append, List.map_cons, List.map_nil, List.pairwise_append] at h1 h2
  refine ⟨⟨fun p hp => h1 p (by simp only [List.mem_append]; exact .inl hp), h2.1⟩, h1 _ (by simp), fun x hx => ?_⟩
  exact h2.2.2 (x.lo, x.hi) (List.mem_map.2 ⟨x, hx, rfl⟩) (s.lo, s.hi) (by simp)

/-- on the way: the segments of the first IDs -/
structure FlatInv (m o : List (List Int)) (k : Nat) (out : List Seg) : Prop where
  ok : SegsOK out
  mem : ∀ s ∈ out, ∃ j, j < k ∧ s.hi = (allI m.length o.length).getD j 0
  len : out.length ≤ k
  sum : sumP out ≤ 4 * k

theorem allI_at (m o k : Nat) (h : k < m + o) : (allI m o).getD k 0 = if k < m then (k : Int) else split + ((k - m : Nat) : Int) := by
  split
  · rename_i e; exact allI_getD1 m o k e
  · exact allI_getD2 m o k (by omega) h
theorem FlatInv.new {m o : List (List Int)} {k : Nat} {out : List Seg} (h : FlatInv m o k out) (hm : m.length + o.length ≤ 500) (hk : k < m.length + o.length) {p : List Int} (hp : p.length ≤ 4) {r b : Bool} :
    FlatInv m o (k + 1) (out ++ [⟨(allI m.length o.length).getD k 0, (allI m.length o.length).getD k 0, p, r, b⟩]) := by
  have hs : split = 1099511627776 := rfl
  have ek := allI_at m.length o.length k hk
  refine ⟨h.ok.snoc ?_ fun x hx => ?_, fun s hs => ?_, ?_, ?_⟩
  · show okP ((allI m.length o.length).getD k 0, (allI m.length o.length).getD k 0)
    unfold okP
    refine ⟨?_, ?_, ?_, Iff.rfl⟩ <;> simp only <;> split at ek <;> omega
  · obtain ⟨j, hj, e⟩ := h.mem x hx
    have ej := allI_at m.length o.length j (by omega)
    show x.hi < (allI m.length o.length).getD k 0
    split at ek <;> split at ej <;> omega
  · rcases List.mem_append.1 hs with hs | hs
    · obtain ⟨j, hj, e⟩ := h.mem s hs
      exact ⟨j, by omega, e⟩
    · simp at hs; subst hs; exact ⟨k, by omega, rfl⟩
  · have := h.len; simp; omega
  · have := h.sum; rw [sumP_app]; simp only [sumP]; omega
theorem FlatInv.more {m o : List (List Int)} {k : Nat} {out : List Seg} (h : FlatInv m o k out) (hm : m.length + o.length ≤ 500) (hk : k < m.length + o.length) (hne : out ≠ []) (he : (out.getD (out.length - 1) default).hi = (allI m.length o.length).getD k 0 - 1) :
    FlatInv m o (k + 1) (out.set (out.length - 1) { out.getD (out.length - 1) default with hi := (allI m.length o.length).getD k 0 }) := by
  have hs : split = 1099511627776 := rfl
  have ek := allI_at m.length o.length k hk
  obtain ⟨e1, e2⟩ := set_last out hne default { out.getD (out.length - 1) default with hi := (allI m.length o.length).getD k 0 }
  have hlast : out.getD (out.length - 1) default ∈ out := by
    have : out.length - 1 < out.length := by have := List.length_pos_iff.2 hne; omega
    rw [List.getD_eq_getElem?_getD, List.getElem?_eq_getElem this]; exact List.getElem_mem this
  obtain ⟨j, hj, ej⟩ := h.mem _ hlast
  have ej2 := allI_at m.length o.length j (by omega)
  have hsum := sumP_set out (out.length - 1) { out.getD (out.length - 1) default with hi := (allI m.length o.length).getD k 0 } rfl
  have hok := h.ok
  rw [e1] at hok
  obtain ⟨i1, i2, i3⟩ := hok.init
  refine ⟨?_, fun s hs => ?_, ?_, ?_⟩
  · rw [e2]
    refine i1.snoc ?_ i3
    show okP ((out.getD (out.length - 1) default).lo, (allI m.length o.length).getD k 0)
    unfold okP at i2 ⊢
    simp only at i2 ⊢
    split at ek <;> split at ej2 <;> omega
  · rw [e2] at hs
    rcases List.mem_append.1 hs with hs | hs
    · obtain ⟨j, hj, e⟩ := h.mem s (by rw [e1]; exact List.mem_append_left _ hs)
      exact ⟨j, by omega, e⟩
    · simp at hs; subst hs; exact ⟨k, by omega, rfl⟩
  · have := h.len; rw [List.length_set]; omega
  · have := h.sum; rw [hsum]; omega

end Gv.Try
/- The plain law of levels. -/
set_option linter.unusedVariables false
set_option maxRecDepth 20000
set_option linter.unusedSimpArgs false
namespace Gv.Try
open Go Gv Go.Proofs

theorem okP_at {l : List Seg} (h : SegsOK l) {s : Seg} (hs : s ∈ l) : okP (s.lo, s.hi) := h.1 _ (List.mem_map.2 ⟨s, hs, rfl⟩)
theorem SegsOK.app {a b : List Seg} (h : SegsOK (a ++ b)) : SegsOK a ∧ SegsOK b ∧ ∀ x ∈ a, ∀ y ∈ b, x.hi < y.lo := by
  obtain ⟨h1, h2⟩ := h
  simp only [spansOf, List.map_append, List.pairwise_append, List.mem_append] at h1 h2
  refine ⟨⟨fun p hp => h1 p (.inl hp), h2.1⟩, ⟨fun p hp => h1 p (.inr hp), h2.2.1⟩, fun x hx y hy => ?_⟩
  exact h2.2.2 (x.lo, x.hi) (List.mem_map.2 ⟨x, hx, rfl⟩) (y.lo, y.hi) (List.mem_map.2 ⟨y, hy, rfl⟩)
theorem SegsOK.lt {l : List Seg} (h : SegsOK l) {i j : Nat} (hij : i < j) (hj : j < l.length) : (l.getD i default).hi < (l.getD j default).lo := by
  have h2 := h.2
  rw [List.pairwise_iff_getElem] at h2
  have := h2 i j (by simp [spansOf]; omega) (by simp [spansOf]; omega) hij
  simpa [spansOf, List.getD, hj, show i < l.length by omega] using this
theorem SegsOK.okAt {l : List Seg} (h : SegsOK l) {i : Nat} (hi : i < l.length) : okP ((l.getD i default).lo, (l.getD i default).hi) := by
  have : l.getD i default = l[i] := by simp [List.getD, hi]
  rw [this]; exact okP_at h (List.getElem_mem hi)

theorem join_ok {l : List Seg} {size : Int} {n : Nat} (h : SegsOK (l.take n)) (hr : runOK l size n) : okP ((joinI (l.take n)).lo, (joinI (l.take n)).hi) ∧ (joinI (l.take n)).lo = (l.getD 0 default).lo ∧ (joinI (l.take n)).hi = (l.getD (n - 1) default).hi ∧ (joinI (l.take n)).head = (l.getD (n - 1) default).head := by
  obtain ⟨a, b, c, d⟩ := hr
  have hlen : (l.take n).length = n := by rw [List.length_take]; omega
  have at_ : ∀ i, i < n → (l.take n).getD i default = l.getD i default := fun i hi => by
    simp only [List.getD_eq_getElem?_getD]; rw [List.getElem?_take_of_lt hi]
  have e0 := at_ 0 (by omega)
  have e1 := at_ (n - 1) (by omega)
  have k0 := h.okAt (i := 0) (by omega)
  have k1 := h.okAt (i := n - 1) (by omega)
  rw [e0] at k0; rw [e1] at k1
  have hg := d (n - 1) (by omega)
  have elo : (joinI (l.take n)).lo = (l.getD 0 default).lo := by show ((l.take n).getD 0 default).lo = _; rw [e0]
  have ehi : (joinI (l.take n)).hi = (l.getD (n - 1) default).hi := by show ((l.take n).getD ((l.take n).length - 1) default).hi = _; rw [hlen, e1]
  have ehd : (joinI (l.take n)).head = (l.getD (n - 1) default).head := by show ((l.take n).getD ((l.take n).length - 1) default).head = _; rw [hlen, e1]
  refine ⟨?_, elo, ehi, ehd⟩
  rw [elo, ehi]
  have hs : split = 1099511627776 := rfl
  unfold sameG at hg
  rw [beq_iff_eq, Bool.eq_iff_iff, decide_eq_true_iff, decide_eq_true_iff] at hg
  unfold okP at *
  simp only at *
  have hle : (l.getD 0 default).lo ≤ (l.getD (n - 1) default).hi := by
    by_cases e : n = 1
    · subst e; exact k0.2.1
    · have := h.lt (i := 0) (j := n - 1) (by omega) (by omega)
      rw [e0, e1] at this
      omega
  omega
theorem UpOK.segs {size : Int} {l u : List Seg} (h : UpOK size l u) : SegsOK l → SegsOK u ∧ ∀ b : Int, (∀ s ∈ l, b < s.lo) → ∀ s ∈ u, b < s.lo := by
  induction h with
  | nil => exact fun h => ⟨h, fun b hb => hb⟩
  | cons l u n h1 h2 h3 ih =>
    intro h
    have h' := h
    rw [← List.take_append_drop n l] at h'
    obtain ⟨ha, hb, hc⟩ := h'.app
    obtain ⟨i1, i2⟩ := ih hb
    obtain ⟨j1, j2, j3, _⟩ := join_ok ha h1
    obtain ⟨n1, n2, n3, n4⟩ := h1
    have mem : ∀ i, i < n → l.getD i default ∈ l.take n := fun i hi => by
      have hlt : i < (l.take n).length := by rw [List.length_take]; omega
      have : l.getD i default = (l.take n)[i] := by simp [List.getD, show i < l.length by omega]
      rw [this]; exact List.getElem_mem hlt
    have hu : ∀ x ∈ u, (joinI (l.take n)).hi < x.lo := i2 _ fun s hs => by rw [j3]; exact hc _ (mem (n - 1) (by omega)) s hs
    refine ⟨⟨fun p hp => ?_, ?_⟩, fun b hbb s hs => ?_⟩
    · simp only [spansOf, List.map_cons, List.mem_cons] at hp
      rcases hp with rfl | hp
      · exact j1
      · exact i1.1 p hp
    · simp only [spansOf, List.map_cons, List.pairwise_cons]
      refine ⟨fun p hp => ?_, i1.2⟩
      obtain ⟨x, hx, rfl⟩ := List.mem_map.1 hp
      exact hu x hx
    · rcases List.mem_cons.1 hs with rfl | hs
      · rw [j2]; exact hbb _ (List.mem_of_mem_take (mem 0 (by omega)))
      · exact i2 b (fun x hx => hbb x (List.mem_of_mem_drop hx)) s hs
/-- what one joined segment is made of -/
theorem UpOK.at_ {size : Int} {l u : List Seg} {j k : Nat} (hl : SegsOK l) (h : UpOK size (l.drop k) (u.drop j)) (hj : j < u.length) : ∃ n : Nat, 1 ≤ n ∧ (n : Int) ≤ size ∧ k + n ≤ l.length ∧ (u.getD j default).lo = (l.getD k default).lo ∧ (u.getD j default).hi = (l.getD (k + n - 1) default).hi ∧
    (u.getD j default).head = (l.getD (k + n - 1) default).head ∧ (u.getD j default).root = anyR ((l.drop k).take n) ∧ ((u.getD j default).lo < split ↔ (u.getD j default).hi < split) ∧ UpOK size (l.drop (k + n)) (u.drop (j + 1)) := by
  have eu : u.drop j = u.getD j default :: u.drop (j + 1) := by rw [List.drop_eq_getElem_cons hj]; simp [List.getD, hj]
  rw [eu] at h
  generalize hl2 : l.drop k = l2 at h
  generalize hu2 : u.getD j default :: u.drop (j + 1) = u2 at h
  cases h with
  | nil => cases hu2
  | cons _ u' n h1 h2 h3 =>
    have e1 : u.getD j default = joinI (l2.take n) := by injection hu2
    have e2 : u.drop (j + 1) = u' := by injection hu2
    have hs : SegsOK (l2.take n) := by
      have h' := hl
      rw [← List.take_append_drop k l] at h'
      have := h'.app.2.1
      rw [hl2, ← List.take_append_drop n l2] at this
      exact this.app.1
    obtain ⟨j1, j2, j3, j4⟩ := join_ok hs h1
    obtain ⟨n1, n2, n3, n4⟩ := h1
    have hlen : l2.length = l.length - k := by rw [← hl2, List.length_drop]
    have at2 : ∀ i, l2.getD i default = l.getD (k + i) default := fun i => by rw [← hl2]; simp [List.getD]
    have e3 : k + (n - 1) = k + n - 1 := by omega
    refine ⟨n, n1, n2, by omega, ?_, ?_, ?_, ?_, ?_, ?_⟩
    · rw [e1, j2, at2]; rfl
    · rw [e1, j3, at2, e3]
    · rw [e1, j4, at2, e3]
    · rw [e1]; rfl
    · rw [e1]; exact j1.2.2.2
    · rw [e2, ← List.drop_drop, hl2]; exact h3
theorem LevOK.segs {size : Int} {l : List Seg} {L : List (List Seg)} (h : LevOK size l L) (hl : SegsOK l) : ∀ i, i < L.length → SegsOK (L.getD i [])
  | 0, _ => by rw [h.2.2.1]; exact hl
  | i + 1, hi => ((h.2.2.2.1 i hi).1.segs (LevOK.segs h hl i (by omega))).1

end Gv.Try
/- The plain law of what levels hold. -/
set_option linter.unusedVariables false
set_option maxRecDepth 20000
set_option linter.unusedSimpArgs false
namespace Gv.Try
open Go Gv Go.Proofs

def clos (m o : List (List Int)) (l : List Int) : Prop := ∀ x ∈ l, ∀ p ∈ parI m o x, hasI m.length o.length p = true → p ∈ l
/-- where one is, the other one is an ancestor -/
def Leads (m o : List (List Int)) (a b : Int) : Prop := ∀ l : List Int, b ∈ l → clos m o l → a ∈ l
theorem Leads.refl (m o : List (List Int)) (a : Int) : Leads m o a a := fun l h _ => h
theorem Leads.trans {m o : List (List Int)} {a b c : Int} (h : Leads m o a b) (k : Leads m o b c) : Leads m o a c := fun l hl hc => h l (k l hl hc) hc
theorem Leads.par {m o : List (List Int)} {a b : Int} (h : a ∈ parI m o b) (ha : hasI m.length o.length a = true) : Leads m o a b := fun l hl hc => hc b hl a h ha
structure SegH (m o : List (List Int)) (s : Seg) : Prop where
  le : s.lo ≤ s.hi
  lead : ∀ id, s.lo ≤ id → id ≤ s.hi → Leads m o id s.hi
  has : ∀ id, s.lo ≤ id → id ≤ s.hi → hasI m.length o.length id = true
  all : ∀ id, s.lo ≤ id → id ≤ s.hi → ∀ p ∈ parI m o id, p < s.lo → p ∈ s.par
  from_ : ∀ p ∈ s.par, p < s.lo ∧ ∃ id, s.lo ≤ id ∧ id ≤ s.hi ∧ p ∈ parI m o id
  nodup : s.par.Nodup
def okC (m o : List (List Int)) : Nat → List Seg → Nat → Prop
  | n, [], n' => n = n'
  | n, s :: r, n' => SegH m o s ∧ (∀ d : Nat, s.lo + d ≤ s.hi → n + d < m.length + o.length ∧ (allI m.length o.length).getD (n + d) 0 = s.lo + d) ∧ okC m o (n + (s.hi - s.lo + 1).toNat) r n'
theorem okC_append (m o : List (List Int)) : ∀ (a b : List Seg) (n n' : Nat), okC m o n (a ++ b) n' ↔ ∃ k, okC m o n a k ∧ okC m o k b n'
  | [], b, n, n' => by simp [okC]
  | s :: a, b, n, n' => by
    simp only [List.cons_append, okC, okC_append m o a b]
    constructor
    · rintro ⟨h1, h2, k, h3, h4⟩; exact ⟨k, ⟨h1, h2, h3⟩, h4⟩
    · rintro ⟨k, ⟨h1, h2, h3⟩, h4⟩; exact ⟨h1, h2, k, h3, h4⟩
theorem okC_le (m o : List (List Int)) : ∀ (l : List Seg) (n n' : Nat), okC m o n l n' → n ≤ n' ∧ (l ≠ [] → n < n') ∧ (∀ s ∈ l, SegH m o s)
  | [], n, n', h => by simp only [okC] at h; subst h; simp
  | s :: r, n, n', h => by
    simp only [okC] at h
    obtain ⟨h1, h2, h3⟩ := h
    have := okC_le m o r _ _ h3
    have hle := h1.le
    refine ⟨by omega, fun _ => by omega, fun x hx => ?_⟩
    rcases List.mem_cons.1 hx with rfl | hx
    · exact h1
    · exact this.2.2 x hx
/-- each place is in a segment -/
theorem okC_in (m o : List (List Int)) : ∀ (l : List Seg) (n n' : Nat), okC m o n l n' → ∀ i, n ≤ i → i < n' → ∃ s ∈ l, s.lo ≤ (allI m.length o.length).getD i 0 ∧ (allI m.length o.length).getD i 0 ≤ s.hi
  | [], n, n', h, i, h1, h2 => by simp only [okC] at h; omega
  | s :: r, n, n', h, i, h1, h2 => by
    simp only [okC] at h
    obtain ⟨k1, k2, k3⟩ := h
    by_cases e : i < n + (s.hi - s.lo + 1).toNat
    · have := k2 (i - n) (by have := k1.le; omega)
      rw [show n + (i - n) = i by omega] at this
      exact ⟨s, by simp, by omega, by have := k1.le; omega⟩
    · obtain ⟨x, hx, hh⟩ := okC_in m o r _ _ k3 i (by omega) h2
      exact ⟨x, by simp [hx], hh⟩
/-- the first and the last place -/
theorem okC_ends (m o : List (List Int)) : ∀ (l : List Seg) (n n' : Nat), okC m o n l n' → l ≠ [] → n' ≤ m.length + o.length ∧ (l.getD 0 default).lo = (allI m.length o.length).getD n 0 ∧ (l.getD (l.length - 1) default).hi = (allI m.length o.length).getD (n' - 1) 0
  | [], n, n', h, hne => absurd rfl hne
  | s :: r, n, n', h, _ => by
    simp only [okC] at h
    obtain ⟨k1, k2, k3⟩ := h
    have hle := k1.le
    have e0 := k2 0 (by omega)
    have e1 := k2 (s.hi - s.lo).toNat (by omega)
    have e2 : n + (s.hi - s.lo + 1).toNat - 1 = n + (s.hi - s.lo).toNat := by omega
    refine ⟨?_, by simp; simp at e0; omega, ?_⟩
    · by_cases hr : r = []
      · subst hr; simp only [okC] at k3; omega
      · exact (okC_ends m o r _ _ k3 hr).1
    · by_cases hr : r = []
      · subst hr; simp only [okC] at k3
        rw [← k3, e2, e1.2]
        show s.hi = _
        omega
      · have := (okC_ends m o r _ _ k3 hr).2.2
        rw [← this]
        have hpos : 0 < r.length := List.length_pos_iff.2 hr
        simp only [List.length_cons, Nat.add_sub_cancel]
        congr 1
        obtain ⟨j, hj⟩ : ∃ j, r.length = j + 1 := ⟨r.length - 1, by omega⟩
        rw [hj]; simp

theorem jpar_mem (lo : Int) : ∀ (q acc : List Int) (p : Int), p ∈ jpar lo acc q ↔ p ∈ acc ∨ (p ∈ q ∧ p < lo)
  | [], acc, p => by simp [jpar]
  | a :: q, acc, p => by
    rw [jpar, jpar_mem lo q]
    split
    · rename_i h
      simp only [List.mem_append, List.mem_cons, List.mem_nil_iff, or_false]
      constructor
      · rintro ((h1 | h1) | h1)
        · exact .inl h1
        · subst h1; exact .inr ⟨.inl rfl, h.1⟩
        · exact .inr ⟨.inr h1.1, h1.2⟩
      · rintro (h1 | ⟨h1 | h1, h2⟩)
        · exact .inl (.inl h1)
        · exact .inl (.inr h1)
        · exact .inr ⟨h1, h2⟩
    · rename_i h
      simp only [List.mem_cons]
      constructor
      · rintro (h1 | h1)
        · exact .inl h1
        · exact .inr ⟨.inr h1.1, h1.2⟩
      · rintro (h1 | ⟨h1 | h1, h2⟩)
        · exact .inl h1
        · subst h1
          by_cases hm : p ∈ acc
          · exact .inl hm
          · exact absurd ⟨h2, hm⟩ h
        · exact .inr ⟨h1, h2⟩
theorem jpar_nodup (lo : Int) : ∀ (q acc : List Int), acc.Nodup → (jpar lo acc q).Nodup
  | [], acc, h => h
  | a :: q, acc, h => by
    rw [jpar]
    refine jpar_nodup lo q _ ?_
    split
    · rename_i h2
      rw [List.nodup_append]
      exact ⟨h, by simp, fun x hx y hy => by simp at hy; subst hy; exact fun e => h2.2 (by rw [← e]; exact hx)⟩
    · exact h
theorem jall_mem' (lo : Int) (p : Int) : ∀ (l : List Seg) (acc : List Int), p ∈ l.foldl (fun acc s => jpar lo acc s.par) acc ↔ p ∈ acc ∨ ∃ s ∈ l, p ∈ s.par ∧ p < lo
  | [], acc => by simp
  | a :: l, acc => by
    rw [List.foldl_cons, jall_mem' lo p l, jpar_mem]
    simp only [List.mem_cons, exists_eq_or_imp]
    constructor
    · rintro ((h | h) | h)
      · exact .inl h
      · exact .inr (.inl h)
      · exact .inr (.inr h)
    · rintro (h | h | h)
      · exact .inl (.inl h)
      · exact .inl (.inr h)
      · exact .inr h
theorem jall_mem (lo : Int) (p : Int) (l : List Seg) : p ∈ jall lo l ↔ ∃ s ∈ l, p ∈ s.par ∧ p < lo := by
  rw [jall, jall_mem']; simp
theorem jall_nodup (lo : Int) : ∀ (l : List Seg) (acc : List Int), acc.Nodup → (l.foldl (fun acc s => jpar lo acc s.par) acc).Nodup
  | [], acc, h => h
  | a :: l, acc, h => jall_nodup lo l _ (jpar_nodup lo _ _ h)
theorem headsN_pos : ∀ (l : List Seg), l ≠ [] → 1 ≤ headsN l
  | [s], _ => by simp [headsN, anyP]
  | s :: x :: r, _ => by
    have := headsN_pos (x :: r) (by simp)
    rw [headsN]; omega
/-- one head: all lead to the last one -/
theorem leads_last (m o : List (List Int)) : ∀ (l : List Seg), (∀ s ∈ l, SegH m o s) → headsN l = 1 → ∀ s ∈ l, Leads m o s.hi (l.getD (l.length - 1) default).hi
  | [], _, h, s, hs => by simp at hs
  | [a], _, h, s, hs => by simp at hs; subst hs; simp; exact Leads.refl _ _ _
  | a :: x :: r, hh, h, s, hs => by
    have hp := headsN_pos (x :: r) (by simp)
    rw [headsN] at h
    have h1 : anyP a.hi (x :: r) = true := by
      by_cases e : anyP a.hi (x :: r) = true
      · exact e
      · rw [if_neg e] at h; omega
    rw [if_pos h1] at h
    have ih := leads_last m o (x :: r) (fun s hs => hh s (by simp at hs ⊢; right; exact hs)) (by omega)
    have el : (a :: x :: r).getD ((a :: x :: r).length - 1) default = (x :: r).getD ((x :: r).length - 1) default := by simp
    rw [el]
    rcases List.mem_cons.1 hs with rfl | hs
    · simp only [anyP, List.any_eq_true, decide_eq_true_eq] at h1
      obtain ⟨y, hy, hm⟩ := h1
      have hy' := hh y (by simp at hy ⊢; right; exact hy)
      obtain ⟨_, id, i1, i2, i3⟩ := hy'.from_ _ hm
      have hs' := hh s (by simp)
      exact ((Leads.par i3 (hs'.has _ hs'.le (Int.le_refl _))).trans (hy'.lead id i1 i2)).trans (ih y hy)
    · exact ih s hs
/-- numbers of one group are one behind the other -/
theorem allI_run {m o i j : Nat} (h : i ≤ j) (hj : j < m + o) (hm : m + o ≤ 1000) (hg : (allI m o).getD i 0 < split ↔ (allI m o).getD j 0 < split) : (allI m o).getD j 0 = (allI m o).getD i 0 + ((j - i : Nat) : Int) := by
  have hs : split = 1099511627776 := rfl
  have e1 := allI_at m o i (by omega)
  have e2 := allI_at m o j hj
  split at e1 <;> split at e2 <;> omega

theorem okC_join {m o : List (List Int)} (hm : m.length + o.length ≤ 1000) {l : List Seg} {n n' : Nat} (h : okC m o n l n') (hne : l ≠ []) (hs : SegsOK l) (hg : (joinI l).lo < split ↔ (joinI l).hi < split) (hh : l.length = 1 ∨ headsN l = 1) : okC m o n [joinI l] n' := by
  obtain ⟨h1, h2, h3⟩ := okC_le m o l n n' h
  obtain ⟨k1, k2, k3⟩ := okC_ends m o l n n' h hne
  have hlt := h2 hne
  have hpos : 0 < l.length := List.length_pos_iff.2 hne
  have elo : (joinI l).lo = (allI m.length o.length).getD n 0 := k2
  have ehi : (joinI l).hi = (allI m.length o.length).getD (n' - 1) 0 := k3
  have hrun := allI_run (m := m.length) (o := o.length) (i := n) (j := n' - 1) (by omega) (by omega) hm (by rw [← elo, ← ehi]; exact hg)
  have hlast : ∀ s ∈ l, Leads m o s.hi (joinI l).hi := by
    rcases hh with hh | hh
    · intro s hs
      have : l = [s] := by
        match l, hh with
        | [a], _ => simp at hs; rw [hs]
      rw [this]
      exact Leads.refl _ _ _
    · exact leads_last m o l h3 hh
  have hin : ∀ id, (joinI l).lo ≤ id → id ≤ (joinI l).hi → ∃ s ∈ l, s.lo ≤ id ∧ id ≤ s.hi := fun id q1 q2 => by
    have hi : (allI m.length o.length).getD (n + (id - (joinI l).lo).toNat) 0 = id := by
      have hb : n + (id - (joinI l).lo).toNat ≤ n' - 1 := by omega
      have hs : split = 1099511627776 := rfl
      have e0 := allI_at m.length o.length n (by omega)
      have e1 := allI_at m.length o.length (n' - 1) (by omega)
      have e2 := allI_at m.length o.length (n + (id - (joinI l).lo).toNat) (by omega)
      split at e0 <;> split at e1 <;> split at e2 <;> omega
    obtain ⟨s, q3, q4⟩ := okC_in m o l n n' h (n + (id - (joinI l).lo).toNat) (by omega) (by omega)
    rw [hi] at q4
    exact ⟨s, q3, q4⟩
  have hb : ∀ s ∈ l, (joinI l).lo ≤ s.lo ∧ s.hi ≤ (joinI l).hi := fun s hs2 => by
    obtain ⟨i, hi⟩ := List.getElem?_of_mem hs2
    have hil := (List.getElem?_eq_some_iff.1 hi).1
    have ei : l.getD i default = s := by simp [List.getD, hi]
    have s0 := (h3 _ (show l.getD 0 default ∈ l by rw [List.getD_eq_getElem?_getD, List.getElem?_eq_getElem hpos]; exact List.getElem_mem hpos)).le
    have sl := (h3 _ (show l.getD (l.length - 1) default ∈ l by rw [List.getD_eq_getElem?_getD, List.getElem?_eq_getElem (by omega)]; exact List.getElem_mem _)).le
    have ss := (h3 s hs2).le
    constructor
    · show (l.getD 0 default).lo ≤ s.lo
      by_cases e : i = 0
      · subst e; rw [ei]; exact Int.le_refl _
      · have := hs.lt (i := 0) (j := i) (by omega) hil
        rw [ei] at this; omega
    · show s.hi ≤ (l.getD (l.length - 1) default).hi
      by_cases e : i = l.length - 1
      · rw [← e, ei]; exact Int.le_refl _
      · have := hs.lt (i := i) (j := l.length - 1) (by omega) (by omega)
        rw [ei] at this; omega
  refine ⟨⟨by omega, fun id q1 q2 => ?_, fun id q1 q2 => ?_, fun id q1 q2 p hp hlt2 => ?_, fun p hp => ?_, jall_nodup _ _ _ (by simp)⟩, fun d hd => ?_, ?_⟩
  · obtain ⟨s, q3, q4, q5⟩ := hin id q1 q2
    exact ((h3 s q3).lead id q4 q5).trans (hlast s q3)
  · obtain ⟨s, q3, q4, q5⟩ := hin id q1 q2
    exact (h3 s q3).has id q4 q5
  · obtain ⟨s, q3, q4, q5⟩ := hin id q1 q2
    refine (jall_mem _ _ _).2 ⟨s, q3, (h3 s q3).all id q4 q5 p hp ?_, hlt2⟩
    have := (hb s q3).1; omega
  · obtain ⟨s, q3, q4, q5⟩ := (jall_mem _ _ _).1 hp
    obtain ⟨_, id, i1, i2, i3⟩ := (h3 s q3).from_ p q4
    have := hb s q3
    exact ⟨q5, id, by omega, by omega, i3⟩
  · have hb : n + d ≤ n' - 1 := by omega
    have hs : split = 1099511627776 := rfl
    have e0 := allI_at m.length o.length n (by omega)
    have e1 := allI_at m.length o.length (n' - 1) (by omega)
    have e2 := allI_at m.length o.length (n + d) (by omega)
    refine ⟨by omega, ?_⟩
    split at e0 <;> split at e1 <;> split at e2 <;> omega
  · show n + ((joinI l).hi - (joinI l).lo + 1).toNat = n'
    omega

theorem UpOK.okC {m o : List (List Int)} (hm : m.length + o.length ≤ 1000) {size : Int} {l u : List Seg} (h : UpOK size l u) : ∀ n n', SegsOK l → okC m o n l n' → okC m o n u n' := by
  induction h with
  | nil => exact fun n n' _ h => h
  | cons l u n0 h1 h2 h3 ih =>
    intro n n' hs hc
    rw [← List.take_append_drop n0 l, okC_append] at hc
    obtain ⟨k, c1, c2⟩ := hc
    have hs' := hs
    rw [← List.take_append_drop n0 l] at hs'
    obtain ⟨sa, sb, _⟩ := hs'.app
    obtain ⟨j1, _, _, _⟩ := join_ok sa h1
    obtain ⟨n1, n2, n3, n4⟩ := h1
    have hlen : (l.take n0).length = n0 := by rw [List.length_take]; omega
    have hne : l.take n0 ≠ [] := fun e => by rw [e] at hlen; simp at hlen; omega
    have := okC_join hm c1 hne sa j1.2.2.2 (by rw [hlen]; exact h2)
    rw [show joinI (l.take n0) :: u = [joinI (l.take n0)] ++ u from rfl, okC_append]
    exact ⟨k, this, ih k n' sb c2⟩

/-- parents are there, smaller, and different -/
theorem okRow_nodup {m o : Nat} {lim most : Int} : ∀ {q seen : List Int}, okRow m o lim most seen q = true → seen.Nodup → (seen ++ q).Nodup
  | [], seen, _, h => by simpa using h
  | a :: r, seen, h, hs => by
    simp only [okRow, Bool.and_eq_true, Bool.not_eq_true', Bool.or_eq_false_iff, decide_eq_false_iff_not] at h
    have := okRow_nodup h.2 (by rw [List.nodup_append]; exact ⟨hs, by simp, fun x hx y hy => by simp at hy; subst hy; exact fun e => h.1.2 (by rw [← e]; exact hx)⟩)
    simpa using this
theorem okG_at {m o : Nat} {most : Int} : ∀ {l : List (List Int)} {frm : Int}, okG m o most frm l = true → ∀ k, k < l.length → (∀ p ∈ l.getD k [], p < frm + k ∧ hasI m o p = true) ∧ (l.getD k []).Nodup
  | [], _, _, k, hk => by simp at hk
  | a :: l, frm, h, 0, hk => by
    simp only [okG, Bool.and_eq_true] at h
    refine ⟨fun p hp => ?_, ?_⟩
    · have := okRow_at h.1.1 p (by simpa using hp)
      exact ⟨by simp; omega, this.2.2⟩
    · have := okRow_nodup h.1.1 (by simp)
      simpa using this
  | a :: l, frm, h, k + 1, hk => by
    simp only [okG, Bool.and_eq_true] at h
    have := okG_at h.2 k (by simpa using hk)
    simp only [List.getD_cons_succ]
    refine ⟨fun p hp => ?_, this.2⟩
    have := this.1 p hp
    exact ⟨by omega, this.2⟩
theorem parI_props {m o : List (List Int)} (hm : m.length + o.length ≤ 1000) (hr : rightI m o = true) (id : Int) : (∀ p ∈ parI m o id, p < id ∧ hasI m.length o.length p = true) ∧ (parI m o id).Nodup := by
  rw [rightI, Bool.and_eq_true] at hr
  unfold parI
  split
  · rename_i h
    have := okG_at hr.1 id.toNat (by omega)
    refine ⟨fun p hp => ?_, this.2⟩
    have := this.1 p hp
    exact ⟨by omega, this.2⟩
  · split
    · rename_i h
      have := okG_at hr.2 (id - split).toNat (by omega)
      refine ⟨fun p hp => ?_, this.2⟩
      have := this.1 p hp
      exact ⟨by omega, this.2⟩
    · simp
theorem okS_C {m o : List (List Int)} (hm : m.length + o.length ≤ 1000) (hr : rightI m o = true) : ∀ (l : List Seg) (n : Nat), okS m o n l → okC m o n l (m.length + o.length)
  | [], n, h => by simp only [okS] at h; exact h
  | s :: r, n, h => by
    simp only [okS] at h
    obtain ⟨⟨h1, h2, h3⟩, h4, h5, h6, h7, h8⟩ := h
    have inA : ∀ id, s.lo ≤ id → id ≤ s.hi → hasI m.length o.length id = true := fun id q1 q2 => by
      obtain ⟨a, b, _⟩ := h4 (id - s.lo).toNat (by omega)
      rw [← allI_hasI, show id = s.lo + ((id - s.lo).toNat : Int) by omega, ← b, List.getD_eq_getElem?_getD, List.getElem?_eq_getElem (by rw [allI_len]; exact a)]
      exact List.getElem_mem _
    have lead : ∀ k : Nat, s.lo + k ≤ s.hi → Leads m o (s.hi - k) s.hi := by
      intro k
      induction k with
      | zero => intro _; simp; exact Leads.refl _ _ _
      | succ k ih =>
        intro hk
        refine Leads.trans ?_ (ih (by omega))
        obtain ⟨_, _, c⟩ := h4 (s.hi - (k : Int) - s.lo).toNat (by omega)
        have c := c (by omega)
        rw [show s.lo + ((s.hi - (k : Int) - s.lo).toNat : Int) = s.hi - k by omega] at c
        refine Leads.par ?_ (inA _ (by omega) (by omega))
        rw [c]; simp; omega
    refine ⟨⟨h2, fun id q1 q2 => ?_, inA, fun id q1 q2 p hp hlt => ?_, fun p hp => ?_, ?_⟩, fun d hd => ⟨(h4 d hd).1, (h4 d hd).2.1⟩, okS_C hm hr r _ h8⟩
    · have := lead (s.hi - id).toNat (by omega)
      rwa [show s.hi - ((s.hi - id).toNat : Int) = id by omega] at this
    · by_cases e : id = s.lo
      · rw [e, h5] at hp; exact hp
      · obtain ⟨_, _, c⟩ := h4 (id - s.lo).toNat (by omega)
        have c := c (by omega)
        rw [show s.lo + ((id - s.lo).toNat : Int) = id by omega] at c
        rw [c] at hp; simp at hp; omega
    · rw [← h5] at hp
      exact ⟨((parI_props hm hr s.lo).1 p hp).1, s.lo, Int.le_refl _, h2, hp⟩
    · rw [← h5]; exact (parI_props hm hr s.lo).2

/-- a group's segments are one behind the other -/
theorem okS_segs {m o : List (List Int)} (hm : m.length + o.length ≤ 1000) : ∀ (l : List Seg) (n : Nat), okS m o n l → SegsOK l ∧ ∀ s ∈ l, (allI m.length o.length).getD n 0 ≤ s.lo
  | [], n, h => ⟨⟨by simp [spansOf], by simp [spansOf]⟩, by simp⟩
  | s :: r, n, h => by
    simp only [okS] at h
    obtain ⟨⟨h1, h2, h3⟩, h4, h5, h6, h7, h8⟩ := h
    obtain ⟨i1, i2⟩ := okS_segs hm r _ h8
    have hs : split = 1099511627776 := rfl
    obtain ⟨a0, b0, _⟩ := h4 0 (by omega)
    obtain ⟨a1, b1, _⟩ := h4 (s.hi - s.lo).toNat (by omega)
    have e0 := allI_at m.length o.length (n + 0) a0
    have e1 := allI_at m.length o.length (n + (s.hi - s.lo).toNat) a1
    have key : ∀ x ∈ r, s.hi < x.lo := fun x hx => by
      have := i2 x hx
      by_cases e : n + (s.hi - s.lo + 1).toNat < m.length + o.length
      · have e2 := allI_at m.length o.length (n + (s.hi - s.lo + 1).toNat) e
        split at e1 <;> split at e2 <;> omega
      · exfalso
        match r, h8, hx with
        | y :: r', h8, _ =>
          simp only [okS] at h8
          obtain ⟨⟨_, y2, _⟩, y4, _⟩ := h8
          have := (y4 0 (by omega)).1
          omega
    have okp : okP (s.lo, s.hi) := by
      unfold okP
      simp only
      split at e0 <;> split at e1 <;> omega
    refine ⟨⟨fun p hp => ?_, ?_⟩, fun x hx => ?_⟩
    · simp only [spansOf, List.map_cons, List.mem_cons] at hp
      rcases hp with rfl | hp
      · exact okp
      · exact i1.1 p hp
    · simp only [spansOf, List.map_cons, List.pairwise_cons]
      refine ⟨fun p hp => ?_, i1.2⟩
      obtain ⟨x, hx, rfl⟩ := List.mem_map.1 hp
      exact key x hx
    · rcases List.mem_cons.1 hx with rfl | hx
      · simp at b0; simp; omega
      · have := key x hx
        simp at b0
        have : (allI m.length o.length).getD n 0 = s.lo := by simpa using b0
        omega
end Gv.Try
