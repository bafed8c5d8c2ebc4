/- OrderRises gives true. -/
import Derived.Test.YtgkglnjmiobdmaaP13
import Derived.Test.YtgkglnjmiobdmaaP4
import Derived.Test.YtgkglnjmiobdmaaP5
import Derived.Test.YtgkglnjmiobdmaaP6
set_option linter.unusedVariables false
set_option linter.unusedSimpArgs false
set_option maxRecDepth 20000
set_option maxHeartbeats 8000000
namespace Gv.Try
open Go Gv Go.Proofs
theorem walk_len {m : GM} (hm : Good m) {dn : Hs → Bool} {hs : List Hs} {T : WSt} (h : VisL m dn hs ([], []) T) : T.2.length ≤ 1000 := by
  obtain ⟨_, h2, h3, _, _⟩ := vis_spec0 hm.acyc h
  have := nodup_lenH T.2 (m.map (·.1)) h2 fun x hx => look_key (h3 x hx).1
  rw [List.length_map] at this
  have := hm.ok.len
  omega
theorem anc_len {m : GM} (hm : Good m) (l : List Hs) : (ancL m l).length ≤ 1000 := by
  have := nodup_lenH (ancL m l) (m.map (·.1)) (ss_nodup (ancL_ss m l)) fun x hx => look_key (by
    have h := (ancL_mem m l x).1 hx
    cases h with
    | base x hx => exact (List.mem_filter.1 hx).2
    | step x' _ _ hy => exact hm.closed x' _ hy)
  rw [List.length_map] at this
  have := hm.ok.len
  omega
theorem specRises (l : List RR) (hs : List Int) (t : Tag) : GPure Try.prog 6 [.slice (rrsG l) .none, .slice (ints hs) t] (.bool true) := by
  have cH := gHashes hs 8 t (by omega)
  obtain ⟨H, hH⟩ : ∃ H, hashN hs (min hs.length 8) = H := ⟨_, rfl⟩
  have lH : H.length ≤ 8 := by rw [← hH, hashN_len]; omega
  rw [hH] at cH
  refine GCalls.toPure ?_
  refine h6.calls mixS (by simp) ?_
  simp only [gstart, s6, List.cons_append, List.nil_append, List.length_cons, List.length_nil, Nat.reduceAdd, Nat.reduceSub, List.replicate_succ, List.replicate_zero]
  simp +contextual -implicitDefEqProofs (maxSteps := 2000000) (disch := omega) only [drawC, drawK, keepT, ↓lenV, binV, ↓unV, optV, ↓loadV, ↓indexAddrV, ↓sliceV, bound, cutTag, hiTag, GVal.cells, grp, GVal.ofConst, ↓resV, resG, List.map, List.headD, List.take, List.drop, ↓reduceIte, Nat.reduceEqDiff, Nat.reduceAdd, Nat.reduceSub, Nat.reduceLeDiff, reduceCtorEq, implies_true, ne_eq, aggV, Tag.cap, List.replicate, allSolid, GVal.solid, Nat.reduceBEq, Nat.reduceMul, Nat.reduceLT, List.length_map, List.length_range, splice, vcA, ↓vcB, vcC, fbFd, e6]
  refine (gBoth l).mono ?_
  rintro g O' ⟨st, s, rt, m, L, ⟨hm, hL, hA⟩, rfl, rfl⟩
  simp +contextual -implicitDefEqProofs (maxSteps := 2000000) (disch := omega) only [drawC, drawK, keepT, ↓lenV, binV, ↓unV, optV, ↓loadV, ↓indexAddrV, ↓sliceV, bound, cutTag, hiTag, GVal.cells, grp, GVal.ofConst, ↓resV, resG, List.map, List.headD, List.take, List.drop, ↓reduceIte, Nat.reduceEqDiff, Nat.reduceAdd, Nat.reduceSub, Nat.reduceLeDiff, reduceCtorEq, implies_true, ne_eq, aggV, Tag.cap, List.replicate, allSolid, GVal.solid, Nat.reduceBEq, Nat.reduceMul, Nat.reduceLT, List.length_map, List.length_range, splice, vcA, ↓vcB, vcC, fbFd, e6]
  refine gKnown.then ?_ (by rfl)
  simp +contextual -implicitDefEqProofs (maxSteps := 2000000) (disch := omega) only [drawC, drawK, keepT, ↓lenV, binV, ↓unV, optV, ↓loadV, ↓indexAddrV, ↓sliceV, bound, cutTag, hiTag, GVal.cells, grp, GVal.ofConst, ↓resV, resG, List.map, List.headD, List.take, List.drop, ↓reduceIte, Nat.reduceEqDiff, Nat.reduceAdd, Nat.reduceSub, Nat.reduceLeDiff, reduceCtorEq, implies_true, ne_eq, aggV, Tag.cap, List.replicate, allSolid, GVal.solid, Nat.reduceBEq, Nat.reduceMul, Nat.reduceLT, List.length_map, List.length_range, splice, vcA, ↓vcB, vcC, fbFd, e6]
  refine cH.then ?_ (by rfl)
  obtain ⟨T, hT⟩ := walk_ex m (fun _ => false) H
  have lT := walk_len hm hT
  have cW := GCalls.keep2 (gWalkN m hm.gm H .none st s T hT (by omega)) rfl (rObj rt L)
  have cR := GCalls.keep2 (gRising m hm.gm st s T.2 .none (by omega)) rfl (rObj rt L)
  have cS := hSortR T.2 .none (by omega)
  have cA := GCalls.keep2 (gAncestors m hm.gm st s H .none (by simp) (by omega)) rfl (rObj rt L)
  have eS := walk_sorted hm hT
  have aL := anc_len hm H
  have cE := hSame (ancL m H) (ancL m H) .none .none (by omega)
  have cP := fun x => gParK m x st s (by have := hm.gm.pars x; omega) (rObj rt L)
  have wP := walk_pars hm hT
  have wR := walk_rising hm hT
  have wT := (vis_spec0 hm.acyc hT).2.2.1
  rw [eS] at cS
  rw [wR] at cR
  rw [decide_eq_true rfl] at cE
  clear eS wR hT
  obtain ⟨a, ha⟩ : ∃ a, T.2 = a := ⟨_, rfl⟩
  rw [ha] at cW cR cS wP wT lT
  simp +contextual -implicitDefEqProofs (maxSteps := 2000000) (disch := omega) only [drawC, drawK, keepT, ↓lenV, binV, ↓unV, optV, ↓loadV, ↓indexAddrV, ↓sliceV, bound, cutTag, hiTag, GVal.cells, grp, GVal.ofConst, ↓resV, resG, List.map, List.headD, List.take, List.drop, ↓reduceIte, Nat.reduceEqDiff, Nat.reduceAdd, Nat.reduceSub, Nat.reduceLeDiff, reduceCtorEq, implies_true, ne_eq, aggV, Tag.cap, List.replicate, allSolid, GVal.solid, Nat.reduceBEq, Nat.reduceMul, Nat.reduceLT, List.length_map, List.length_range, splice, vcA, ↓vcB, vcC, fbFd, e6]
  refine cW.mono ?_
  rintro g O' ⟨rfl, rfl⟩
  simp +contextual -implicitDefEqProofs (maxSteps := 2000000) (disch := omega) only [drawC, drawK, keepT, ↓lenV, binV, ↓unV, optV, ↓loadV, ↓indexAddrV, ↓sliceV, bound, cutTag, hiTag, GVal.cells, grp, GVal.ofConst, ↓resV, resG, List.map, List.headD, List.take, List.drop, ↓reduceIte, Nat.reduceEqDiff, Nat.reduceAdd, Nat.reduceSub, Nat.reduceLeDiff, reduceCtorEq, implies_true, ne_eq, aggV, Tag.cap, List.replicate, allSolid, GVal.solid, Nat.reduceBEq, Nat.reduceMul, Nat.reduceLT, List.length_map, List.length_range, splice, vcA, ↓vcB, vcC, fbFd, e6]
  refine cR.mono ?_
  rintro g O' ⟨rfl, rfl⟩
  simp +contextual -implicitDefEqProofs (maxSteps := 2000000) (disch := omega) only [drawC, drawK, keepT, ↓lenV, binV, ↓unV, optV, ↓loadV, ↓indexAddrV, ↓sliceV, bound, cutTag, hiTag, GVal.cells, grp, GVal.ofConst, ↓resV, resG, List.map, List.headD, List.take, List.drop, ↓reduceIte, Nat.reduceEqDiff, Nat.reduceAdd, Nat.reduceSub, Nat.reduceLeDiff, reduceCtorEq, implies_true, ne_eq, aggV, Tag.cap, List.replicate, allSolid, GVal.solid, Nat.reduceBEq, Nat.reduceMul, Nat.reduceLT, List.length_map, List.length_range, splice, vcA, ↓vcB, vcC, fbFd, e6]
  refine cS.then ?_ (by rfl)
  simp +contextual -implicitDefEqProofs (maxSteps := 2000000) (disch := omega) only [drawC, drawK, keepT, ↓lenV, binV, ↓unV, optV, ↓loadV, ↓indexAddrV, ↓sliceV, bound, cutTag, hiTag, GVal.cells, grp, GVal.ofConst, ↓resV, resG, List.map, List.headD, List.take, List.drop, ↓reduceIte, Nat.reduceEqDiff, Nat.reduceAdd, Nat.reduceSub, Nat.reduceLeDiff, reduceCtorEq, implies_true, ne_eq, aggV, Tag.cap, List.replicate, allSolid, GVal.solid, Nat.reduceBEq, Nat.reduceMul, Nat.reduceLT, List.length_map, List.length_range, splice, vcA, ↓vcB, vcC, fbFd, e6]
  refine cA.mono ?_
  rintro g O' ⟨rfl, rfl⟩
  simp +contextual -implicitDefEqProofs (maxSteps := 2000000) (disch := omega) only [drawC, drawK, keepT, ↓lenV, binV, ↓unV, optV, ↓loadV, ↓indexAddrV, ↓sliceV, bound, cutTag, hiTag, GVal.cells, grp, GVal.ofConst, ↓resV, resG, List.map, List.headD, List.take, List.drop, ↓reduceIte, Nat.reduceEqDiff, Nat.reduceAdd, Nat.reduceSub, Nat.reduceLeDiff, reduceCtorEq, implies_true, ne_eq, aggV, Tag.cap, List.replicate, allSolid, GVal.solid, Nat.reduceBEq, Nat.reduceMul, Nat.reduceLT, List.length_map, List.length_range, splice, vcA, ↓vcB, vcC, fbFd, e6]
  refine cE.then ?_ (by rfl)
  simp +contextual -implicitDefEqProofs (maxSteps := 2000000) (disch := omega) only [drawC, drawK, keepT, ↓lenV, binV, ↓unV, optV, ↓loadV, ↓indexAddrV, ↓sliceV, bound, cutTag, hiTag, GVal.cells, grp, GVal.ofConst, ↓resV, resG, List.map, List.headD, List.take, List.drop, ↓reduceIte, Nat.reduceEqDiff, Nat.reduceAdd, Nat.reduceSub, Nat.reduceLeDiff, reduceCtorEq, implies_true, ne_eq, aggV, Tag.cap, List.replicate, allSolid, GVal.solid, Nat.reduceBEq, Nat.reduceMul, Nat.reduceLT, List.length_map, List.length_range, splice, vcA, ↓vcB, vcC, fbFd, e6]
  refine vcSLoop_by (ι := { k : Nat // k ≤ a.length }) (fun k => ⟨List.replicate 5 .any ++ [.ptr 0 st 0 0, .any, .any, .slice (hsG a) .none, .int .i64 (k.1 : Nat)] ++ List.replicate 62 .any, gObj st s m ++ rObj rt L⟩) (fun k => a.length - k.1) ?_ ?_
  · exact Into.first ⟨0, by omega⟩ ⟨[], by simp⟩ (by simp [WL, leG_self, leG_any])
  · rintro ⟨k, hk⟩
    by_cases h : k < a.length
    · have d0 : ((k : Int) < (a.length : Int)) = True := eq_true (by omega)
      have eX := hsG_at a k h
      have hx : a[k]? = some (a.getD k h0) := by simp [List.getD, h]
      generalize a.getD k h0 = x at *
      have hxt := (wT x (List.mem_of_getElem? hx)).1
      have cPx := cP x
      rw [hxt] at cPx
      have wPx := wP k x hx
      obtain ⟨ps, hps⟩ : ∃ ps, parsM m x = ps := ⟨_, rfl⟩
      rw [hps] at cPx wPx
      have hpl : ps.length ≤ 4 := by rw [← hps]; exact hm.gm.pars x
      simp +contextual -implicitDefEqProofs (maxSteps := 2000000) (disch := omega) only [drawC, drawK, keepT, ↓lenV, binV, ↓unV, optV, ↓loadV, ↓indexAddrV, ↓sliceV, bound, cutTag, hiTag, GVal.cells, grp, GVal.ofConst, ↓resV, resG, List.map, List.headD, List.take, List.drop, ↓reduceIte, Nat.reduceEqDiff, Nat.reduceAdd, Nat.reduceSub, Nat.reduceLeDiff, reduceCtorEq, implies_true, ne_eq, aggV, Tag.cap, List.replicate, allSolid, GVal.solid, Nat.reduceBEq, Nat.reduceMul, Nat.reduceLT, List.length_map, List.length_range, splice, vcA, ↓vcB, vcC, fbFd, e6, d0, eX, hsG_len, take32, len32, solidH]
      refine ⟨by omega, cPx.mono ?_⟩
      rintro g O' ⟨rfl, rfl⟩
      simp +contextual -implicitDefEqProofs (maxSteps := 2000000) (disch := omega) only [drawC, drawK, keepT, ↓lenV, binV, ↓unV, optV, ↓loadV, ↓indexAddrV, ↓sliceV, bound, cutTag, hiTag, GVal.cells, grp, GVal.ofConst, ↓resV, resG, List.map, List.headD, List.take, List.drop, ↓reduceIte, Nat.reduceEqDiff, Nat.reduceAdd, Nat.reduceSub, Nat.reduceLeDiff, reduceCtorEq, implies_true, ne_eq, aggV, Tag.cap, List.replicate, allSolid, GVal.solid, Nat.reduceBEq, Nat.reduceMul, Nat.reduceLT, List.length_map, List.length_range, splice, vcA, ↓vcB, vcC, fbFd, e6]
      refine vcSLoop_by (ι := { j : Nat // j ≤ ps.length }) (fun j => ⟨List.replicate 5 .any ++ [.ptr 0 st 0 0, .any, .any, .slice (hsG a) .none, .int .i64 (k : Nat), .slice (hsG ps) .none, .any, .int .i64 (j.1 : Nat)] ++ List.replicate 59 .any, gObj st s m ++ rObj rt L⟩) (fun j => ps.length - j.1) ?_ ?_
      · exact Into.first ⟨0, by omega⟩ ⟨[], by simp⟩ (by simp [WL, leG_self, leG_any])
      · rintro ⟨j, hj⟩
        by_cases h' : j < ps.length
        · have d1 : ((j : Int) < (ps.length : Int)) = True := eq_true (by omega)
          have eP := hsG_at ps j h'
          have hy : ps.getD j h0 ∈ ps := by
            rw [List.getD_eq_getElem?_getD, List.getElem?_eq_getElem h']; exact List.getElem_mem h'
          generalize ps.getD j h0 = y at *
          have cI := hIn (a.take k) .none y (by rw [List.length_take]; omega)
          rw [decide_eq_true (wPx y hy)] at cI
          simp +contextual -implicitDefEqProofs (maxSteps := 2000000) (disch := omega) only [drawC, drawK, keepT, ↓lenV, binV, ↓unV, optV, ↓loadV, ↓indexAddrV, ↓sliceV, bound, cutTag, hiTag, GVal.cells, grp, GVal.ofConst, ↓resV, resG, List.map, List.headD, List.take, List.drop, ↓reduceIte, Nat.reduceEqDiff, Nat.reduceAdd, Nat.reduceSub, Nat.reduceLeDiff, reduceCtorEq, implies_true, ne_eq, aggV, Tag.cap, List.replicate, allSolid, GVal.solid, Nat.reduceBEq, Nat.reduceMul, Nat.reduceLT, List.length_map, List.length_range, splice, vcA, ↓vcB, vcC, fbFd, e6, d0, d1, eP, hsG_len, all_hsG, take32, len32, solidH, take_hs, toNat0, List.drop_zero]
          refine ⟨by omega, by omega, by omega, by omega, ?_⟩
          refine cI.then ?_ (by rfl)
          simp +contextual -implicitDefEqProofs (maxSteps := 2000000) (disch := omega) only [drawC, drawK, keepT, ↓lenV, binV, ↓unV, optV, ↓loadV, ↓indexAddrV, ↓sliceV, bound, cutTag, hiTag, GVal.cells, grp, GVal.ofConst, ↓resV, resG, List.map, List.headD, List.take, List.drop, ↓reduceIte, Nat.reduceEqDiff, Nat.reduceAdd, Nat.reduceSub, Nat.reduceLeDiff, reduceCtorEq, implies_true, ne_eq, aggV, Tag.cap, List.replicate, allSolid, GVal.solid, Nat.reduceBEq, Nat.reduceMul, Nat.reduceLT, List.length_map, List.length_range, splice, vcA, ↓vcB, vcC, fbFd, e6]
          exact Into.at ⟨j + 1, by omega⟩ (by show ps.length - (j + 1) < ps.length - j; omega) ⟨[], by simp⟩ (by simp [WL, leG_self, leG_any, leG_int])
        · have d1 : ((j : Int) < (ps.length : Int)) = False := eq_false (by omega)
          simp +contextual -implicitDefEqProofs (maxSteps := 2000000) (disch := omega) only [drawC, drawK, keepT, ↓lenV, binV, ↓unV, optV, ↓loadV, ↓indexAddrV, ↓sliceV, bound, cutTag, hiTag, GVal.cells, grp, GVal.ofConst, ↓resV, resG, List.map, List.headD, List.take, List.drop, ↓reduceIte, Nat.reduceEqDiff, Nat.reduceAdd, Nat.reduceSub, Nat.reduceLeDiff, reduceCtorEq, implies_true, ne_eq, aggV, Tag.cap, List.replicate, allSolid, GVal.solid, Nat.reduceBEq, Nat.reduceMul, Nat.reduceLT, List.length_map, List.length_range, splice, vcA, ↓vcB, vcC, fbFd, e6, d1, hsG_len]
          exact Into.at ⟨k + 1, by omega⟩ (by show a.length - (k + 1) < a.length - k; omega) ⟨[], by simp⟩ (by simp [WL, leG_self, leG_any, leG_int])
    · have d0 : ((k : Int) < (a.length : Int)) = False := eq_false (by omega)
      simp +contextual -implicitDefEqProofs (maxSteps := 2000000) (disch := omega) only [drawC, drawK, keepT, ↓lenV, binV, ↓unV, optV, ↓loadV, ↓indexAddrV, ↓sliceV, bound, cutTag, hiTag, GVal.cells, grp, GVal.ofConst, ↓resV, resG, List.map, List.headD, List.take, List.drop, ↓reduceIte, Nat.reduceEqDiff, Nat.reduceAdd, Nat.reduceSub, Nat.reduceLeDiff, reduceCtorEq, implies_true, ne_eq, aggV, Tag.cap, List.replicate, allSolid, GVal.solid, Nat.reduceBEq, Nat.reduceMul, Nat.reduceLT, List.length_map, List.length_range, splice, vcA, ↓vcB, vcC, fbFd, e6, d0, hsG_len]
      exact ⟨1, .bool true, rfl, by rw [leA_bool]⟩
end Gv.Try
/- Sets of numbers as lists of spans: the plain theory. -/
set_option linter.unusedVariables false
namespace Gv.Sp
open Gv
abbrev S := Int × Int
def has (l : List S) (n : Int) : Prop := ∃ s ∈ l, 0 ≤ n ∧ s.1 ≤ n ∧ n ≤ s.2
theorem has_cons (s : S) (l : List S) (n : Int) : has (s :: l) n ↔ (0 ≤ n ∧ s.1 ≤ n ∧ n ≤ s.2) ∨ has l n := by simp [has]
def Rt : Int → List S → Prop
  | _, [] => True
  | b, s :: r => b ≤ s.1 ∧ s.1 ≤ s.2 ∧ Rt (s.2 + 2) r
theorem Rt.weak {b b' : Int} : ∀ {l : List S}, Rt b l → b' ≤ b → Rt b' l
  | [], _, _ => trivial
  | s :: r, ⟨h1, h2, h3⟩, h => ⟨by omega, h2, h3⟩
theorem Rt.ge {n : Int} : ∀ {l : List S} {b : Int}, Rt b l → has l n → b ≤ n
  | [], b, _, h => by simp [has] at h
  | s :: r, b, ⟨h1, h2, h3⟩, h => by
    rcases (has_cons s r n).1 h with h | h
    · omega
    · have := h3.ge h; omega
theorem Rt.mem {s : S} : ∀ {l : List S} {b : Int}, Rt b l → s ∈ l → b ≤ s.1 ∧ s.1 ≤ s.2
  | [], b, _, h => by simp at h
  | x :: r, b, ⟨h1, h2, h3⟩, h => by
    rcases List.mem_cons.1 h with rfl | h
    · exact ⟨h1, h2⟩
    · have := h3.mem h; omega
theorem Rt.lo {s : S} {l : List S} {b : Int} (h : Rt b l) (hb : 0 ≤ b) (hs : s ∈ l) : has l s.1 := ⟨s, hs, by have := h.mem hs; omega⟩
theorem Rt.hi {s : S} {l : List S} {b : Int} (h : Rt b l) (hb : 0 ≤ b) (hs : s ∈ l) : has l s.2 := ⟨s, hs, by have := h.mem hs; omega⟩
theorem uniq : ∀ {l l' : List S} {b b' : Int}, Rt b l → Rt b' l' → 0 ≤ b → 0 ≤ b' → (∀ n, has l n ↔ has l' n) → l = l'
  | [], [], _, _, _, _, _, _, _ => rfl
  | [], y :: r, _, b', _, h', _, h0', h => absurd ((h y.1).2 (h'.lo h0' (by simp))) (by simp [has])
  | x :: r, [], b, _, h', _, h0', _, h => absurd ((h x.1).1 (h'.lo h0' (by simp))) (by simp [has])
  | (x1, x2) :: r, (y1, y2) :: q, b, b', hx, hy, hb, hb', h => by
    have e1 : has ((y1, y2) :: q) x1 := (h _).1 (hx.lo hb (s := (x1, x2)) (by simp))
    have e2 : has ((x1, x2) :: r) y1 := (h _).2 (hy.lo hb' (s := (y1, y2)) (by simp))
    obtain ⟨p1, p2, p3⟩ := hx
    obtain ⟨q1, q2, q3⟩ := hy
    simp only at p1 p2 p3 q1 q2 q3
    have g1 : y1 ≤ x1 := by
      rcases (has_cons _ _ _).1 e1 with e | e
      · exact e.2.1
      · have := q3.ge e; omega
    have g2 : x1 ≤ y1 := by
      rcases (has_cons _ _ _).1 e2 with e | e
      · exact e.2.1
      · have := p3.ge e; omega
    have g : x1 = y1 := by omega
    have k1 : ¬ x2 < y2 := fun hlt => by
      have e := (h (x2 + 1)).2 ((has_cons _ _ _).2 (.inl ⟨by omega, by show y1 ≤ _; omega, by show _ ≤ y2; omega⟩))
      rcases (has_cons _ _ _).1 e with e | e
      · have := e.2.2; simp only at this; omega
      · have := p3.ge e; omega
    have k2 : ¬ y2 < x2 := fun hlt => by
      have e := (h (y2 + 1)).1 ((has_cons _ _ _).2 (.inl ⟨by omega, by show x1 ≤ _; omega, by show _ ≤ x2; omega⟩))
      rcases (has_cons _ _ _).1 e with e | e
      · have := e.2.2; simp only at this; omega
      · have := q3.ge e; omega
    have k : x2 = y2 := by omega
    subst g; subst k
    have hr : ∀ n, has r n ↔ has q n := fun n => by
      constructor
      · intro hn
        rcases (has_cons _ _ _).1 ((h n).1 ((has_cons _ _ _).2 (.inr hn))) with e | e
        · have := p3.ge hn; have := e.2.2; simp only at this; omega
        · exact e
      · intro hn
        rcases (has_cons _ _ _).1 ((h n).2 ((has_cons _ _ _).2 (.inr hn))) with e | e
        · have := q3.ge hn; have := e.2.2; simp only at this; omega
        · exact e
    rw [uniq p3 q3 (by omega) (by omega) hr]

def ins : List S → S → List S
  | [], s => [s]
  | x :: r, s => if x.2 + 1 < s.1 then x :: ins r s else if s.2 + 1 < x.1 then s :: x :: r else ins r (min s.1 x.1, max s.2 x.2)
def put (acc : List S) (s : S) : List S := if max s.1 0 ≤ s.2 then ins acc (max s.1 0, s.2) else acc
def Ok (l : List S) : Prop := ∀ s ∈ l, (-9223372036854775808 ≤ s.1 ∧ s.1 ≤ 9223372036854775807) ∧ (-9223372036854775808 ≤ s.2 ∧ s.2 ≤ 9223372036854775807)
theorem Ok.has {l : List S} (h : Ok l) {n : Int} (hn : has l n) : n ≤ 9223372036854775807 := by obtain ⟨s, hs, h1, h2, h3⟩ := hn; have := (h s hs).2.2; omega
theorem Ok.app {a b : List S} (ha : Ok a) (hb : Ok b) : Ok (a ++ b) := fun s hs => (List.mem_append.1 hs).elim (ha s) (hb s)
theorem Ok.nil : Ok [] := fun s hs => by simp at hs
theorem Ok.at {l : List S} (h : Ok l) (i : Nat) : (-9223372036854775808 ≤ (l.getD i (0, 0)).1 ∧ (l.getD i (0, 0)).1 ≤ 9223372036854775807) ∧ (-9223372036854775808 ≤ (l.getD i (0, 0)).2 ∧ (l.getD i (0, 0)).2 ≤ 9223372036854775807) := by
  by_cases hi : i < l.length
  · rw [List.getD_eq_getElem?_getD, List.getElem?_eq_getElem hi]; exact h _ (List.getElem_mem hi)
  · rw [List.getD_eq_getElem?_getD, List.getElem?_eq_none (by omega)]; simp
theorem Rt.at {l : List S} {b : Int} (h : Rt b l) (i : Nat) (hi : i < l.length) : b ≤ (l.getD i (0, 0)).1 ∧ (l.getD i (0, 0)).1 ≤ (l.getD i (0, 0)).2 := by
  rw [List.getD_eq_getElem?_getD, List.getElem?_eq_getElem hi]; exact h.mem (List.getElem_mem hi)

def both (a b : List S) : List S :=
  match a, b with
  | [], _ => []
  | _ :: _, [] => []
  | x :: a, y :: b => (if max x.1 y.1 ≤ min x.2 y.2 then [(max x.1 y.1, min x.2 y.2)] else []) ++ if x.2 < y.2 then both a (y :: b) else both (x :: a) b
termination_by a.length + b.length
def restF (low : Int) : List S → List S
  | [] => [(low, 9223372036854775807)]
  | s :: r => (if low < s.1 then [(low, s.1 - 1)] else []) ++ if s.2 = 9223372036854775807 then [] else restF (s.2 + 1) r
def rest (l : List S) : List S := restF 0 l
end Gv.Sp
/- Spans as ghost values. -/
set_option linter.unusedVariables false
namespace Gv
end Gv
/- What some shapes read as. -/
set_option linter.unusedVariables false
namespace Gv
open Go
theorem den_slice {α : Type} {e : Sh} (enc : α → List GVal) (ok : α → Prop) (he : ∀ {x}, Den e x → ∃ a, x = enc a ∧ ok a) {gs : List GVal} (h : Den (.slice e) gs) : ∃ l : List α, gs = [.slice (l.map enc) .none] ∧ l.length ≤ maxLen ∧ ∀ a ∈ l, ok a := by
  obtain ⟨xs, rfl, hl, hx⟩ := h
  have : ∀ xs : List (List GVal), (∀ x ∈ xs, Den e x) → ∃ l : List α, xs = l.map enc ∧ ∀ a ∈ l, ok a := by
    intro xs
    induction xs with
    | nil => exact fun _ => ⟨[], rfl, by simp⟩
    | cons a r ih =>
      intro h
      obtain ⟨l, rfl, hl⟩ := ih fun x hx => h x (by simp [hx])
      obtain ⟨n, rfl, hn⟩ := he (h a (by simp))
      exact ⟨n :: l, rfl, by simpa using ⟨hn, hl⟩⟩
  obtain ⟨l, rfl, h2⟩ := this xs hx
  exact ⟨l, rfl, by simpa using hl, h2⟩
end Gv
/- OrderRises: from the readings. -/
set_option linter.unusedVariables false
namespace Gv.Try
open Go Gv Go.Proofs
abbrev rawS : Sh := .agg [.int .i64, .int .i64, .slice (.int .i64)]
abbrev rrS : Sh := .agg [.slice rawS, .slice (.int .i64), .int .i64, .int .i64]
theorem den_ints {gs : List GVal} (h : Den (.slice (.int .i64)) gs) : ∃ l : List Int, gs = [.slice (ints l) .none] := by
  obtain ⟨l, rfl, _⟩ := den_slice (fun n : Int => [.int .i64 n]) (fun n => (Lit.int .i64 n).wf = true) (fun {x} (h : Den (.int .i64) x) => h) h
  exact ⟨l, rfl⟩
theorem den_raw {gs : List GVal} (h : Den rawS gs) : ∃ r : RC, gs = rawC r ∧ True := by
  obtain ⟨ps, rfl, p, q, rfl, ⟨a, rfl, _⟩, p2, q2, rfl, ⟨b, rfl, _⟩, p3, q3, rfl, h3, rfl⟩ := h
  obtain ⟨l, rfl⟩ := den_ints h3
  exact ⟨(a, b, l), rfl, trivial⟩
theorem den_rr {gs : List GVal} (h : Den rrS gs) : ∃ r : RR, gs = rrG r ∧ True := by
  obtain ⟨ps, rfl, p, q, rfl, h1, p2, q2, rfl, h2, p3, q3, rfl, ⟨c, rfl, _⟩, p4, q4, rfl, ⟨d, rfl, _⟩, rfl⟩ := h
  obtain ⟨l, rfl, _, _⟩ := den_slice rawC (fun _ => True) (fun {x} h => den_raw h) h1
  obtain ⟨hs, rfl⟩ := den_ints h2
  exact ⟨⟨l, hs, c, d⟩, rfl, trivial⟩
theorem den_rrs {gs : List GVal} (h : Den (.slice rrS) gs) : ∃ l : List RR, gs = [.slice (rrsG l) .none] := by
  obtain ⟨l, rfl, _, _⟩ := den_slice rrG (fun _ => True) (fun {x} h => den_rr h) h
  exact ⟨l, rfl⟩
theorem wRises {g0 g1 : List GVal} (h0 : Den (.slice rrS) g0) (h1 : Den (.slice (.int .i64)) g1) : GPure Try.prog 6 ([Sh.val (.slice rrS) g0, Sh.val (.slice (.int .i64)) g1]) (.bool true) := by
  obtain ⟨l, rfl⟩ := den_rrs h0
  obtain ⟨hs, rfl⟩ := den_ints h1
  exact specRises l hs .none
end Gv.Try
