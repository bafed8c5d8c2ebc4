/- graph.Descendants: the contract. -/
import Derived.Test.YtnenmmdpclglhaaGreatDoorP13
import Derived.Test.YtnenmmdpclglhaaGreatDoorP8
import Derived.Test.YtnenmmdpclglhaaGreatDoorP10
import Derived.Test.YtnenmmdpclglhaaGreatDoorP5
import Derived.Test.YtnenmmdpclglhaaGreatDoorProg
import Derived.WalkKit
import Derived.LaidEql
import Derived.Stop.Asserts
import Derived.RowKitTokens
import Derived.Test.YtnenmmdpclglhaaGreatDoorP9
set_option linter.unusedVariables false
set_option linter.unusedSimpArgs false
set_option maxRecDepth 20000
set_option maxHeartbeats 4000000
namespace Gv.Tryz
open Go Gv Go.Proofs
open Nat (reduceEqDiff reduceAdd reduceSub reduceLeDiff reduceMul reduceLT)
def kidsM (m : GM) (x : Hs) : List Hs := (m.filter fun q => decide (x ∈ q.2)).map (·.1)
theorem kidsM_mem {m : GM} {x y : Hs} : y ∈ kidsM m x ↔ ∃ q ∈ m, x ∈ q.2 ∧ y = q.1 := by
  unfold kidsM
  rw [List.mem_map]
  constructor
  · rintro ⟨q, hq, rfl⟩
    obtain ⟨h1, h2⟩ := List.mem_filter.1 hq
    exact ⟨q, h1, of_decide_eq_true h2, rfl⟩
  · rintro ⟨q, h1, h2, rfl⟩
    exact ⟨q, List.mem_filter.2 ⟨h1, decide_eq_true h2⟩, rfl⟩
theorem parsM_put (ch : GM) (p h x : Hs) : parsM (kidPut ch p h) x = if x = p then parsM ch x ++ [h] else parsM ch x := by
  unfold parsM kidPut
  rw [look_mset]
  by_cases e : x = p
  · rw [if_pos e, if_pos e, e]; rfl
  · rw [if_neg e, if_neg e]
theorem parsM_row (h x y : Hs) : ∀ (ps : List Hs) (ch : GM), y ∈ parsM (kidRow ch h ps) x ↔ y ∈ parsM ch x ∨ (x ∈ ps ∧ y = h)
  | [], ch => by simp [kidRow]
  | p :: r, ch => by
    have := parsM_row h x y r (kidPut ch p h)
    rw [show kidRow ch h (p :: r) = kidRow (kidPut ch p h) h r from rfl, this, parsM_put]
    by_cases e : x = p
    · rw [if_pos e]; simp [e]; exact fun _ q => .inr q
    · rw [if_neg e]; simp [e]
theorem parsM_all (x y : Hs) : ∀ (pre ch : GM), y ∈ parsM (pre.foldl (fun c q => kidRow c q.1 q.2) ch) x ↔ y ∈ parsM ch x ∨ ∃ q ∈ pre, x ∈ q.2 ∧ y = q.1
  | [], ch => by simp
  | q :: r, ch => by
    rw [List.foldl_cons, parsM_all x y r, parsM_row]
    constructor
    · rintro ((h | h) | ⟨z, h1, h2⟩)
      · exact .inl h
      · exact .inr ⟨q, by simp, h⟩
      · exact .inr ⟨z, by simp [h1], h2⟩
    · rintro (h | ⟨z, h1, h2⟩)
      · exact .inl (.inl h)
      · rcases List.mem_cons.1 h1 with e | e
        · rw [e] at h2; exact .inl (.inr h2)
        · exact .inr ⟨z, e, h2⟩
theorem kids_of_perm {pre m : GM} (hp : pre.Perm m) (x y : Hs) : y ∈ parsM (kidAll pre) x ↔ y ∈ kidsM m x := by
  unfold kidAll
  rw [parsM_all, kidsM_mem]
  constructor
  · rintro (h | ⟨q, h1, h2⟩)
    · cases h
    · exact ⟨q, hp.mem_iff.1 h1, h2⟩
  · rintro ⟨q, h1, h2⟩
    exact .inr ⟨q, hp.mem_iff.2 h1, h2⟩
theorem reach_iff {n1 n2 : Hs → List Hs} (h : ∀ x y, y ∈ n1 x ↔ y ∈ n2 x) (l : List Hs) (z : Hs) : Reach n1 l z ↔ Reach n2 l z := by
  constructor
  · intro r
    induction r with
    | base x hx => exact .base x hx
    | step x y _ hy ih => exact .step x y ih ((h x y).1 hy)
  · intro r
    induction r with
    | base x hx => exact .base x hx
    | step x y _ hy ih => exact .step x y ih ((h x y).2 hy)
noncomputable def desL (m : GM) (l : List Hs) : List Hs := by
  classical exact sortR ((l ++ hashesM m).filter fun x => decide (Reach (kidsM m) (inM m l) x))
theorem desL_ss (m : GM) (l : List Hs) : SS (desL m l) := sortR_ss _
theorem kids_in {m : GM} {x y : Hs} (h : y ∈ kidsM m x) : y ∈ hashesM m := by
  obtain ⟨q, h1, _, rfl⟩ := kidsM_mem.1 h
  exact List.mem_append_left _ (List.mem_map_of_mem h1)
theorem desL_mem (m : GM) (l : List Hs) (x : Hs) : x ∈ desL m l ↔ Reach (kidsM m) (inM m l) x := by
  classical
  unfold desL
  rw [sortR_mem, List.mem_filter, decide_eq_true_eq]
  refine ⟨fun h => h.2, fun h => ⟨?_, h⟩⟩
  cases h with
  | base x hx => exact List.mem_append_left _ (List.mem_filter.1 hx).1
  | step x y _ hy => exact List.mem_append_right _ (kids_in hy)
theorem gDes1 (a : GObj) (M : GM) (h : Hs) (s : Nat) (l : List Hs) (el : look M h = some l) : GCalls Tryz.prog 48 [.agg (bytesG h.1), .ref [.map 1 s]] [a, .map s (kvG encL M)] (fun g O' => g = .slice (hsG l) .none ∧ O' = [a, .map s (kvG encL M)]) := by
  obtain ⟨i, hi, hv, _⟩ := look_idx encL M h l el
  refine h48.calls mixS (by simp) ?_
  simp only [gstart, s48, List.cons_append, List.nil_append, List.length_cons, List.length_nil, reduceAdd, reduceSub, List.replicate_succ, List.replicate_zero]
  simp +contextual -implicitDefEqProofs (maxSteps := 2000000) (disch := omega) only [optV, ↓loadV, ↓boxV, ↓sliceV, bound, cutTag, hiTag, GVal.cells, GVal.ofConst, ↓resV, resG, ↓reduceIte, reduceEqDiff, reduceAdd, reduceSub, reduceLeDiff, reduceCtorEq, ↓lookupV, keyOk, keyCells, pairG, Tag.cap, GVal.solid, Nat.reduceBEq, reduceMul, reduceLT, vcA, ↓vcB, vcC, fbFy, e48, kfind_h, hi, hv, vcD, v32]
theorem gDes0 (a : GObj) (M : GM) (h : Hs) (s : Nat) (el : look M h = none) : GCalls Tryz.prog 48 [.agg (bytesG h.1), .ref [.map 1 s]] [a, .map s (kvG encL M)] (fun g O' => g = .slice [] .nil ∧ O' = [a, .map s (kvG encL M)]) := by
  obtain ⟨hi, _⟩ := look_none encL M h el
  refine h48.calls mixS (by simp) ?_
  simp only [gstart, s48, List.cons_append, List.nil_append, List.length_cons, List.length_nil, reduceAdd, reduceSub, List.replicate_succ, List.replicate_zero]
  simp +contextual -implicitDefEqProofs (maxSteps := 2000000) (disch := omega) only [optV, ↓loadV, ↓boxV, ↓sliceV, bound, cutTag, hiTag, GVal.cells, GVal.ofConst, ↓resV, resG, ↓reduceIte, reduceEqDiff, reduceAdd, reduceSub, reduceLeDiff, reduceCtorEq, ↓lookupV, keyOk, keyCells, pairG, Tag.cap, GVal.solid, Nat.reduceBEq, reduceMul, reduceLT, vcA, ↓vcB, vcC, fbFy, e48, kfind_h, hi, vcD, v32]
theorem gDesN (a : GObj) (M : GM) (h : Hs) (s : Nat) : GCalls Tryz.prog 48 [.agg (bytesG h.1), .ref [.map 1 s]] [a, .map s (kvG encL M)] (fun g O' => g = .slice (hsG (parsM M h)) .none ∧ O' = [a, .map s (kvG encL M)]) := by
  cases el : look M h with
  | some l => rw [parsM_some el]; exact gDes1 a M h s l el
  | none =>
    rw [parsM_none el]
    refine GCalls.into ((gDes0 a M h s el).mono ?_)
    rintro g O' ⟨rfl, rfl⟩
    exact GInto.weak (O := [a, .map s (kvG encL M)]) (X := []) (by rw [leG_none]; rfl) (.here ⟨rfl, rfl⟩)
theorem dHalf (m : GM) (hm : GMOK m) (st s stC : Nat) (l : List Hs) (t : Tag) (ht : t = .nil → l = []) (hl : l.length ≤ 10000) (ch : GM) (hch : ∀ x y, y ∈ parsM ch x ↔ y ∈ kidsM m x) (hKb : Kb 40000 ch) :
    vcS Tryz.prog [] (.seq s16_15 .ret) (retQ Tryz.prog [.tmp 4] (dropTo fun g O' => g = .slice (hsG (desL m l)) .none ∧ O' = gObj st s m)) ⟨dS (.ptr 0 st 0 0) (.slice (hsG l) t) (.ref [.map 2 stC]) .any .any .any .any .any .any .any, gObj st s m ++ [.map stC (kvG encL ch)]⟩ := by
  have hfl : (inM m l).length ≤ l.length := List.length_filter_le _ _
  have cT := (gThere m st s l t ht (by omega)).keep2 rfl [.map stC (kvG encL ch)]
  have hkl : ∀ x, (parsM ch x).length ≤ 40000 := fun x => by
    cases e : look ch x with
    | some r => rw [parsM_some e]; exact hKb _ (look_memG e)
    | none => rw [parsM_none e]; simp
  have cR0 := gReached (caps := [.ref [.map 1 stC]]) (parsM ch) (fun h => gDesN (.row st 1 [[.map 1 s]]) ch h stC) rfl (inM m l) .none (by simp) (inM m l ++ hashesM m) (fun x hx => List.mem_append_left _ hx) (fun x _ y hy => List.mem_append_right _ (kids_in ((hch x y).1 hy))) 40000 (fun x _ => hkl x) (by have := hm.hashes; rw [List.length_append]; omega) (by omega) (by omega)
  have cR := GCalls.on2new (O := gObj st s m ++ [.map stC (kvG encL ch)]) (args' := [.slice (hsG (inM m l)) .none, .func (.func 48) [] [.ref [.map 2 stC]]]) (R := fun st kv => ∃ S : List Hs, kv = kvG encB (setM S) ∧ S.Nodup ∧ (∀ x, x ∈ S ↔ Reach (parsM ch) (inM m l) x) ∧ S.length ≤ (inM m l ++ hashesM m).length) (cR0.mono (by
    rintro g O' ⟨st, S, rfl, rfl, h1, h2, h3⟩
    exact ⟨st, _, rfl, rfl, S, rfl, h1, h2, h3⟩)) 0 2 (by omega) rfl rfl ⟨GLe.refl _, GLe.func _ trivial ⟨GLe.ref ⟨GLe.map _ _ _, trivial⟩, trivial⟩, trivial⟩ rfl rfl
  skip
  simp +contextual -implicitDefEqProofs (maxSteps := 2000000) (disch := omega) only [↓lenV, binV, optV, ↓loadV, ↓storeV, ↓fieldAddrV, ↓indexAddrV, ↓allocV, ↓buildSliceV, ↓sliceV, ↓nilV, ↓appendV, ↓srcV, bound, cutTag, hiTag, fillE, GVal.cells, GVal.ofConst, ↓resV, resG, ↓reduceIte, reduceEqDiff, reduceAdd, reduceSub, reduceLeDiff, reduceCtorEq, ↓asrcV, ↓makeMapV, Tag.cap, GVal.solid, Nat.reduceBEq, reduceMul, reduceLT, vcA, ↓vcB, vcC, fbFy, e16, dS, vcD]
  refine cT.mono ?_
  rintro g O' ⟨rfl, rfl⟩
  simp +contextual -implicitDefEqProofs (maxSteps := 2000000) (disch := omega) only [↓lenV, binV, optV, ↓loadV, ↓storeV, ↓fieldAddrV, ↓indexAddrV, ↓allocV, ↓buildSliceV, ↓sliceV, ↓nilV, ↓appendV, ↓srcV, bound, cutTag, hiTag, fillE, GVal.cells, GVal.ofConst, ↓resV, resG, ↓reduceIte, reduceEqDiff, reduceAdd, reduceSub, reduceLeDiff, reduceCtorEq, ↓asrcV, ↓makeMapV, Tag.cap, GVal.solid, Nat.reduceBEq, reduceMul, reduceLT, vcA, ↓vcB, vcC, fbFy, e16, vcD]
  refine cR.mono ?_
  rintro g O' ⟨s2, kv, rfl, rfl, S, rfl, hS, hR, hSl⟩
  have hh := hm.hashes
  rw [List.length_append] at hSl
  have eA : sortR ((setM S).map (·.1)) = desL m l := ss_eq (sortR_ss _) (desL_ss m l) fun z => by
    rw [sortR_mem, desL_mem, ← reach_iff hch, ← hR z]; simp [setM]
  have cS := gSorted encB (setM S) (by simp [setM]; omega) s2
  rw [eA] at cS
  have cS2 : GCalls Tryz.prog 45 [.map 0 s2] [.map s2 (kvG encB (setM S))] (fun g O' => ∃ x', O' = [x'] ∧ (g = .slice (hsG (desL m l)) .none ∧ x' = .map s2 (kvG encB (setM S)))) := cS.mono (by rintro g O' ⟨rfl, rfl⟩; exact ⟨_, rfl, rfl, rfl⟩)
  have cS3 := GCalls.keep1 (args' := [.map 3 s2]) cS2 (O := gObj st s m ++ [.map stC (kvG encL ch)] ++ [.map s2 (kvG encB (setM S))]) 3 rfl rfl rfl rfl
  simp +contextual -implicitDefEqProofs (maxSteps := 2000000) (disch := omega) only [↓lenV, binV, optV, ↓loadV, ↓storeV, ↓fieldAddrV, ↓indexAddrV, ↓allocV, ↓buildSliceV, ↓sliceV, ↓nilV, ↓appendV, ↓srcV, bound, cutTag, hiTag, fillE, GVal.cells, GVal.ofConst, ↓resV, resG, ↓reduceIte, reduceEqDiff, reduceAdd, reduceSub, reduceLeDiff, reduceCtorEq, ↓asrcV, ↓makeMapV, Tag.cap, GVal.solid, Nat.reduceBEq, reduceMul, reduceLT, vcA, ↓vcB, vcC, fbFy, e16, vcD]
  refine cS3.mono ?_
  rintro g O' ⟨rfl, rfl⟩
  simp +contextual -implicitDefEqProofs (maxSteps := 2000000) (disch := omega) only [↓lenV, binV, optV, ↓loadV, ↓storeV, ↓fieldAddrV, ↓indexAddrV, ↓allocV, ↓buildSliceV, ↓sliceV, ↓nilV, ↓appendV, ↓srcV, bound, cutTag, hiTag, fillE, GVal.cells, GVal.ofConst, ↓resV, resG, ↓reduceIte, reduceEqDiff, reduceAdd, reduceSub, reduceLeDiff, reduceCtorEq, ↓asrcV, ↓makeMapV, Tag.cap, GVal.solid, Nat.reduceBEq, reduceMul, reduceLT, vcA, ↓vcB, vcC, fbFy, e16, vcD]
  exact ⟨_, gObj st s m, [.map stC (kvG encL ch), .map s2 (kvG encB (setM S))], rfl, leA_refl _, rfl, rfl⟩
end Gv.Tryz
/- graph.Descendants: put together. -/
set_option linter.unusedVariables false
set_option linter.unusedSimpArgs false
set_option maxRecDepth 20000
set_option maxHeartbeats 4000000
namespace Gv.Tryz
open Go Gv Go.Proofs
theorem ent_fn {β : Type} (R : MapEntry → β → Prop) : ∀ (l : List MapEntry) (m : List β), l.Nodup → l.length = m.length → (∀ (i : Nat) e p, l[i]? = some e → m[i]? = some p → R e p) → (hβ : Nonempty β) → ∃ f : MapEntry → β, l.map f = m ∧ ∀ e ∈ l, R e (f e)
  | [], [], _, _, _, ⟨b⟩ => ⟨fun _ => b, rfl, by simp⟩
  | [], _ :: _, _, h, _, _ => by simp at h
  | _ :: _, [], _, h, _, _ => by simp at h
  | e :: l, p :: m, hn, hl, hR, hb => by
    classical
    obtain ⟨h1, h2⟩ := List.nodup_cons.1 hn
    obtain ⟨f, hf, hr⟩ := ent_fn R l m h2 (by simpa using hl) (fun i x y hx hy => hR (i + 1) x y (by simpa using hx) (by simpa using hy)) hb
    refine ⟨fun x => if x = e then p else f x, ?_, fun x hx => ?_⟩
    · rw [List.map_cons, if_pos rfl, ← hf]
      congr 1
      refine List.map_congr_left fun x hx => ?_
      have hne : x ≠ e := fun q => h1 (by rw [← q]; exact hx)
      show (if x = e then p else f x) = f x
      rw [if_neg hne]
    · rcases List.mem_cons.1 hx with rfl | hx
      · show R x (if x = x then p else f x)
        rw [if_pos rfl]; exact hR 0 _ _ rfl rfl
      · have hne : x ≠ e := fun q => h1 (by rw [← q]; exact hx)
        show R x (if x = e then p else f x)
        rw [if_neg hne]; exact hr x hx
theorem hid_set {E : Env} {O : List GObj} {w : World} {b : Nat} (h : Hid E O w b) (i : Nat) (x : GObj) (hx : x.blk E ≠ some b) : Hid E (O.set i x) w b :=
  ⟨fun ⟨j, y, hy, hb⟩ => by
    rw [List.getElem?_set] at hy
    by_cases e : i = j
    · rw [if_pos e] at hy
      split at hy
      · cases hy; exact hx hb
      · cases hy
    · rw [if_neg e] at hy; exact h.obj ⟨j, y, hy, hb⟩, h.snap, h.lt⟩
theorem gDescendants (m : GM) (hm : GMOK m) (st s : Nat) (l : List Hs) (t : Tag) (ht : t = .nil → l = []) (hl : l.length ≤ 10000) : GCalls Tryz.prog 16 [.ptr 0 st 0 0, .slice (hsG l) t] (gObj st s m) (fun g O' => g = .slice (hsG (desL m l)) .none ∧ O' = gObj st s m) := by
  refine GCalls.dropTo ?_
  refine gcalls_of_wp (hf := Tryz.func16) (hb := rfl) (hn := Tryz.ntmps16) (hr := Tryz.results16) (hen := by kernel_rfl) (hargs := by simp) ?_
  intro E a w hs ha
  obtain ⟨lg, b, es, clock, hlg, hbg, hMg, hs0, k0, hid0, hin0⟩ := hs.hideMap (i := 1) rfl
  change HSim E [.row st 1 [[.map 1 s]], .dead] w at hs0
  change Keep E (gObj st s m) w E [.row st 1 [[.map 1 s]], .dead] w at k0
  change Hid E [.row st 1 [[.map 1 s]], .dead] w b at hid0
  obtain ⟨f, hf, hfe⟩ := ent_fn (fun e (p : Hs × List Hs) => EntryOK E e (.agg (bytesG p.1.1), encL p.2)) es.toList m (hMg.born.2.imp fun h e => h (congrArg _ e)) (by rw [Array.length_toList, hMg.size, kvG, List.length_map]) (fun i e p he hp => hMg.ent i e _ (by simpa using he) (by rw [kvG, List.getElem?_map, hp]; rfl)) ⟨(h0, [])⟩
  have hml : m.length ≤ 10000 := hm.len
  refine wp_seq (wp_part (st := ⟨(gstart 42 [.ptr 0 st 0 0, .slice (hsG l) t] []).s, [.row st 1 [[.map 1 s]], .dead]⟩) mixS (s := s16_0) (C := C0) (by kernel_rfl) (by kernel_rfl) hs0 ha (dR0 _ _ _) ?_)
  rintro ⟨t1, O1⟩ E1 a1 w1 q1 k1 s1R ⟨e1, hw1⟩
  change O1 = [.row st 1 [[.map 1 s]], .dead] at e1
  subst e1
  have s1 := s1R.weak hw1
  show (Code.seq _ _).wp _ _ _ _
  refine wp_seq (wp_part (st := ⟨dS (.ptr 0 st 0 0) (.slice (hsG l) t) .any .any .any .any .any .any .any .any, [.row st 1 [[.map 1 s]], .dead]⟩) mixS (s := s16_1) (C := C0) (by kernel_rfl) (by kernel_rfl) q1 s1 (dR1 _ _ _ (fun _ _ => rfl) (fun _ => rfl)) ?_)
  rintro ⟨t2, O2⟩ E2 a2 w2 q2 k2 s2R ⟨stC, stb, e2, hw2⟩
  change O2 = [.row st 1 [[.map 1 s]], .dead, .map stC [], .row stb 1 [[.map 2 stC]]] at e2
  subst e2
  have s2 := s2R.weak hw2
  have k02 := k1.trans k2
  obtain ⟨lC, bC, esC, cC, hlC, hbC, hMC, h3, k3, hidC, hinC⟩ := q2.hideMap (i := 2) rfl
  have hC0 : w.heap.size ≤ bC := by
    rcases k02.objs bC hinC with ⟨i, x, hx, hb⟩ | h
    · match i with
      | 0 =>
        cases hx
        have : (GObj.row st 1 [[.map 1 s]]).blk E2 = some bC := by rw [GObj.blk_mono k02.ext (hs0.real 0 _ rfl)]; exact hb
        exact absurd (by simp [GObj.blk, hlC, hbC]) (q2.sep 0 2 _ (.map stC []) bC (by omega) rfl rfl this)
      | 1 => cases hx; cases hb
      | i + 2 => simp at hx
    · exact h
  change HSim E2 (obs st s stC stb []) w2 at h3
  change Keep E2 _ w2 E2 (obs st s stC stb []) w2 at k3
  change Hid E2 (obs st s stC stb []) w2 bC at hidC
  have hid2 := (hid0.keep (k02.trans k3)).1
  have hb2 := (hid0.keep (k02.trans k3)).2
  have hnb : bC ≠ b := fun e => by have := hid0.lt; omega
  show (Code.seq _ _).wp _ _ _ _
  refine wp_seq (wp_seq (wp_region_lit (ops_seg (st := ⟨dS (.ptr 0 st 0 0) (.slice (hsG l) t) (.ptr 3 stb 0 0) .any .any .any .any .any .any .any, obs st s stC stb []⟩) 4 rfl rfl h3 s2 (dR2 _ _ st s _) ?_)))
  rintro ⟨t3, O3⟩ E3 a3 w3 q3 k3' s3R ⟨e3, hw3⟩
  change O3 = obs st s stC stb [] at e3
  subst e3
  have s3 := s3R.weak hw3
  have k03 := (k02.trans k3).trans k3'
  have hb3 : w3.heap[b]? = some (.map es clock) := ((hid2.keep k3').2.trans hb2).trans hMg.at_
  have hid3 := (hid2.keep k3').1
  have hidC3 := (hidC.keep k3').1
  have hC3 := (hidC.keep k3').2
  have v14 : a3.eval (.tmp 14) = .map (some b) := map_val (SlotsR.ev (st := ⟨_, []⟩) s3 (.tmp 14)) (k03.ext.loc _ _ hlg) hbg
  refine range_step (t := 88) (k := 44) (e := 33) (m := .tmp 14) rfl rfl (by kernel_rfl) v14 hb3 hMg.born ?_
  intro w4 hwk hg hsz
  have hDok : DOK ⟨st, s, stC, stb, b, w3.heap.size, bC, m, es, clock, E, w, lC⟩ := ⟨hbC, hC0, k03.size, hnb, fun e => by have h1 := hidC3.lt; change bC = w3.heap.size at e; omega, fun e => by have h1 := hid3.lt; change w3.heap.size = b at e; omega, hMg.born⟩
  have hA : AtW ⟨st, s, stC, stb, b, w3.heap.size, bC, m, es, clock, E, w, lC⟩ #[] E3 (obs st s stC stb []) w4 :=
    ⟨q3.grown hg (fun r e => by cases e), k03.grown hg (fun r e => by cases e), hwk, hid3.grown hg,
     ⟨fun ⟨i, x, hx, hb⟩ => absurd ((q3.real i x hx).blk_lt hb) (Nat.lt_irrefl _), fun o => by
        cases hv : E3.snap w3.heap.size o with
        | none => rfl
        | some v => exact absurd (q3.lt hv) (Nat.lt_irrefl _), by show w3.heap.size < w4.heap.size; omega⟩, hidC3.grown hg, k3'.ext.loc _ _ hlC⟩
  have hE : Ent ⟨st, s, stC, stb, b, w3.heap.size, bC, m, es, clock, E, w, lC⟩ [] E3 w4 := ⟨esC, cC, hMC.ext k3'.ext ((hg.block _ hidC3.lt (fun e => by cases e)).trans hC3)⟩
  have hvl : VR E3 (.pointer (some ⟨w3.heap.size, 0, none⟩)) (.lit (.pointer (some ⟨w3.heap.size, 0, none⟩))) := .lit _
  have s4 := (SlotsR.put (st := ⟨_, []⟩) s3 (.refl E3) (d := some 15) hvl []).weak (s' := dS (.ptr 0 st 0 0) (.slice (hsG l) t) (.ptr 3 stb 0 0) .any .any .any (.lit (.pointer (some ⟨w3.heap.size, 0, none⟩))) .any .any .any) (by simp [GSt.put, WL, leG_self, leG_any])
  refine wpList_nil ?_
  show (Code.block _ _).wp _ _ _ _
  refine wp_block (dOuter ⟨st, s, stC, stb, b, w3.heap.size, bC, m, es, clock, E, w, lC⟩ hDok hm f hf hfe ⟨rfl, rfl, rfl⟩ rfl rfl ⟨rfl, rfl, rfl⟩ rfl rfl (by kernel_rfl) (by kernel_rfl) (by kernel_rfl) (by kernel_rfl) (by kernel_rfl) (by kernel_rfl) (by kernel_rfl) (by kernel_rfl) ⟨rfl, rfl, ⟨rfl, rfl, rfl⟩, rfl, rfl, ⟨rfl, rfl, rfl⟩⟩ hA hE s4 ?_)
  intro ct' pre seen E5 a5 w5 hp hct hA5 hE5 s5
  refine inBlock_self ?_
  obtain ⟨es5, c5, hM5⟩ := hE5
  have hM5' : MapAt E5 w5 bC es5 c5 (kvG encL (ctM ct')) := ⟨hM5.at_, by rw [hM5.size, kvT_len]; simp [kvG, ctM], fun i e p he hp => by
    rw [kvG, ctM, List.map_map, List.getElem?_map] at hp
    cases hq : ct'[i]? with
    | none => rw [hq] at hp; cases hp
    | some q =>
      rw [hq] at hp
      cases hp
      have := hM5.ent i e _ he (by rw [kvT_at, hq]; rfl)
      exact ⟨this.1, leG.sound (x := .slice (hsG q.1.2) (.tok (i + 4) q.2)) (y := .slice (hsG q.1.2) .none) (by rw [leG_none]) this.2⟩, hM5.born⟩
  have hMg5 : MapAt E5 w5 b es clock (kvG encL m) := by
    obtain ⟨since, c0, e1, _⟩ := hA5.walk
    exact ⟨e1, hMg.size, fun i e p he hp => ⟨(hMg.ent i e p he hp).1.mono hA5.keep.ext, (hMg.ent i e p he hp).2.mono hA5.keep.ext⟩, hMg.born⟩
  obtain ⟨q6, kf6⟩ := hA5.sim.showMap (i := 2) (st := stC) rfl hA5.loc hbC hM5' hA5.hC
  have k6 := kf6 _ _ _ hA5.keep (.inr hC0)
  have hid6 : Hid E5 ((obs st s stC stb ct').set 2 (.map stC (kvG encL (ctM ct')))) w5 b := hid_set hA5.hb 2 _ (by
    have : (GObj.map stC (kvG encL (ctM ct'))).blk E5 = some bC := by
      have hl := hA5.loc
      change E5.loc stC = some lC at hl
      simp [GObj.blk, hl, hbC]
    rw [this]
    exact fun e => hnb (Option.some.inj e))
  obtain ⟨q7, kf7⟩ := q6.showMap (i := 1) (st := s) rfl (hA5.keep.ext.loc _ _ hlg) hbg hMg5 hid6
  have k7 := kf7 _ _ _ (k0.trans k6) (.inl hin0)
  change HSim E5 (((gObj st s m ++ [.map stC (kvG encL (ctM ct'))]) ++ [.row stb 1 [[.map 2 stC]]]) ++ ct'.map fun q => .tok q.2 32) w5 at q7
  change Keep E (gObj st s m) w E5 (((gObj st s m ++ [.map stC (kvG encL (ctM ct'))]) ++ [.row stb 1 [[.map 2 stC]]]) ++ ct'.map fun q => .tok q.2 32) w5 at k7
  obtain ⟨q8, k8⟩ := q7.drop
  obtain ⟨q9, k9, s9⟩ := q8.meltBox1 s5 5 rfl rfl
  have K9 := (k7.trans k8).trans k9
  have hKb : Kb 40000 (ctM ct') := by
    have := Kb.all pre (fun q hq => hm.row q (hp.mem_iff.1 hq))
    rw [← hct] at this
    intro q hq
    have h1 := this q hq
    have h2 := hp.length_eq
    change pre.length = m.length at h2
    omega
  show (Code.seq _ _).wp _ _ _ _
  refine wp_mono (vc_sound mixS _ (retQ Tryz.prog [.tmp 4] _) ⟨_, _⟩ _ a5 w5 (C := C0) (by kernel_rfl) q9 (s9.weak ?_) (vcS_ok (C := C0) _ _ _ _ _ (by kernel_rfl) (fun _ _ h => h) (dHalf m hm st s stC l t ht hl (ctM ct') (fun x y => by rw [hct]; exact kids_of_perm hp x y) hKb))) (fun e a' w' hpost => Post.trans K9 hpost)
  simp [WL, leG_self, leG_any]
end Gv.Tryz
/- ids' Strip. -/
set_option linter.unusedVariables false
set_option linter.unusedSimpArgs false
set_option maxRecDepth 20000
set_option maxHeartbeats 4000000
namespace Gv.Tryz
open Go Gv Go.Proofs
open Nat (reduceEqDiff reduceAdd reduceSub reduceLeDiff reduceMul reduceLT)
theorem iStripE (m : GM) (hm : GMOK m) (ti st s so : Nat) (n : Int) (M O l : List Hs) (t : Tag) (ht : t = .nil → l = []) (hl : l.length ≤ 10000) (hD : (desL m l).length ≤ 100000) (A B : List Hs) (h : Hs) (eL : l ++ desL m l = A ++ h :: B) (hA : ∀ x ∈ A, masterB (ofM M O) x = false) (hh : masterB (ofM M O) h = true) :
    GCalls Tryz.prog 18 [.ptr 2 ti 0 0, .ptr 0 st 0 0, .slice (hsG l) t] (gObj st s m ++ idO2 ti so n M O) (fun g O' => g = whichG h 19 ∧ O' = gObj st s m ++ idO2 ti so n M O) := by
  have cD := (gDescendants m hm st s l t ht hl).keep2 rfl (idO2 ti so n M O)
  have cC := iConcat l (desL m l) t .none .full (by omega)
  have lL : (l ++ desL m l).length ≤ 110000 := by rw [List.length_append]; omega
  rw [eL] at cC lL
  clear eL
  refine GCalls.dropTo ?_
  refine h18.calls mixS (by simp) ?_
  simp only [gstart, s18, List.cons_append, List.nil_append, List.length_cons, List.length_nil, reduceAdd, reduceSub, List.replicate_succ, List.replicate_zero]
  simp +contextual -implicitDefEqProofs (maxSteps := 2000000) (disch := omega) only [drawC, drawK, keepT, ↓lenV, binV, ↓loadV, ↓storeV, ↓fieldAddrV, ↓indexAddrV, ↓allocV, ↓buildSliceV, ↓nilV, ↓ifaceV, fillE, GVal.cells, GVal.ofConst, ↓resV, resG, ↓reduceIte, reduceEqDiff, reduceAdd, reduceSub, reduceLeDiff, reduceCtorEq, aggV, Tag.cap, GVal.solid, Nat.reduceBEq, reduceMul, reduceLT, vcA, ↓vcB, vcC, fbFy, e18, vcD]
  refine cD.mono ?_
  rintro g O' ⟨rfl, rfl⟩
  simp +contextual -implicitDefEqProofs (maxSteps := 2000000) (disch := omega) only [drawC, drawK, keepT, ↓lenV, binV, ↓loadV, ↓storeV, ↓fieldAddrV, ↓indexAddrV, ↓allocV, ↓buildSliceV, ↓nilV, ↓ifaceV, fillE, GVal.cells, GVal.ofConst, ↓resV, resG, ↓reduceIte, reduceEqDiff, reduceAdd, reduceSub, reduceLeDiff, reduceCtorEq, aggV, Tag.cap, GVal.solid, Nat.reduceBEq, reduceMul, reduceLT, vcA, ↓vcB, vcC, fbFy, e18, vcD]
  refine cC.then ?_ (by rfl)
  simp +contextual -implicitDefEqProofs (maxSteps := 2000000) (disch := omega) only [drawC, drawK, keepT, ↓lenV, binV, ↓loadV, ↓storeV, ↓fieldAddrV, ↓indexAddrV, ↓allocV, ↓buildSliceV, ↓nilV, ↓ifaceV, fillE, GVal.cells, GVal.ofConst, ↓resV, resG, ↓reduceIte, reduceEqDiff, reduceAdd, reduceSub, reduceLeDiff, reduceCtorEq, aggV, Tag.cap, GVal.solid, Nat.reduceBEq, reduceMul, reduceLT, vcA, ↓vcB, vcC, fbFy, e18, hsG_len, vcD]
  obtain ⟨L, eL⟩ : ∃ L, A ++ h :: B = L := ⟨_, rfl⟩
  rw [eL] at lL
  have hAl : A.length < L.length := by rw [← eL]; simp
  have hat : ∀ k, k ≤ A.length → (k < A.length ∧ masterB (ofM M O) (L.getD k h0) = false) ∨ (k = A.length ∧ L.getD k h0 = h) := fun k hk => by
    by_cases q : k < A.length
    · refine .inl ⟨q, ?_⟩
      have : L.getD k h0 = A.getD k h0 := by rw [← eL, List.getD_eq_getElem?_getD, List.getD_eq_getElem?_getD, List.getElem?_append_left q]
      rw [this]
      exact hA _ (by rw [List.getD_eq_getElem?_getD, List.getElem?_eq_getElem q]; exact List.getElem_mem q)
    · have e : k = A.length := by omega
      subst e
      exact .inr ⟨rfl, by rw [← eL, List.getD_eq_getElem?_getD, List.getElem?_append_right (Nat.le_refl _), Nat.sub_self]; rfl⟩
  refine vcSLoop_by (ι := { k : Nat // k ≤ A.length }) (fun k => ⟨[.ptr 2 ti 0 0, .ptr 0 st 0 0, .any, .any, .any, .any, .any, .any, .any, .any, .any, .any, .any, .any, .any, .any, .any, .slice (hsG (A ++ h :: B)) .none, .int .i64 (A ++ h :: B).length, .int .i64 (k.1 : Nat)] ++ List.replicate 27 .any, gObj st s m ++ idO2 ti so n M O⟩) (fun k => A.length - k.1) ?_ ?_
  · exact Into.first ⟨0, Nat.zero_le _⟩ ⟨[], by simp⟩ (by simp [WL, leG_self, leG_any, hsG_len])
  · rintro ⟨k, hk⟩
    change k ≤ A.length at hk
    have d0 : ((k : Int) < (L.length : Int)) = True := eq_true (by omega)
    have eS := hsG_at L k (by omega)
    have hk2 := hat k hk
    clear hat
    simp only [eL]
    generalize L.getD k h0 = x at *
    have cM := fun X => iMasterZ (.row st 1 [[.map 1 s]]) (.map s (kvG encL m)) X ti so n M O x
    rcases hk2 with ⟨q1, q2⟩ | ⟨q1, q2⟩
    · rw [q2] at cM
      simp +contextual -implicitDefEqProofs (maxSteps := 2000000) (disch := omega) only [drawC, drawK, keepT, ↓lenV, binV, ↓loadV, ↓storeV, ↓fieldAddrV, ↓indexAddrV, ↓allocV, ↓buildSliceV, ↓nilV, ↓ifaceV, fillE, GVal.cells, GVal.ofConst, ↓resV, resG, ↓reduceIte, reduceEqDiff, reduceAdd, reduceSub, reduceLeDiff, reduceCtorEq, aggV, Tag.cap, GVal.solid, Nat.reduceBEq, reduceMul, reduceLT, vcA, ↓vcB, vcC, fbFy, e18, d0, eS, hsG_len, all_hsG, setO_3, setO_4, vcD, v32]
      refine ⟨by omega, fun sb => ?_⟩
      refine (cM _).mono ?_
      rintro g O' ⟨rfl, rfl⟩
      simp +contextual -implicitDefEqProofs (maxSteps := 2000000) (disch := omega) only [drawC, drawK, keepT, ↓lenV, binV, ↓loadV, ↓storeV, ↓fieldAddrV, ↓indexAddrV, ↓allocV, ↓buildSliceV, ↓nilV, ↓ifaceV, fillE, GVal.cells, GVal.ofConst, ↓resV, resG, ↓reduceIte, reduceEqDiff, reduceAdd, reduceSub, reduceLeDiff, reduceCtorEq, aggV, Tag.cap, GVal.solid, Nat.reduceBEq, reduceMul, reduceLT, vcA, ↓vcB, vcC, fbFy, e18, vcD]
      exact Into.at ⟨k + 1, q1⟩ (by show _ < _; simp; omega) ⟨[.row sb 32 [bytesG x.1]], by simp⟩ (by simp [WL, leG_self, leG_any, leG_int])
    · subst q2
      rw [hh] at cM
      simp +contextual -implicitDefEqProofs (maxSteps := 2000000) (disch := omega) only [drawC, drawK, keepT, ↓lenV, binV, ↓loadV, ↓storeV, ↓fieldAddrV, ↓indexAddrV, ↓allocV, ↓buildSliceV, ↓nilV, ↓ifaceV, fillE, GVal.cells, GVal.ofConst, ↓resV, resG, ↓reduceIte, reduceEqDiff, reduceAdd, reduceSub, reduceLeDiff, reduceCtorEq, aggV, Tag.cap, GVal.solid, Nat.reduceBEq, reduceMul, reduceLT, vcA, ↓vcB, vcC, fbFy, e18, d0, eS, hsG_len, all_hsG, setO_3, setO_4, vcD, v32]
      refine ⟨by omega, fun sb => ?_⟩
      refine (cM _).mono ?_
      rintro g O' ⟨rfl, rfl⟩
      simp +contextual -implicitDefEqProofs (maxSteps := 2000000) (disch := omega) only [drawC, drawK, keepT, ↓lenV, binV, ↓loadV, ↓storeV, ↓fieldAddrV, ↓indexAddrV, ↓allocV, ↓buildSliceV, ↓nilV, ↓ifaceV, fillE, GVal.cells, GVal.ofConst, ↓resV, resG, ↓reduceIte, reduceEqDiff, reduceAdd, reduceSub, reduceLeDiff, reduceCtorEq, aggV, Tag.cap, GVal.solid, Nat.reduceBEq, reduceMul, reduceLT, vcA, ↓vcB, vcC, fbFy, e18, hsG_len, all_hsG, vcD, v32]
      refine (gOf x 19).then ?_ (by rfl)
      simp +contextual -implicitDefEqProofs (maxSteps := 2000000) (disch := omega) only [drawC, drawK, keepT, ↓lenV, binV, ↓loadV, ↓storeV, ↓fieldAddrV, ↓indexAddrV, ↓allocV, ↓buildSliceV, ↓nilV, ↓ifaceV, fillE, GVal.cells, GVal.ofConst, ↓resV, resG, ↓reduceIte, reduceEqDiff, reduceAdd, reduceSub, reduceLeDiff, reduceCtorEq, aggV, Tag.cap, GVal.solid, Nat.reduceBEq, reduceMul, reduceLT, vcA, ↓vcB, vcC, fbFy, e18, vcD]
      exact ⟨_, gObj st s m ++ idO2 ti so n M O, [.row sb 32 [bytesG x.1]], by simp, leA_refl _, rfl, rfl⟩
theorem iStripRaw (m : GM) (hm : GMOK m) (ti st s so : Nat) (n : Int) (M O l : List Hs) (t : Tag) (ht : t = .nil → l = []) (hl : l.length ≤ 10000) (hD : (desL m l).length ≤ 100000) (hM : M.length ≤ 1000000) (hO : O.length ≤ 1000000) (hA : ∀ x ∈ l ++ desL m l, masterB (ofM M O) x = false) :
    GCalls Tryz.prog 18 [.ptr 2 ti 0 0, .ptr 0 st 0 0, .slice (hsG l) t] (gObj st s m ++ idO2 ti so n M O) (fun g O' => ∃ so', g = .lit .nilIface ∧ O' = (gObj st s m ++ idO2 ti so n M O).set 2 (.row ti 4 [[.int .i64 n, .slice (hsG M) .none, .slice (hsG (woL O (l ++ desL m l))) .none, .map 4 so']]) ++ [.map so' (kvG encI (ofM M (woL O (l ++ desL m l))))]) := by
  have cD := (gDescendants m hm st s l t ht hl).keep2 rfl (idO2 ti so n M O)
  have cC := iConcat l (desL m l) t .none .full (by omega)
  have lL : (l ++ desL m l).length ≤ 110000 := by rw [List.length_append]; omega
  have cW := iWithout O (l ++ desL m l) hO (by omega)
  have wl : (woL O (l ++ desL m l)).length ≤ O.length := List.length_filter_le _ _
  have cN := GCalls.oneNew (z1 := fun so' => .row ti 4 [[.int .i64 n, .slice (hsG M) .none, .slice (hsG (woL O (l ++ desL m l))) .none, .map 4 so']]) (args' := [.ptr 2 ti 0 0, .slice (hsG M) .none, .slice (hsG (woL O (l ++ desL m l))) .none]) (iNumber ti (.int .i64 n) (.slice (hsG M) .none) (.slice (hsG O) .none) (.map 3 so) M (woL O (l ++ desL m l)) hM (by omega)) (O := gObj st s m ++ idO2 ti so n M O) 2 rfl (.refl _) (fun so => OLe.row ⟨⟨GLe.refl _, GLe.refl _, GLe.refl _, GLe.map _ _ _, trivial⟩, trivial⟩) ⟨GLe.ptr _ _ _ _ _, GLe.refl _, GLe.refl _, trivial⟩ rfl rfl (fun _ => rfl) (fun _ => rfl)
  generalize woL O (l ++ desL m l) = W at *
  refine h18.calls mixS (by simp) ?_
  simp only [gstart, s18, List.cons_append, List.nil_append, List.length_cons, List.length_nil, reduceAdd, reduceSub, List.replicate_succ, List.replicate_zero]
  simp +contextual -implicitDefEqProofs (maxSteps := 2000000) (disch := omega) only [drawC, drawK, keepT, ↓lenV, binV, ↓loadV, ↓storeV, ↓fieldAddrV, ↓indexAddrV, ↓allocV, ↓buildSliceV, ↓nilV, ↓ifaceV, fillE, GVal.cells, GVal.ofConst, ↓resV, resG, ↓reduceIte, reduceEqDiff, reduceAdd, reduceSub, reduceLeDiff, reduceCtorEq, aggV, Tag.cap, GVal.solid, Nat.reduceBEq, reduceMul, reduceLT, vcA, ↓vcB, vcC, fbFy, e18, vcD]
  refine cD.mono ?_
  rintro g O' ⟨rfl, rfl⟩
  simp +contextual -implicitDefEqProofs (maxSteps := 2000000) (disch := omega) only [drawC, drawK, keepT, ↓lenV, binV, ↓loadV, ↓storeV, ↓fieldAddrV, ↓indexAddrV, ↓allocV, ↓buildSliceV, ↓nilV, ↓ifaceV, fillE, GVal.cells, GVal.ofConst, ↓resV, resG, ↓reduceIte, reduceEqDiff, reduceAdd, reduceSub, reduceLeDiff, reduceCtorEq, aggV, Tag.cap, GVal.solid, Nat.reduceBEq, reduceMul, reduceLT, vcA, ↓vcB, vcC, fbFy, e18, vcD]
  refine cC.then ?_ (by rfl)
  simp +contextual -implicitDefEqProofs (maxSteps := 2000000) (disch := omega) only [drawC, drawK, keepT, ↓lenV, binV, ↓loadV, ↓storeV, ↓fieldAddrV, ↓indexAddrV, ↓allocV, ↓buildSliceV, ↓nilV, ↓ifaceV, fillE, GVal.cells, GVal.ofConst, ↓resV, resG, ↓reduceIte, reduceEqDiff, reduceAdd, reduceSub, reduceLeDiff, reduceCtorEq, aggV, Tag.cap, GVal.solid, Nat.reduceBEq, reduceMul, reduceLT, vcA, ↓vcB, vcC, fbFy, e18, hsG_len, vcD]
  refine vcSLoop_by (ι := { k : Nat // k ≤ (l ++ desL m l).length }) (fun k => ⟨[.ptr 2 ti 0 0, .ptr 0 st 0 0, .slice (hsG l) t, .any, .any, .any, .any, .any, .any, .any, .any, .any, .any, .any, .any, .any, .any, .slice (hsG (l ++ desL m l)) .none, .int .i64 (l ++ desL m l).length, .int .i64 (k.1 : Nat)] ++ List.replicate 27 .any, gObj st s m ++ idO2 ti so n M O⟩) (fun k => (l ++ desL m l).length - k.1) ?_ ?_
  · exact Into.first ⟨0, Nat.zero_le _⟩ ⟨[], by simp⟩ (by simp [WL, leG_self, leG_any, hsG_len])
  · rintro ⟨k, hk⟩
    change k ≤ (l ++ desL m l).length at hk
    obtain ⟨L, eL⟩ : ∃ L, l ++ desL m l = L := ⟨_, rfl⟩
    simp only [eL] at cC lL cW hA hk ⊢
    by_cases h : k < L.length
    · have d0 : ((k : Int) < (L.length : Int)) = True := eq_true (by omega)
      have eS := hsG_at L k h
      have hx := hA (L.getD k h0) (by rw [List.getD_eq_getElem?_getD, List.getElem?_eq_getElem h]; exact List.getElem_mem h)
      generalize L.getD k h0 = x at *
      have cM := fun X => iMasterZ (.row st 1 [[.map 1 s]]) (.map s (kvG encL m)) X ti so n M O x
      rw [hx] at cM
      simp +contextual -implicitDefEqProofs (maxSteps := 2000000) (disch := omega) only [drawC, drawK, keepT, ↓lenV, binV, ↓loadV, ↓storeV, ↓fieldAddrV, ↓indexAddrV, ↓allocV, ↓buildSliceV, ↓nilV, ↓ifaceV, fillE, GVal.cells, GVal.ofConst, ↓resV, resG, ↓reduceIte, reduceEqDiff, reduceAdd, reduceSub, reduceLeDiff, reduceCtorEq, aggV, Tag.cap, GVal.solid, Nat.reduceBEq, reduceMul, reduceLT, vcA, ↓vcB, vcC, fbFy, e18, d0, eS, hsG_len, all_hsG, setO_3, setO_4, vcD, v32]
      refine ⟨by omega, fun sb => ?_⟩
      refine (cM _).mono ?_
      rintro g O' ⟨rfl, rfl⟩
      simp +contextual -implicitDefEqProofs (maxSteps := 2000000) (disch := omega) only [drawC, drawK, keepT, ↓lenV, binV, ↓loadV, ↓storeV, ↓fieldAddrV, ↓indexAddrV, ↓allocV, ↓buildSliceV, ↓nilV, ↓ifaceV, fillE, GVal.cells, GVal.ofConst, ↓resV, resG, ↓reduceIte, reduceEqDiff, reduceAdd, reduceSub, reduceLeDiff, reduceCtorEq, aggV, Tag.cap, GVal.solid, Nat.reduceBEq, reduceMul, reduceLT, vcA, ↓vcB, vcC, fbFy, e18, vcD]
      exact Into.at ⟨k + 1, by rw [eL]; exact h⟩ (by show _ < _; simp; omega) ⟨[.row sb 32 [bytesG x.1]], by simp⟩ (by simp [WL, leG_self, leG_any, leG_int])
    · have d0 : ((k : Int) < (L.length : Int)) = False := eq_false (by omega)
      simp +contextual -implicitDefEqProofs (maxSteps := 2000000) (disch := omega) only [drawC, drawK, keepT, ↓lenV, binV, ↓loadV, ↓storeV, ↓fieldAddrV, ↓indexAddrV, ↓allocV, ↓buildSliceV, ↓nilV, ↓ifaceV, fillE, GVal.cells, GVal.ofConst, ↓resV, resG, ↓reduceIte, reduceEqDiff, reduceAdd, reduceSub, reduceLeDiff, reduceCtorEq, aggV, Tag.cap, GVal.solid, Nat.reduceBEq, reduceMul, reduceLT, vcA, ↓vcB, vcC, fbFy, e18, d0, vcD]
      refine cD.mono ?_
      rintro g O' ⟨rfl, rfl⟩
      simp +contextual -implicitDefEqProofs (maxSteps := 2000000) (disch := omega) only [drawC, drawK, keepT, ↓lenV, binV, ↓loadV, ↓storeV, ↓fieldAddrV, ↓indexAddrV, ↓allocV, ↓buildSliceV, ↓nilV, ↓ifaceV, fillE, GVal.cells, GVal.ofConst, ↓resV, resG, ↓reduceIte, reduceEqDiff, reduceAdd, reduceSub, reduceLeDiff, reduceCtorEq, aggV, Tag.cap, GVal.solid, Nat.reduceBEq, reduceMul, reduceLT, vcA, ↓vcB, vcC, fbFy, e18, vcD]
      refine ⟨⟨[], by simp⟩, ?_⟩
      refine cC.then ?_ (by rfl)
      simp +contextual -implicitDefEqProofs (maxSteps := 2000000) (disch := omega) only [drawC, drawK, keepT, ↓lenV, binV, ↓loadV, ↓storeV, ↓fieldAddrV, ↓indexAddrV, ↓allocV, ↓buildSliceV, ↓nilV, ↓ifaceV, fillE, GVal.cells, GVal.ofConst, ↓resV, resG, ↓reduceIte, reduceEqDiff, reduceAdd, reduceSub, reduceLeDiff, reduceCtorEq, aggV, Tag.cap, GVal.solid, Nat.reduceBEq, reduceMul, reduceLT, vcA, ↓vcB, vcC, fbFy, e18, vcD]
      refine ⟨⟨[], by simp⟩, ?_⟩
      refine cW.then ?_ (by rfl)
      simp +contextual -implicitDefEqProofs (maxSteps := 2000000) (disch := omega) only [drawC, drawK, keepT, ↓lenV, binV, ↓loadV, ↓storeV, ↓fieldAddrV, ↓indexAddrV, ↓allocV, ↓buildSliceV, ↓nilV, ↓ifaceV, fillE, GVal.cells, GVal.ofConst, ↓resV, resG, ↓reduceIte, reduceEqDiff, reduceAdd, reduceSub, reduceLeDiff, reduceCtorEq, aggV, Tag.cap, GVal.solid, Nat.reduceBEq, reduceMul, reduceLT, vcA, ↓vcB, vcC, fbFy, e18, vcD]
      refine ⟨⟨[], by simp⟩, ?_⟩
      refine cN.mono ?_
      rintro g O' ⟨so', rfl, rfl⟩
      simp +contextual -implicitDefEqProofs (maxSteps := 2000000) (disch := omega) only [drawC, drawK, keepT, ↓lenV, binV, ↓loadV, ↓storeV, ↓fieldAddrV, ↓indexAddrV, ↓allocV, ↓buildSliceV, ↓nilV, ↓ifaceV, fillE, GVal.cells, GVal.ofConst, ↓resV, resG, ↓reduceIte, reduceEqDiff, reduceAdd, reduceSub, reduceLeDiff, reduceCtorEq, aggV, Tag.cap, GVal.solid, Nat.reduceBEq, reduceMul, reduceLT, vcA, ↓vcB, vcC, fbFy, e18, vcD]
      exact ⟨so', rfl⟩
theorem iStripOk (m : GM) (hm : GMOK m) (ti st s so : Nat) (n : Int) (M O l : List Hs) (t : Tag) (ht : t = .nil → l = []) (hl : l.length ≤ 10000) (hD : (desL m l).length ≤ 100000) (hM : M.length ≤ 1000000) (hO : O.length ≤ 1000000) (hA : ∀ x ∈ l ++ desL m l, masterB (ofM M O) x = false) :
    GCalls Tryz.prog 18 [.ptr 2 ti 0 0, .ptr 0 st 0 0, .slice (hsG l) t] (gObj st s m ++ idO2 ti so n M O) (fun g O' => ∃ so', g = .lit .nilIface ∧ O' = gObj st s m ++ idO2 ti so' n M (woL O (l ++ desL m l))) := by
  refine GCalls.into ((iStripRaw m hm ti st s so n M O l t ht hl hD hM hO hA).mono ?_)
  rintro g O' ⟨so', rfl, rfl⟩
  exact GInto.pick (X := gObj st s m ++ idO2 ti so' n M (woL O (l ++ desL m l))) [0, 1, 2, 4] ⟨⟨_, rfl, .refl _⟩, ⟨_, rfl, .refl _⟩, ⟨_, rfl, OLe.row ⟨⟨GLe.refl _, GLe.refl _, GLe.refl _, GLe.map _ _ _, trivial⟩, trivial⟩⟩, ⟨_, rfl, .refl _⟩, trivial⟩ (by decide) rfl ⟨so', rfl, rfl⟩
end Gv.Tryz
/- Contracts: ids' New refused, Update full, Master, All. -/
set_option linter.unusedVariables false
set_option linter.unusedSimpArgs false
set_option maxRecDepth 20000
set_option maxHeartbeats 4000000
namespace Gv.Tryz
open Go Gv Go.Proofs
open Nat (reduceEqDiff reduceAdd reduceSub reduceLeDiff reduceMul reduceLT)
theorem iNewE (n : Int) (h : n < 1 ∨ 600 < n) : GPure Tryz.prog 7 [.int .i64 n] (.tuple [.lit (.pointer none), errG 1]) := by
  rcases h with h | h
  · have d0 : (n < 1) = True := eq_true h
    refine h7.pure mixS (by simp) ?_
    simp only [gstart, s7, List.cons_append, List.nil_append, List.length_cons, List.length_nil, reduceAdd, reduceSub, List.replicate_succ, List.replicate_zero]
    simp +contextual -implicitDefEqProofs (maxSteps := 2000000) (disch := omega) only [binV, ↓boxV, ↓buildV, ↓ifaceV, fillG, place, GVal.cells, GVal.ofConst, ↓resV, resG, ↓reduceIte, reduceEqDiff, reduceAdd, reduceSub, reduceLeDiff, reduceCtorEq, ↓makeMapV, Tag.cap, GVal.solid, Nat.reduceBEq, reduceMul, reduceLT, vcA, ↓vcB, vcC, fbFy, e7, d0, vcD]
  · have d0 : (n < 1) = False := eq_false (by omega)
    have d1 : (600 < n) = True := eq_true h
    refine h7.pure mixS (by simp) ?_
    simp only [gstart, s7, List.cons_append, List.nil_append, List.length_cons, List.length_nil, reduceAdd, reduceSub, List.replicate_succ, List.replicate_zero]
    simp +contextual -implicitDefEqProofs (maxSteps := 2000000) (disch := omega) only [binV, ↓boxV, ↓buildV, ↓ifaceV, fillG, place, GVal.cells, GVal.ofConst, ↓resV, resG, ↓reduceIte, reduceEqDiff, reduceAdd, reduceSub, reduceLeDiff, reduceCtorEq, ↓makeMapV, Tag.cap, GVal.solid, Nat.reduceBEq, reduceMul, reduceLT, vcA, ↓vcB, vcC, fbFy, e7, d0, d1, vcD]
theorem iUpdFull (m : GM) (hm : GMOK m) (ti st s so : Nat) (cs : List Cm) (hs : List Hs) (th : Tag) (n : Int) (M O : List Hs) (T : WSt) (hT : VisL m (masterB (ofM M O)) hs ([], []) T) (hl : hs.length ≤ 1000000) (hM : M.length ≤ 1000000) (hTl : T.2.length ≤ 1000000) (hn : n < (M.length : Int) + T.2.length) :
    GCalls Tryz.prog 12 [.ptr 2 ti 0 0, .ptr 0 st 0 0, .agg (reqG cs hs th 1)] (gObj st s m ++ idO2 ti so n M O) (fun g O' => g = errG 13 ∧ O' = gObj st s m ++ idO2 ti so n M O) := by
  have cW := iWalkM m hm hs th st s ti so n M O T hT hl
  have d0 : (n < (M.length : Int) + T.2.length) = True := eq_true hn
  have en : norm .i64 ((M.length : Int) + T.2.length) = (M.length : Int) + T.2.length := norm_i64 (by omega)
  refine GCalls.dropTo ?_
  refine h12.calls mixS (by simp) ?_
  simp only [gstart, s12, List.cons_append, List.nil_append, List.length_cons, List.length_nil, reduceAdd, reduceSub, List.replicate_succ, List.replicate_zero]
  simp +contextual -implicitDefEqProofs (maxSteps := 2000000) (disch := omega) only [drawC, drawK, keepT, ↓lenV, binV, ↓loadV, ↓storeV, ↓fieldAddrV, ↓indexAddrV, ↓allocV, ↓boxV, ↓buildV, ↓buildSliceV, ↓nilV, ↓ifaceV, ↓appendV, ↓srcV, fillG, fillE, place, GVal.cells, GVal.ofConst, ↓resV, resG, ↓reduceIte, reduceEqDiff, reduceAdd, reduceSub, reduceLeDiff, reduceCtorEq, ↓asrcV, aggV, Tag.cap, GVal.solid, Nat.reduceBEq, reduceMul, reduceLT, vcA, ↓vcB, vcC, fbFy, e12, take32, take32a, len32, vcD]
  refine cW.mono ?_
  rintro g O' ⟨rfl, rfl⟩
  simp +contextual -implicitDefEqProofs (maxSteps := 2000000) (disch := omega) only [drawC, drawK, keepT, ↓lenV, binV, ↓loadV, ↓storeV, ↓fieldAddrV, ↓indexAddrV, ↓allocV, ↓boxV, ↓buildV, ↓buildSliceV, ↓nilV, ↓ifaceV, ↓appendV, ↓srcV, fillG, fillE, place, GVal.cells, GVal.ofConst, ↓resV, resG, ↓reduceIte, reduceEqDiff, reduceAdd, reduceSub, reduceLeDiff, reduceCtorEq, ↓asrcV, aggV, Tag.cap, GVal.solid, Nat.reduceBEq, reduceMul, reduceLT, vcA, ↓vcB, vcC, fbFy, e12, hsG_len, en, d0, vcD]
  exact ⟨_, gObj st s m ++ idO2 ti so n M O, [], by simp, leA_refl _, rfl, rfl⟩
theorem ok1 (a b : Int) (h1 : -9223372036854775808 ≤ a ∧ a ≤ 9223372036854775807) (h2 : -9223372036854775808 ≤ b ∧ b ≤ 9223372036854775807) : Sp.Ok [(a, b)] := by
  intro s hs
  rw [List.mem_singleton] at hs
  subst hs
  exact ⟨h1, h2⟩
theorem iMasterS (ti so : Nat) (n : Int) (M O : List Hs) (hM : M.length ≤ 1000000) : GCalls Tryz.prog 25 [.ptr 0 ti 0 0] (idO ti so n M O) (fun g O' => g = .slice (Gv.spl (Sp.nf [(0, (M.length : Int) - 1)])) .none ∧ O' = idO ti so n M O) := by
  have c := sMake [(0, (M.length : Int) - 1)] .full (by simp) (ok1 _ _ (by omega) (by omega))
  refine h25.calls mixS (by simp) ?_
  simp only [gstart, s25, List.cons_append, List.nil_append, List.length_cons, List.length_nil, reduceAdd, reduceSub, List.replicate_succ, List.replicate_zero]
  simp +contextual -implicitDefEqProofs (maxSteps := 2000000) (disch := omega) only [↓lenV, binV, optV, ↓loadV, ↓fieldAddrV, ↓buildV, ↓buildSliceV, ↓sliceV, ↓nilV, bound, cutTag, hiTag, fillG, fillE, place, GVal.cells, GVal.ofConst, ↓resV, resG, ↓reduceIte, reduceEqDiff, reduceAdd, reduceSub, reduceLeDiff, reduceCtorEq, Tag.cap, GVal.solid, Nat.reduceBEq, reduceMul, reduceLT, vcA, ↓vcB, vcC, fbFy, e25, hsG_len, vcD]
  refine c.then ?_ (by rfl)
  simp +contextual -implicitDefEqProofs (maxSteps := 2000000) (disch := omega) only [↓lenV, binV, optV, ↓loadV, ↓fieldAddrV, ↓buildV, ↓buildSliceV, ↓sliceV, ↓nilV, bound, cutTag, hiTag, fillG, fillE, place, GVal.cells, GVal.ofConst, ↓resV, resG, ↓reduceIte, reduceEqDiff, reduceAdd, reduceSub, reduceLeDiff, reduceCtorEq, Tag.cap, GVal.solid, Nat.reduceBEq, reduceMul, reduceLT, vcA, ↓vcB, vcC, fbFy, e25, vcD]
theorem iAllS (ti so : Nat) (n : Int) (M O : List Hs) (hM : M.length ≤ 1000000) (hO : O.length ≤ 1000000) : GCalls Tryz.prog 24 [.ptr 0 ti 0 0] (idO ti so n M O) (fun g O' => g = .slice (Gv.spl (Sp.uni (Sp.nf [(0, (M.length : Int) - 1)]) [(1099511627776, 1099511627776 + (O.length : Int) - 1)])) .none ∧ O' = idO ti so n M O) := by
  have c := iMasterS ti so n M O hM
  have l1 : (Sp.nf [(0, (M.length : Int) - 1)]).length ≤ 1 := Sp.nf_len _
  have k1 : Sp.Ok (Sp.nf [(0, (M.length : Int) - 1)]) := Sp.nf_ok (ok1 _ _ (by omega) (by omega))
  have u := sUnion (Sp.nf [(0, (M.length : Int) - 1)]) [(1099511627776, 1099511627776 + (O.length : Int) - 1)] .none .full (by simp; omega) k1 (ok1 _ _ (by omega) (by omega))
  refine h24.calls mixS (by simp) ?_
  simp only [gstart, s24, List.cons_append, List.nil_append, List.length_cons, List.length_nil, reduceAdd, reduceSub, List.replicate_succ, List.replicate_zero]
  simp +contextual -implicitDefEqProofs (maxSteps := 2000000) (disch := omega) only [drawC, drawK, keepT, ↓lenV, binV, optV, ↓loadV, ↓fieldAddrV, ↓buildV, ↓buildSliceV, ↓sliceV, ↓nilV, bound, cutTag, hiTag, fillG, fillE, place, GVal.cells, GVal.ofConst, ↓resV, resG, ↓reduceIte, reduceEqDiff, reduceAdd, reduceSub, reduceLeDiff, reduceCtorEq, Tag.cap, GVal.solid, Nat.reduceBEq, reduceMul, reduceLT, vcA, ↓vcB, vcC, fbFy, e24, hsG_len, vcD]
  refine c.mono ?_
  rintro g O' ⟨rfl, rfl⟩
  simp +contextual -implicitDefEqProofs (maxSteps := 2000000) (disch := omega) only [drawC, drawK, keepT, ↓lenV, binV, optV, ↓loadV, ↓fieldAddrV, ↓buildV, ↓buildSliceV, ↓sliceV, ↓nilV, bound, cutTag, hiTag, fillG, fillE, place, GVal.cells, GVal.ofConst, ↓resV, resG, ↓reduceIte, reduceEqDiff, reduceAdd, reduceSub, reduceLeDiff, reduceCtorEq, Tag.cap, GVal.solid, Nat.reduceBEq, reduceMul, reduceLT, vcA, ↓vcB, vcC, fbFy, e24, hsG_len, vcD]
  refine ⟨⟨[], by simp⟩, ?_⟩
  refine u.then ?_ (by rfl)
  simp +contextual -implicitDefEqProofs (maxSteps := 2000000) (disch := omega) only [drawC, drawK, keepT, ↓lenV, binV, optV, ↓loadV, ↓fieldAddrV, ↓buildV, ↓buildSliceV, ↓sliceV, ↓nilV, bound, cutTag, hiTag, fillG, fillE, place, GVal.cells, GVal.ofConst, ↓resV, resG, ↓reduceIte, reduceEqDiff, reduceAdd, reduceSub, reduceLeDiff, reduceCtorEq, Tag.cap, GVal.solid, Nat.reduceBEq, reduceMul, reduceLT, vcA, ↓vcB, vcC, fbFy, e24, vcD]
end Gv.Tryz
/- The example of chapter 13. -/
set_option linter.unusedVariables false
set_option linter.unusedSimpArgs false
set_option maxRecDepth 20000
set_option maxHeartbeats 4000000
namespace Gv.Tryz
open Go Gv Go.Proofs
open Nat (reduceEqDiff reduceAdd reduceSub reduceLeDiff reduceMul reduceLT)
theorem iAdd (m M : GM) (hG : GOK m) (cs : List Cm) (e : Er) (he : addedE m cs = e) (hM : addedM m cs = M) (st s : Nat) (hc : cs.length ≤ 1000000) (hp : ∀ c ∈ cs, c.2.length ≤ 1000000) (X : List GObj) {args' : List GVal} (ha : GLes args' [.ptr 0 st 0 0, .slice (csG cs) .none]) :
    GCalls Tryz.prog 11 args' (gObj st s m ++ X) (fun g O' => ∃ s', g = errV e ∧ O' = gObj st s' M ++ X) := by
  refine (GCalls.on2 (R := fun g x' y' => g = errV (addedE m cs) ∧ ∃ s', x' = .row st 1 [[.map 1 s']] ∧ y' = .map s' (kvG encL (addedM m cs))) (gAdd m hG cs st s hc hp) (O := gObj st s m ++ X) 0 1 (by omega) rfl rfl (.refl _) ha rfl rfl (by rintro g x' y' ⟨_, s', rfl, rfl⟩; exact ⟨rfl, rfl⟩) rfl).mono ?_
  rintro g O' ⟨x', y', ⟨rfl, s', rfl, rfl⟩, rfl⟩
  exact ⟨s', by rw [he], by rw [hM]; rfl⟩
theorem iUpdT {m : GM} {ti st s so : Nat} {n : Int} {M O M1 O2 : List Hs} {args args' : List GVal} (h : GCalls Tryz.prog 12 args (gObj st s m ++ idO2 ti so n M O) (fun g O' => ∃ so', g = .lit .nilIface ∧ O' = gObj st s m ++ idO2 ti so' n M1 O2)) (ha : GLes args' args) (X : List GObj) :
    GCalls Tryz.prog 12 args' (gObj st s m ++ (idO2 ti so n M O ++ X)) (fun g O' => ∃ so', g = .lit .nilIface ∧ O' = gObj st s m ++ (idO2 ti so' n M1 O2 ++ X)) := by
  refine ((GCalls.args h ha).tail (by rintro g O' ⟨so', rfl, rfl⟩; exact ⟨rfl, by simp⟩) rfl (by simp) X).mono ?_
  rintro g O' ⟨O1, ⟨so', rfl, rfl⟩, rfl⟩
  exact ⟨so', rfl, rfl⟩
def iM : GM := [(q1, []), (q2, [q1])]
theorem iMok : joinedP 2 [] [(q1, []), (q2, [q1])] [] = .ok iM := by
  have h1 : sizesP 2 0 [(q1, []), (q2, [q1])] = none := by kernel_rfl
  have h2 : joinP [] [(q1, []), (q2, [q1])] = .ok iM := by kernel_rfl
  have h3 : lackP iM [(q1, []), (q2, [q1])] [] = none := by kernel_rfl
  have h4 : roundP [] iM [(q1, []), (q2, [q1])] = none := roundP_rank rkQ (by decide) (by decide)
  unfold joinedP
  simp only [List.length_nil, h1, h2, h3, h4]
  rfl
theorem iMgm : GMOK iM := ⟨by decide, by decide⟩
theorem iV1 : VisL iM (fun h => (look (ofM [] []) h).isSome) [q1, q2] ([], []) ([q1, q2], [q1, q2]) := by
  have e1 : parsM iM q1 = [] := by kernel_rfl
  have e2 : parsM iM q2 = [q1] := by kernel_rfl
  refine .go q1 [q2] ([], []) ([q1], []) _ (by kernel_rfl) (by rw [e1]; exact .nil _) ?_
  exact .go q2 [] ([q1], [q1]) ([q1, q2], [q1]) _ (by kernel_rfl) (by rw [e2]; exact .skip q1 [] _ _ (by kernel_rfl) (.nil _)) (.nil _)
theorem iV2 : VisL iM (masterB (ofM [] [q1, q2])) [q1] ([], []) ([q1], [q1]) := by
  have e1 : parsM iM q1 = [] := by kernel_rfl
  exact .go q1 [] ([], []) ([q1], []) _ (by kernel_rfl) (by rw [e1]; exact .nil _) (.nil _)
theorem iV3 : VisL iM (fun h => (look (ofM [q1] [q2]) h).isSome) [q1] ([], []) ([], []) := .skip q1 [] _ _ (by kernel_rfl) (.nil _)
theorem iKnown : GPure Tryz.prog 8 [] (.bool true) := by
  have cA := fun st s X => iAdd [] iM fourG [(q1, []), (q2, [q1])] none (by unfold addedE; rw [iMok]) (by unfold addedM; rw [iMok]) st s (by decide) (by decide) X (args' := [.ptr 0 st 0 0, .slice [bytesG q1.1 ++ [.slice [] .nil], bytesG q2.1 ++ [.slice [bytesG q1.1] .full]] .full]) ⟨GLe.refl _, GLe.trans GLe.none (GLe.slice ⟨GLes.app (GLes.refl _) ⟨GLe.none, trivial⟩, GLes.app (GLes.refl _) ⟨GLe.none, trivial⟩, trivial⟩), trivial⟩
  have cU1 := fun ti st s so X => iUpdT (args' := [.ptr 2 ti 0 0, .ptr 0 st 0 0, .agg [.slice [bytesG q1.1 ++ [.slice [] .nil], bytesG q2.1 ++ [.slice [bytesG q1.1] .full]] .full, .slice [] .nil, .int .i64 2]]) (iUpdate iM iMgm ti st s so [(q1, []), (q2, [q1])] [] .nil (fun _ => rfl) 2 5 [] [] [] [] (.inl ⟨by decide, rfl, rfl⟩) _ iV1 (by decide) (by decide) (by decide) (by decide) (by decide) (by decide)) ⟨GLe.refl _, GLe.refl _, GLe.agg ⟨GLe.trans GLe.none (GLe.slice ⟨GLes.app (GLes.refl _) ⟨GLe.none, trivial⟩, GLes.app (GLes.refl _) ⟨GLe.none, trivial⟩, trivial⟩), GLe.refl _, GLe.refl _, trivial⟩, trivial⟩ X
  have cU2 := fun ti st s so X => iUpdT (args' := [.ptr 2 ti 0 0, .ptr 0 st 0 0, .agg [.slice [] .nil, .slice [bytesG q1.1] .full, .int .i64 1]]) (iUpdate iM iMgm ti st s so [] [q1] .full (by simp) 1 5 [] [q1, q2] [q1] [q2] (.inr ⟨rfl, _, iV2, rfl, rfl, by decide, by decide⟩) _ iV3 (by decide) (by decide) (by decide) (by decide) (by decide) (by decide)) ⟨GLe.refl _, GLe.refl _, GLe.agg ⟨GLe.none, GLe.refl _, GLe.refl _, trivial⟩, trivial⟩ X
  have e1 : idV (ofM [q1] [q2]) q1 = .tuple [.int .i64 0, .bool true] := by kernel_rfl
  have e2 : idV (ofM [q1] [q2]) q2 = .tuple [.int .i64 1099511627776, .bool true] := by kernel_rfl
  have c1 := fun ti so g1 g2 hg X => iAt2 (iID ti so 5 [q1] [q2] q1) g1 g2 hg X
  have c2 := fun ti so g1 g2 hg X => iAt2 (iID ti so 5 [q1] [q2] q2) g1 g2 hg X
  rw [e1] at c1
  rw [e2] at c2
  have c3 := fun ti so g1 g2 hg X => iAt2 (args := []) (iMasters ti so 5 [q1] [q2]) g1 g2 hg X
  have c4 := fun ti so g1 g2 hg X => iAt2 (args := []) (iOthers ti so 5 [q1] [q2]) g1 g2 hg X
  refine GCalls.toPure ?_
  refine h8.calls mixS (by simp) ?_
  simp only [gstart, s8, List.cons_append, List.nil_append, List.length_cons, List.length_nil, reduceAdd, reduceSub, List.replicate_succ, List.replicate_zero]
  simp +contextual -implicitDefEqProofs (maxSteps := 2000000) (disch := omega) only [binV, ↓loadV, ↓storeV, ↓fieldAddrV, ↓allocV, ↓buildV, ↓buildSliceV, fillG, fillE, place, GVal.cells, GVal.ofConst, ↓resV, resG, ↓reduceIte, reduceEqDiff, reduceAdd, reduceSub, reduceLeDiff, reduceCtorEq, aggV, Tag.cap, GVal.solid, Nat.reduceBEq, reduceMul, reduceLT, vcA, ↓vcB, vcC, fbFy, e8, vcD]
  refine gNew.mono ?_
  rintro g O' ⟨st, s, rfl, rfl⟩
  simp +contextual -implicitDefEqProofs (maxSteps := 2000000) (disch := omega) only [binV, ↓loadV, ↓storeV, ↓fieldAddrV, ↓allocV, ↓buildV, ↓buildSliceV, fillG, fillE, place, GVal.cells, GVal.ofConst, ↓resV, resG, ↓reduceIte, reduceEqDiff, reduceAdd, reduceSub, reduceLeDiff, reduceCtorEq, aggV, Tag.cap, GVal.solid, Nat.reduceBEq, reduceMul, reduceLT, vcA, ↓vcB, vcC, fbFy, e8, vcD]
  refine (iNew2 [] st s 5 (by decide) (by decide)).mono ?_
  rintro g O' ⟨ti, so, rfl, rfl⟩
  simp +contextual -implicitDefEqProofs (maxSteps := 2000000) (disch := omega) only [binV, ↓loadV, ↓storeV, ↓fieldAddrV, ↓allocV, ↓buildV, ↓buildSliceV, fillG, fillE, place, GVal.cells, GVal.ofConst, ↓resV, resG, ↓reduceIte, reduceEqDiff, reduceAdd, reduceSub, reduceLeDiff, reduceCtorEq, aggV, Tag.cap, GVal.solid, Nat.reduceBEq, reduceMul, reduceLT, vcA, ↓vcB, vcC, fbFy, e8, qE1, qE2, qR1, qR2, Tryz.underlying28, vcD, v33, v32]
  intro sr
  refine (cA st s _).mono ?_
  rintro g O' ⟨s', rfl, rfl⟩
  simp +contextual -implicitDefEqProofs (maxSteps := 2000000) (disch := omega) only [binV, ↓loadV, ↓storeV, ↓fieldAddrV, ↓allocV, ↓buildV, ↓buildSliceV, fillG, fillE, place, GVal.cells, GVal.ofConst, ↓resV, resG, ↓reduceIte, reduceEqDiff, reduceAdd, reduceSub, reduceLeDiff, reduceCtorEq, aggV, Tag.cap, GVal.solid, Nat.reduceBEq, reduceMul, reduceLT, vcA, ↓vcB, vcC, fbFy, e8, qE1, qE2, qR1, qR2, errV, Tryz.underlying28, vcD, v33, v32]
  refine (cU1 ti st s' so _).mono ?_
  rintro g O' ⟨so2, rfl, rfl⟩
  simp +contextual -implicitDefEqProofs (maxSteps := 2000000) (disch := omega) only [binV, ↓loadV, ↓storeV, ↓fieldAddrV, ↓allocV, ↓buildV, ↓buildSliceV, fillG, fillE, place, GVal.cells, GVal.ofConst, ↓resV, resG, ↓reduceIte, reduceEqDiff, reduceAdd, reduceSub, reduceLeDiff, reduceCtorEq, aggV, Tag.cap, GVal.solid, Nat.reduceBEq, reduceMul, reduceLT, vcA, ↓vcB, vcC, fbFy, e8, qE1, qE2, qR1, qR2, errV, Tryz.underlying28, vcD, v33, v32]
  refine (cU2 ti st s' so2 _).mono ?_
  rintro g O' ⟨so3, rfl, rfl⟩
  simp +contextual -implicitDefEqProofs (maxSteps := 2000000) (disch := omega) only [binV, ↓loadV, ↓storeV, ↓fieldAddrV, ↓allocV, ↓buildV, ↓buildSliceV, fillG, fillE, place, GVal.cells, GVal.ofConst, ↓resV, resG, ↓reduceIte, reduceEqDiff, reduceAdd, reduceSub, reduceLeDiff, reduceCtorEq, aggV, Tag.cap, GVal.solid, Nat.reduceBEq, reduceMul, reduceLT, vcA, ↓vcB, vcC, fbFy, e8, qE1, qE2, qR1, qR2, errV, Tryz.underlying28, vcD, v33, v32]
  refine (c1 ti so3 _ _ rfl _).mono ?_
  rintro g O' ⟨rfl, rfl⟩
  simp +contextual -implicitDefEqProofs (maxSteps := 2000000) (disch := omega) only [binV, ↓loadV, ↓storeV, ↓fieldAddrV, ↓allocV, ↓buildV, ↓buildSliceV, fillG, fillE, place, GVal.cells, GVal.ofConst, ↓resV, resG, ↓reduceIte, reduceEqDiff, reduceAdd, reduceSub, reduceLeDiff, reduceCtorEq, aggV, Tag.cap, GVal.solid, Nat.reduceBEq, reduceMul, reduceLT, vcA, ↓vcB, vcC, fbFy, e8, qE1, qE2, qR1, qR2, vcD, v33, v32]
  refine (c2 ti so3 _ _ rfl _).mono ?_
  rintro g O' ⟨rfl, rfl⟩
  simp +contextual -implicitDefEqProofs (maxSteps := 2000000) (disch := omega) only [binV, ↓loadV, ↓storeV, ↓fieldAddrV, ↓allocV, ↓buildV, ↓buildSliceV, fillG, fillE, place, GVal.cells, GVal.ofConst, ↓resV, resG, ↓reduceIte, reduceEqDiff, reduceAdd, reduceSub, reduceLeDiff, reduceCtorEq, aggV, Tag.cap, GVal.solid, Nat.reduceBEq, reduceMul, reduceLT, vcA, ↓vcB, vcC, fbFy, e8, qE1, qE2, qR1, qR2, vcD, v33, v32]
  refine (c3 ti so3 _ _ rfl _).mono ?_
  rintro g O' ⟨rfl, rfl⟩
  simp +contextual -implicitDefEqProofs (maxSteps := 2000000) (disch := omega) only [binV, ↓loadV, ↓storeV, ↓fieldAddrV, ↓allocV, ↓buildV, ↓buildSliceV, fillG, fillE, place, GVal.cells, GVal.ofConst, ↓resV, resG, ↓reduceIte, reduceEqDiff, reduceAdd, reduceSub, reduceLeDiff, reduceCtorEq, aggV, Tag.cap, GVal.solid, Nat.reduceBEq, reduceMul, reduceLT, vcA, ↓vcB, vcC, fbFy, e8, qE1, qE2, qR1, qR2, vcD, v33, v32]
  refine (c4 ti so3 _ _ rfl _).mono ?_
  rintro g O' ⟨rfl, rfl⟩
  simp +contextual -implicitDefEqProofs (maxSteps := 2000000) (disch := omega) only [binV, ↓loadV, ↓storeV, ↓fieldAddrV, ↓allocV, ↓buildV, ↓buildSliceV, fillG, fillE, place, GVal.cells, GVal.ofConst, ↓resV, resG, ↓reduceIte, reduceEqDiff, reduceAdd, reduceSub, reduceLeDiff, reduceCtorEq, aggV, Tag.cap, GVal.solid, Nat.reduceBEq, reduceMul, reduceLT, vcA, ↓vcB, vcC, fbFy, e8, qE1, qE2, qR1, qR2, vcD, v33, v32]
  exact ⟨1, .bool true, rfl, by rw [leA_bool]⟩
end Gv.Tryz
/- Contracts: the law's hashes of numbers. -/
set_option linter.unusedVariables false
set_option linter.unusedSimpArgs false
set_option maxRecDepth 20000
set_option maxHeartbeats 4000000
namespace Gv.Tryz
open Go Gv Go.Proofs
end Gv.Tryz
/- Contracts: taproothand's ahead. -/
set_option linter.unusedVariables false
set_option linter.unusedSimpArgs false
set_option maxRecDepth 20000
set_option maxHeartbeats 4000000
namespace Gv.Tryz
open Go Gv Go.Proofs
theorem all_ints (l : List Int) : (∀ x ∈ ints l, x.length = 1) = True := eq_true fun x hx => by obtain ⟨s, _, rfl⟩ := List.mem_map.1 hx; rfl
theorem ints_at (l : List Int) (i : Nat) (h : i < l.length) : (ints l).getD i [] = [.int .i64 (l.getD i 0)] := by simp [ints, List.getD, h]
end Gv.Tryz
/- Less is said of a row that the call owns. -/
set_option linter.unusedVariables false
namespace Gv
open Go
end Gv
namespace Gv
open Go
end Gv
/- Contracts: taproothand's Request: some request, within bounds. -/
set_option linter.unusedVariables false
set_option linter.unusedSimpArgs false
set_option maxRecDepth 200000
set_option maxHeartbeats 8000000
namespace Gv.Tryz
open Go Gv Go.Proofs
abbrev RC := Int × Int × List Int
instance : Inhabited RC := ⟨(0, 0, [])⟩
structure RR where
  l : List RC
  hs : List Int
  g : Int
  how : Int
structure ReqOK (cs : List Cm) (hs : List Hs) : Prop where
  len : cs.length ≤ 72
  par : ∀ c ∈ cs, c.2.length ≤ 8
  hd : hs.length ≤ 5
end Gv.Tryz
/- A raw request among a caller's objects; a list of raw requests. -/
set_option linter.unusedVariables false
set_option linter.unusedSimpArgs false
set_option maxRecDepth 20000
set_option maxHeartbeats 8000000
namespace Gv.Tryz
open Go Gv Go.Proofs
instance : Inhabited RR := ⟨⟨[], [], 0, 0⟩⟩
end Gv.Tryz
/- IdsRise: the plain law of a round. -/
set_option linter.unusedVariables false
set_option linter.unusedSimpArgs false
set_option maxRecDepth 20000
set_option maxHeartbeats 4000000
namespace Gv.Tryz
open Go Gv Go.Proofs
end Gv.Tryz
/- IdsStrips: plain laws. -/
set_option linter.unusedVariables false
set_option linter.unusedSimpArgs false
set_option maxRecDepth 20000
set_option maxHeartbeats 4000000
namespace Gv.Tryz
open Go Gv Go.Proofs
theorem des_lenI {m : GM} (hm : Good m) (l : List Hs) : (desL m l).length ≤ m.length := by
  have := nodup_lenH (desL m l) (m.map (·.1)) (ss_nodup (desL_ss m l)) fun x hx => by
    refine look_key ?_
    cases (desL_mem m l x).1 hx with
    | base x hx => exact (List.mem_filter.1 hx).2
    | step z x _ hx =>
      obtain ⟨q, h1, _, rfl⟩ := kidsM_mem.1 hx
      exact key_look (List.mem_map_of_mem h1)
  rw [List.length_map] at this
  exact this
end Gv.Tryz
/- OrderKnown: the parts. -/
set_option linter.unusedVariables false
set_option linter.unusedSimpArgs false
set_option maxRecDepth 20000
set_option maxHeartbeats 4000000
namespace Gv.Tryz
open Go Gv Go.Proofs
def q9 : Hs := hq 9 0 0
theorem qE9 : ([.int .u8 9, .int .u8 0, .int .u8 0, .int .u8 0, .int .u8 0, .int .u8 0, .int .u8 0, .int .u8 0, .int .u8 0, .int .u8 0, .int .u8 0, .int .u8 0, .int .u8 0, .int .u8 0, .int .u8 0, .int .u8 0, .int .u8 0, .int .u8 0, .int .u8 0, .int .u8 0, .int .u8 0, .int .u8 0, .int .u8 0, .int .u8 0, .int .u8 0, .int .u8 0, .int .u8 0, .int .u8 0, .int .u8 0, .int .u8 0, .int .u8 0, .int .u8 0] : List GVal) = bytesG q9.1 := rfl
theorem reach_sub {nx : Hs → List Hs} {l C : List Hs} (h1 : ∀ x ∈ l, x ∈ C) (h2 : ∀ x ∈ C, ∀ y ∈ nx x, y ∈ C) {x : Hs} (h : Reach nx l x) : x ∈ C := by
  induction h with
  | base x hx => exact h1 x hx
  | step x y _ hy ih => exact h2 x ih y hy
theorem p3 : parsM fourCs q3 = [q1] := by kernel_rfl
theorem p2 : parsM fourCs q2 = [q1] := by kernel_rfl
theorem p1 : parsM fourCs q1 = [] := by kernel_rfl
end Gv.Tryz
/- errors.As at a target of kind *api.Errno: Go's own text walked (after the worked example toyas). -/
namespace Gv.Tryz
open Go Go.Proofs Go.RowKit Go.Extern.Stop Go.Stop Go.Extern

/-! ### CLOSED FACTS ON THE MODEL's ENTRIES FOR internal/reflectlite, at this program's types: 25: *p.E · 27: **p.E · 23: error · 45: reflectlite's rtype · 1: how many package-level variables the dump has -/
theorem AsD.valueOf27 (t : Addr) (w : World) : (ReflectliteValue.unpack (.iface 112 (.pointer (some t)))).run Tryz.prog w
    = .ok (.agg #[.pointer (some ⟨2, 112, none⟩), .pointer (some ⟨w.heap.size, 0, none⟩), .int .u64 150]) (w.alloc (.cells #[.pointer (some t)] 112)) := by kernel_rfl
theorem AsD.type27 (a : Addr) (w : World) : (ReflectliteValue.methodAny (ReflectliteValue.valueError "reflectlite.Value.Type" 0) (fun t _ _ _ => ReflectliteType.toType t) #[.agg #[.pointer (some ⟨2, 112, none⟩), .pointer (some a), .int .u64 150]]).run Tryz.prog w
    = .ok (.iface 176 (.agg #[.pointer (some ⟨2, 112, none⟩)])) w := by kernel_rfl
theorem AsD.methodKind (h : Value) (w : World) : (Go.method 353 176 (.agg #[h]) "Kind").run Tryz.prog w = .ok (163, h) w := by kernel_rfl
theorem AsD.kind27 (w : World) : ((ReflectliteType.abiMethod fun t => (fun a : Nat => Value.int IntKind.u8 (a : Int)) <$> Rtype.kind t) #[.pointer (some ⟨2, 112, none⟩)]).run Tryz.prog w = .ok (.int .u8 22) w := by kernel_rfl
theorem AsD.kind25 (w : World) : ((ReflectliteType.abiMethod fun t => (fun a : Nat => Value.int IntKind.u8 (a : Int)) <$> Rtype.kind t) #[.pointer (some ⟨2, 52, none⟩)]).run Tryz.prog w = .ok (.int .u8 2) w := by kernel_rfl

/-! ### THE ENTRIES THAT READ OR WRITE MEMORY: laws with a premise on the cell (after Derived/Lib/ReflectliteSlice.lean's manner: each unfolding a lemma of its own, by rfl) -/
theorem rlm (z : Sem Value) (f : TypeId → Addr → Nat → Nat → Sem Value) (v : Value) :
    ReflectliteValue.method z f #[v] = (do match ← ReflectliteValue.parts v with | none => z | some (t, a, fl) => f t a fl (fl % 32)) := rfl
theorem AsD.parts27 (a : Addr) (w : World) : (ReflectliteValue.parts (.agg #[.pointer (some ⟨2, 112, none⟩), .pointer (some a), .int .u64 150])).run Tryz.prog w = .ok (some (112, a, 150)) w := by kernel_rfl
theorem AsD.isNil27 (a p : Addr) (W : World) (ha : W.cell? a = some (.pointer (some p))) :
    (ReflectliteValue.method (ReflectliteValue.valueError "reflectlite.Value.IsNil" 0) ReflectliteValue.isNil #[.agg #[.pointer (some ⟨2, 112, none⟩), .pointer (some a), .int .u64 150]]).run Tryz.prog W = .ok (.bool false) W := by
  rw [rlm]
  simp only [Sem.run_bind, AsD.parts27, Result.andThen]
  simp [ReflectliteValue.isNil, loadVar, isAgg, underlying, Tryz.underlying112, ha, Result.andThen]

theorem AsD.methodElem (h : Value) (w : World) : (Go.method 353 176 (.agg #[h]) "Elem").run Tryz.prog w = .ok (176, .agg #[h]) w := by kernel_rfl
theorem AsD.methodImplements (h : Value) (w : World) : (Go.method 353 176 (.agg #[h]) "Implements").run Tryz.prog w = .ok (177, .agg #[h]) w := by kernel_rfl
theorem AsD.methodAssignableTo (h : Value) (w : World) : (Go.method 353 176 (.agg #[h]) "AssignableTo").run Tryz.prog w = .ok (174, .agg #[h]) w := by kernel_rfl
theorem AsD.elem27 (w : World) : (ReflectliteType.method ReflectliteType.elem #[.agg #[.pointer (some ⟨2, 112, none⟩)]]).run Tryz.prog w = .ok (.iface 176 (.agg #[.pointer (some ⟨2, 52, none⟩)])) w := by kernel_rfl
theorem AsD.implements25 (w : World) : (ReflectliteType.relation "Implements" ReflectliteType.implements_ #[.agg #[.pointer (some ⟨2, 52, none⟩)], .iface 176 (.agg #[.pointer (some ⟨2, 28, none⟩)])]).run Tryz.prog w = .ok (.bool true) w := by kernel_rfl
theorem AsD.typeOf25 (v : Value) (w : World) : (ReflectliteType.typeOf #[.iface 52 v]).run Tryz.prog w = .ok (.iface 176 (.agg #[.pointer (some ⟨2, 52, none⟩)])) w := by kernel_rfl
theorem AsD.assignable25 (w : World) : (ReflectliteType.relation "AssignableTo" ReflectliteType.assignableTo #[.agg #[.pointer (some ⟨2, 52, none⟩)], .iface 176 (.agg #[.pointer (some ⟨2, 52, none⟩)])]).run Tryz.prog w = .ok (.bool true) w := by kernel_rfl
theorem AsD.valueOf25 (e : Int) (w : World) : (ReflectliteValue.unpack (.iface 52 (.int .i64 e))).run Tryz.prog w
    = .ok (.agg #[.pointer (some ⟨2, 52, none⟩), .pointer (some ⟨w.heap.size, 0, none⟩), .int .u64 130]) (w.alloc (.cells #[.int .i64 e] 52)) := by kernel_rfl

theorem AsD.elemOf27 (w : World) : (Rtype.elem? 112).run Tryz.prog w = .ok (some 52) w := by kernel_rfl
theorem AsD.mk25 (p : Addr) (w : World) : (ReflectliteValue.mk 52 p ReflectliteValue.flagAddr).run Tryz.prog w = .ok (.agg #[.pointer (some ⟨2, 52, none⟩), .pointer (some p), .int .u64 386]) w := by kernel_rfl
theorem AsD.elemV27 (a p : Addr) (W : World) (ha : W.cell? a = some (.pointer (some p))) :
    (ReflectliteValue.method (ReflectliteValue.valueError "reflectlite.Value.Elem" 0) ReflectliteValue.elem #[.agg #[.pointer (some ⟨2, 112, none⟩), .pointer (some a), .int .u64 150]]).run Tryz.prog W
      = .ok (.agg #[.pointer (some ⟨2, 52, none⟩), .pointer (some p), .int .u64 386]) W := by
  rw [rlm]
  simp only [Sem.run_bind, AsD.parts27, Result.andThen]
  simp [ReflectliteValue.elem, loadVar, isAgg, underlying, Tryz.underlying112, ha, Result.andThen, AsD.elemOf27, AsD.mk25]
theorem rls (v x : Value) : ReflectliteValue.set #[v, x] = (do
    let (some (dst, a, fl), some (src, b, _)) := (← ReflectliteValue.parts v, ← ReflectliteValue.parts x)
      | unsupported (.noEntry "extern/(internal/reflectlite.Value).Set.zeroValue")
    if fl / ReflectliteValue.flagAddr % 2 == 0 then unsupported (.noEntry "extern/(internal/reflectlite.Value).Set.unaddressable")
    let val ← loadVar src b
    if ← Rtype.directlyAssignable dst src then storeVar dst a val
    else if ← Rtype.implements dst src then
      if (← Rtype.kind src) == 20 then
        match val with
        | .nilIface => unsupported (.noEntry "extern/reflectlite: a nil value of one interface type handed on as a value of another")
        | _ => storeVar dst a val
      else storeVar dst a (.iface src val)
    else panicString ("reflectlite.Set: value of type " ++ (← Rtype.spelt src) ++ " is not assignable to type " ++ (← Rtype.spelt dst))
    pure (.tuple #[])) := rfl
theorem AsD.parts25a (a : Addr) (w : World) : (ReflectliteValue.parts (.agg #[.pointer (some ⟨2, 52, none⟩), .pointer (some a), .int .u64 386])).run Tryz.prog w = .ok (some (52, a, 386)) w := by kernel_rfl
theorem AsD.parts25 (a : Addr) (w : World) : (ReflectliteValue.parts (.agg #[.pointer (some ⟨2, 52, none⟩), .pointer (some a), .int .u64 130])).run Tryz.prog w = .ok (some (52, a, 130)) w := by kernel_rfl
theorem AsD.direct25 (w : World) : (Rtype.directlyAssignable 52 52).run Tryz.prog w = .ok true w := by kernel_rfl
theorem AsD.set25 (ta b : Addr) (e : Int) (old : Value) (W : World) (hb : W.cell? b = some (.int .i64 e)) (ht : W.cell? ta = some old) (hf : W.frozen? ta = false) :
    (ReflectliteValue.set #[.agg #[.pointer (some ⟨2, 52, none⟩), .pointer (some ta), .int .u64 386], .agg #[.pointer (some ⟨2, 52, none⟩), .pointer (some b), .int .u64 130]]).run Tryz.prog W
      = .ok (.tuple #[]) (W.setCell ta (.int .i64 e)) := by
  rw [rls]
  simp only [Sem.run_bind, AsD.parts25a, AsD.parts25, Result.andThen]
  simp [ReflectliteValue.flagAddr, loadVar, isAgg, underlying, Tryz.underlying52, hb, Result.andThen, AsD.direct25, storeVar, Value.cells, storeCells, Addr.add]
  rw [run_store Tryz.prog W ta _ _ (by rfl)]
  simp [ht, hf]

set_option maxRecDepth 20000 in
set_option maxHeartbeats 4000000 in
theorem as_hit (e : Int) (t : Addr) (old : Value) (w : World) (hg : w.cell? ⟨0, 0, none⟩ = some (.iface 176 (.agg #[.pointer (some ⟨2, 28, none⟩)]))) (ht0 : w.cell? t = some old) (hf0 : w.frozen? t = false) :
    Calls Tryz.prog 50 #[.iface 52 (.int .i64 e), .iface 112 (.pointer (some t))] w fun ev w' => ev = .returned (.bool true) ∧ w' = ((((w.alloc (.cells #[.pointer (some t)] 112)).alloc (.cells #[.pointer (some ⟨2, 112, none⟩), .pointer (some ⟨w.heap.size, 0, none⟩), .int .u64 150] 143)).alloc (.cells #[.pointer (some ⟨2, 112, none⟩), .pointer (some ⟨w.heap.size, 0, none⟩), .int .u64 150] 143)).alloc (.cells #[.int .i64 e] 52)).setCell t (.int .i64 e) := by
  have h6 := @run_callFunc_extern Tryz.prog 83 _ (fun args => ReflectliteValue.unpack (args.getD 0 (.tuple #[]))) Tryz.func83 (by kernel_rfl) (by kernel_rfl) (by kernel_rfl) (by kernel_rfl)
  have h7 := @run_callFunc_extern Tryz.prog 84 _ (ReflectliteValue.methodAny (ReflectliteValue.valueError "reflectlite.Value.Type" 0) (fun t _ _ _ => ReflectliteType.toType t)) Tryz.func84 (by kernel_rfl) (by kernel_rfl) (by kernel_rfl) (by kernel_rfl)
  have h8 := @run_callFunc_extern Tryz.prog 85 _ (ReflectliteValue.method (ReflectliteValue.valueError "reflectlite.Value.IsNil" 0) ReflectliteValue.isNil) Tryz.func85 (by kernel_rfl) (by kernel_rfl) (by kernel_rfl) (by kernel_rfl)
  have h27 := @run_callFunc_extern Tryz.prog 163 _ (ReflectliteType.abiMethod fun t => do pure (.int .u8 (← Rtype.kind t))) Tryz.func163 (by kernel_rfl) (by kernel_rfl) (by kernel_rfl) (by kernel_rfl)
  have h37 := @run_callFunc_extern Tryz.prog 176 _ (ReflectliteType.method ReflectliteType.elem) Tryz.func176 (by kernel_rfl) (by kernel_rfl) (by kernel_rfl) (by kernel_rfl)
  have h38 := @run_callFunc_extern Tryz.prog 177 _ (ReflectliteType.relation "Implements" ReflectliteType.implements_) Tryz.func177 (by kernel_rfl) (by kernel_rfl) (by kernel_rfl) (by kernel_rfl)
  have h10 := @run_callFunc_extern Tryz.prog 110 _ ReflectliteType.typeOf Tryz.func110 (by kernel_rfl) (by kernel_rfl) (by kernel_rfl) (by kernel_rfl)
  have h35 := @run_callFunc_extern Tryz.prog 174 _ (ReflectliteType.relation "AssignableTo" ReflectliteType.assignableTo) Tryz.func174 (by kernel_rfl) (by kernel_rfl) (by kernel_rfl) (by kernel_rfl)
  have h11 := @run_callFunc_extern Tryz.prog 111 _ (ReflectliteValue.method (ReflectliteValue.valueError "reflectlite.Value.Elem" 0) ReflectliteValue.elem) Tryz.func111 (by kernel_rfl) (by kernel_rfl) (by kernel_rfl) (by kernel_rfl)
  have h12 := @run_callFunc_extern Tryz.prog 112 _ ReflectliteValue.set Tryz.func112 (by kernel_rfl) (by kernel_rfl) (by kernel_rfl) (by kernel_rfl)
  have tO := AsD.typeOf25
  have mA := AsD.methodAssignableTo
  have a25 := AsD.assignable25
  have v25 := AsD.valueOf25
  have f6 := AsD.valueOf27
  have f7 := AsD.type27
  have mK := AsD.methodKind
  have mE := AsD.methodElem
  have mI := AsD.methodImplements
  have k27 := AsD.kind27
  have k25 := AsD.kind25
  have e27 := AsD.elem27
  have i25 := AsD.implements25
  have n8 := AsD.isNil27 ⟨w.heap.size, 0, none⟩ t ((w.alloc (.cells #[.pointer (some t)] 112)).alloc (.cells #[.pointer (some ⟨2, 112, none⟩), .pointer (some ⟨w.heap.size, 0, none⟩), .int .u64 150] 143)) (by simp)
  have hlt : 0 < w.heap.size := by
    rcases Nat.eq_zero_or_pos w.heap.size with h0 | h
    · simp [World.cell?, h0] at hg
    · exact h
  have hg2 : ((w.alloc (.cells #[.pointer (some t)] 112)).alloc (.cells #[.pointer (some ⟨2, 112, none⟩), .pointer (some ⟨w.heap.size, 0, none⟩), .int .u64 150] 143)).cell? ⟨0, 0, none⟩ = some (.iface 176 (.agg #[.pointer (some ⟨2, 28, none⟩)])) := by
    rw [World.cell?_alloc_lt _ _ ⟨0, 0, none⟩ (by simp), World.cell?_alloc_lt _ _ ⟨0, 0, none⟩ hlt]; exact hg
  have htl : t.block < w.heap.size := by
    rcases Nat.lt_or_ge t.block w.heap.size with h | h
    · exact h
    · simp [World.cell?, Array.getElem?_eq_none h] at ht0
  have el := AsD.elemV27 ⟨w.heap.size, 0, none⟩ t (((w.alloc (.cells #[.pointer (some t)] 112)).alloc (.cells #[.pointer (some ⟨2, 112, none⟩), .pointer (some ⟨w.heap.size, 0, none⟩), .int .u64 150] 143)).alloc (.cells #[.pointer (some ⟨2, 112, none⟩), .pointer (some ⟨w.heap.size, 0, none⟩), .int .u64 150] 143)) (by rw [World.cell?_alloc_lt _ _ ⟨w.heap.size, 0, none⟩ (by simp; omega)]; simp)
  have st := AsD.set25 t ⟨w.heap.size + 1 + 1 + 1, 0, none⟩ e old ((((w.alloc (.cells #[.pointer (some t)] 112)).alloc (.cells #[.pointer (some ⟨2, 112, none⟩), .pointer (some ⟨w.heap.size, 0, none⟩), .int .u64 150] 143)).alloc (.cells #[.pointer (some ⟨2, 112, none⟩), .pointer (some ⟨w.heap.size, 0, none⟩), .int .u64 150] 143)).alloc (.cells #[.int .i64 e] 52))
    (by rw [World.cell?_alloc_at _ _ _ _ (by simp)]; rfl)
    (by rw [World.cell?_alloc_lt _ _ t (by simp; omega), World.cell?_alloc_lt _ _ t (by simp; omega), World.cell?_alloc_lt _ _ t (by simp; omega), World.cell?_alloc_lt _ _ t htl]; exact ht0)
    (by rw [World.frozen?_alloc_old _ _ t (by simp; omega), World.frozen?_alloc_old _ _ t (by simp; omega), World.frozen?_alloc_old _ _ t (by simp; omega), World.frozen?_alloc_old _ _ t (Nat.ne_of_lt htl)]; exact hf0)
  go_enter Tryz.func50, Tryz.ntmps50
  go_wp2
  refine wp_loop_rounds 1 ?_
  rw [rounds_succ]
  go_wp2
  go_ret
  exact ⟨rfl, rfl⟩
end Gv.Tryz
/- errors.As at *api.Errno where the error is a *oops.Which; at **oops.Which. -/
namespace Gv.Tryz
open Go Go.Proofs Go.RowKit Go.Extern.Stop Go.Stop Go.Extern
theorem AsW.typeOf (v : Value) (w : World) : (ReflectliteType.typeOf #[.iface 113 v]).run Tryz.prog w = .ok (.iface 176 (.agg #[.pointer (some ⟨2, 113, none⟩)])) w := by kernel_rfl
theorem AsW.notAssignable (w : World) : (ReflectliteType.relation "AssignableTo" ReflectliteType.assignableTo #[.agg #[.pointer (some ⟨2, 113, none⟩)], .iface 176 (.agg #[.pointer (some ⟨2, 52, none⟩)])]).run Tryz.prog w = .ok (.bool false) w := by kernel_rfl
theorem AsW.noAs (v : Value) (xT : TypeId) (w : World) : (Instr.typeAssert (.iface 113 v) xT 181 true).run Tryz.prog w = .ok (.tuple #[.nilIface, .bool false]) w := run_typeAssert_lacksB Tryz.underlying181 (by kernel_rfl) (by kernel_rfl) v xT w
theorem AsW.hasUnwrap (v : Value) (xT : TypeId) (w : World) : (Instr.typeAssert (.iface 113 v) xT 184 true).run Tryz.prog w = .ok (.tuple #[.iface 113 v, .bool true]) w := run_typeAssert_hasB Tryz.underlying184 (by kernel_rfl) v xT w
theorem AsW.methodUnwrap (p : Value) (w : World) : (Go.method 353 113 p "Unwrap").run Tryz.prog w = .ok (169, p) w := by kernel_rfl
set_option maxRecDepth 20000 in
set_option maxHeartbeats 4000000 in
theorem as_wrap (b0 off : Nat) (e : Int) (t : Addr) (old : Value) (w : World) (hp : w.cell? ⟨b0, off + 32, none⟩ = some (.iface 52 (.int .i64 e))) (hg : w.cell? ⟨0, 0, none⟩ = some (.iface 176 (.agg #[.pointer (some ⟨2, 28, none⟩)]))) (ht0 : w.cell? t = some old) (hf0 : w.frozen? t = false) :
    Calls Tryz.prog 50 #[.iface 113 (.pointer (some ⟨b0, off, none⟩)), .iface 112 (.pointer (some t))] w fun ev w' => ev = .returned (.bool true) ∧ w' = ((((w.alloc (.cells #[.pointer (some t)] 112)).alloc (.cells #[.pointer (some ⟨2, 112, none⟩), .pointer (some ⟨w.heap.size, 0, none⟩), .int .u64 150] 143)).alloc (.cells #[.pointer (some ⟨2, 112, none⟩), .pointer (some ⟨w.heap.size, 0, none⟩), .int .u64 150] 143)).alloc (.cells #[.int .i64 e] 52)).setCell t (.int .i64 e) := by
  have h6 := @run_callFunc_extern Tryz.prog 83 _ (fun args => ReflectliteValue.unpack (args.getD 0 (.tuple #[]))) Tryz.func83 (by kernel_rfl) (by kernel_rfl) (by kernel_rfl) (by kernel_rfl)
  have h7 := @run_callFunc_extern Tryz.prog 84 _ (ReflectliteValue.methodAny (ReflectliteValue.valueError "reflectlite.Value.Type" 0) (fun t _ _ _ => ReflectliteType.toType t)) Tryz.func84 (by kernel_rfl) (by kernel_rfl) (by kernel_rfl) (by kernel_rfl)
  have h8 := @run_callFunc_extern Tryz.prog 85 _ (ReflectliteValue.method (ReflectliteValue.valueError "reflectlite.Value.IsNil" 0) ReflectliteValue.isNil) Tryz.func85 (by kernel_rfl) (by kernel_rfl) (by kernel_rfl) (by kernel_rfl)
  have h27 := @run_callFunc_extern Tryz.prog 163 _ (ReflectliteType.abiMethod fun t => do pure (.int .u8 (← Rtype.kind t))) Tryz.func163 (by kernel_rfl) (by kernel_rfl) (by kernel_rfl) (by kernel_rfl)
  have h37 := @run_callFunc_extern Tryz.prog 176 _ (ReflectliteType.method ReflectliteType.elem) Tryz.func176 (by kernel_rfl) (by kernel_rfl) (by kernel_rfl) (by kernel_rfl)
  have h38 := @run_callFunc_extern Tryz.prog 177 _ (ReflectliteType.relation "Implements" ReflectliteType.implements_) Tryz.func177 (by kernel_rfl) (by kernel_rfl) (by kernel_rfl) (by kernel_rfl)
  have h10 := @run_callFunc_extern Tryz.prog 110 _ ReflectliteType.typeOf Tryz.func110 (by kernel_rfl) (by kernel_rfl) (by kernel_rfl) (by kernel_rfl)
  have h35 := @run_callFunc_extern Tryz.prog 174 _ (ReflectliteType.relation "AssignableTo" ReflectliteType.assignableTo) Tryz.func174 (by kernel_rfl) (by kernel_rfl) (by kernel_rfl) (by kernel_rfl)
  have h11 := @run_callFunc_extern Tryz.prog 111 _ (ReflectliteValue.method (ReflectliteValue.valueError "reflectlite.Value.Elem" 0) ReflectliteValue.elem) Tryz.func111 (by kernel_rfl) (by kernel_rfl) (by kernel_rfl) (by kernel_rfl)
  have h12 := @run_callFunc_extern Tryz.prog 112 _ ReflectliteValue.set Tryz.func112 (by kernel_rfl) (by kernel_rfl) (by kernel_rfl) (by kernel_rfl)
  have tW := AsW.typeOf
  have nA := AsW.notAssignable
  have noA := AsW.noAs
  have hU := AsW.hasUnwrap
  have mU := AsW.methodUnwrap
  have tO := AsD.typeOf25
  have mA := AsD.methodAssignableTo
  have a25 := AsD.assignable25
  have v25 := AsD.valueOf25
  have f6 := AsD.valueOf27
  have f7 := AsD.type27
  have mK := AsD.methodKind
  have mE := AsD.methodElem
  have mI := AsD.methodImplements
  have k27 := AsD.kind27
  have k25 := AsD.kind25
  have e27 := AsD.elem27
  have i25 := AsD.implements25
  have n8 := AsD.isNil27 ⟨w.heap.size, 0, none⟩ t ((w.alloc (.cells #[.pointer (some t)] 112)).alloc (.cells #[.pointer (some ⟨2, 112, none⟩), .pointer (some ⟨w.heap.size, 0, none⟩), .int .u64 150] 143)) (by simp)
  have hlt : 0 < w.heap.size := by
    rcases Nat.eq_zero_or_pos w.heap.size with h0 | h
    · simp [World.cell?, h0] at hg
    · exact h
  have hg2 : ((w.alloc (.cells #[.pointer (some t)] 112)).alloc (.cells #[.pointer (some ⟨2, 112, none⟩), .pointer (some ⟨w.heap.size, 0, none⟩), .int .u64 150] 143)).cell? ⟨0, 0, none⟩ = some (.iface 176 (.agg #[.pointer (some ⟨2, 28, none⟩)])) := by
    rw [World.cell?_alloc_lt _ _ ⟨0, 0, none⟩ (by simp), World.cell?_alloc_lt _ _ ⟨0, 0, none⟩ hlt]; exact hg
  have htl : t.block < w.heap.size := by
    rcases Nat.lt_or_ge t.block w.heap.size with h | h
    · exact h
    · simp [World.cell?, Array.getElem?_eq_none h] at ht0
  have el := AsD.elemV27 ⟨w.heap.size, 0, none⟩ t (((w.alloc (.cells #[.pointer (some t)] 112)).alloc (.cells #[.pointer (some ⟨2, 112, none⟩), .pointer (some ⟨w.heap.size, 0, none⟩), .int .u64 150] 143)).alloc (.cells #[.pointer (some ⟨2, 112, none⟩), .pointer (some ⟨w.heap.size, 0, none⟩), .int .u64 150] 143)) (by rw [World.cell?_alloc_lt _ _ ⟨w.heap.size, 0, none⟩ (by simp; omega)]; simp)
  have st := AsD.set25 t ⟨w.heap.size + 1 + 1 + 1, 0, none⟩ e old ((((w.alloc (.cells #[.pointer (some t)] 112)).alloc (.cells #[.pointer (some ⟨2, 112, none⟩), .pointer (some ⟨w.heap.size, 0, none⟩), .int .u64 150] 143)).alloc (.cells #[.pointer (some ⟨2, 112, none⟩), .pointer (some ⟨w.heap.size, 0, none⟩), .int .u64 150] 143)).alloc (.cells #[.int .i64 e] 52))
    (by rw [World.cell?_alloc_at _ _ _ _ (by simp)]; rfl)
    (by rw [World.cell?_alloc_lt _ _ t (by simp; omega), World.cell?_alloc_lt _ _ t (by simp; omega), World.cell?_alloc_lt _ _ t (by simp; omega), World.cell?_alloc_lt _ _ t htl]; exact ht0)
    (by rw [World.frozen?_alloc_old _ _ t (by simp; omega), World.frozen?_alloc_old _ _ t (by simp; omega), World.frozen?_alloc_old _ _ t (by simp; omega), World.frozen?_alloc_old _ _ t (Nat.ne_of_lt htl)]; exact hf0)
  have hbl : b0 < w.heap.size := by
    rcases Nat.lt_or_ge b0 w.heap.size with h | h
    · exact h
    · simp [World.cell?, Array.getElem?_eq_none h] at hp
  have hp3 : (((w.alloc (.cells #[.pointer (some t)] 112)).alloc (.cells #[.pointer (some ⟨2, 112, none⟩), .pointer (some ⟨w.heap.size, 0, none⟩), .int .u64 150] 143)).alloc (.cells #[.pointer (some ⟨2, 112, none⟩), .pointer (some ⟨w.heap.size, 0, none⟩), .int .u64 150] 143)).cell? ⟨b0, off + 32, none⟩ = some (.iface 52 (.int .i64 e)) := by
    rw [World.cell?_alloc_lt _ _ ⟨b0, off + 32, none⟩ (by simp; omega), World.cell?_alloc_lt _ _ ⟨b0, off + 32, none⟩ (by simp; omega), World.cell?_alloc_lt _ _ ⟨b0, off + 32, none⟩ hbl]; exact hp
  go_enter Tryz.func50, Tryz.ntmps50
  go_wp2
  refine wp_loop_rounds 2 ?_
  rw [rounds_succ]
  go_wp2
  rw [rounds_succ]
  go_wp2
  go_ret
  exact ⟨rfl, rfl⟩
end Gv.Tryz
/- errors.As at **oops.Which: the error is a *oops.Which; it is a plain api.Errno. -/
namespace Gv.Tryz
open Go Go.Proofs Go.RowKit Go.Extern.Stop Go.Stop Go.Extern
theorem AsX.valueOf27 (t : Addr) (w : World) : (ReflectliteValue.unpack (.iface 114 (.pointer (some t)))).run Tryz.prog w
    = .ok (.agg #[.pointer (some ⟨2, 114, none⟩), .pointer (some ⟨w.heap.size, 0, none⟩), .int .u64 150]) (w.alloc (.cells #[.pointer (some t)] 114)) := by kernel_rfl
theorem AsX.type27 (a : Addr) (w : World) : (ReflectliteValue.methodAny (ReflectliteValue.valueError "reflectlite.Value.Type" 0) (fun t _ _ _ => ReflectliteType.toType t) #[.agg #[.pointer (some ⟨2, 114, none⟩), .pointer (some a), .int .u64 150]]).run Tryz.prog w
    = .ok (.iface 176 (.agg #[.pointer (some ⟨2, 114, none⟩)])) w := by kernel_rfl
theorem AsX.methodKind (h : Value) (w : World) : (Go.method 353 176 (.agg #[h]) "Kind").run Tryz.prog w = .ok (163, h) w := by kernel_rfl
theorem AsX.kind27 (w : World) : ((ReflectliteType.abiMethod fun t => (fun a : Nat => Value.int IntKind.u8 (a : Int)) <$> Rtype.kind t) #[.pointer (some ⟨2, 114, none⟩)]).run Tryz.prog w = .ok (.int .u8 22) w := by kernel_rfl
theorem AsX.kind25 (w : World) : ((ReflectliteType.abiMethod fun t => (fun a : Nat => Value.int IntKind.u8 (a : Int)) <$> Rtype.kind t) #[.pointer (some ⟨2, 113, none⟩)]).run Tryz.prog w = .ok (.int .u8 22) w := by kernel_rfl

theorem AsX.parts27 (a : Addr) (w : World) : (ReflectliteValue.parts (.agg #[.pointer (some ⟨2, 114, none⟩), .pointer (some a), .int .u64 150])).run Tryz.prog w = .ok (some (114, a, 150)) w := by kernel_rfl
theorem AsX.isNil27 (a p : Addr) (W : World) (ha : W.cell? a = some (.pointer (some p))) :
    (ReflectliteValue.method (ReflectliteValue.valueError "reflectlite.Value.IsNil" 0) ReflectliteValue.isNil #[.agg #[.pointer (some ⟨2, 114, none⟩), .pointer (some a), .int .u64 150]]).run Tryz.prog W = .ok (.bool false) W := by
  rw [rlm]
  simp only [Sem.run_bind, AsX.parts27, Result.andThen]
  simp [ReflectliteValue.isNil, loadVar, isAgg, underlying, Tryz.underlying114, ha, Result.andThen]

theorem AsX.methodElem (h : Value) (w : World) : (Go.method 353 176 (.agg #[h]) "Elem").run Tryz.prog w = .ok (176, .agg #[h]) w := by kernel_rfl
theorem AsX.methodImplements (h : Value) (w : World) : (Go.method 353 176 (.agg #[h]) "Implements").run Tryz.prog w = .ok (177, .agg #[h]) w := by kernel_rfl
theorem AsX.methodAssignableTo (h : Value) (w : World) : (Go.method 353 176 (.agg #[h]) "AssignableTo").run Tryz.prog w = .ok (174, .agg #[h]) w := by kernel_rfl
theorem AsX.elem27 (w : World) : (ReflectliteType.method ReflectliteType.elem #[.agg #[.pointer (some ⟨2, 114, none⟩)]]).run Tryz.prog w = .ok (.iface 176 (.agg #[.pointer (some ⟨2, 113, none⟩)])) w := by kernel_rfl
theorem AsX.implements25 (w : World) : (ReflectliteType.relation "Implements" ReflectliteType.implements_ #[.agg #[.pointer (some ⟨2, 113, none⟩)], .iface 176 (.agg #[.pointer (some ⟨2, 28, none⟩)])]).run Tryz.prog w = .ok (.bool true) w := by kernel_rfl
theorem AsX.typeOf25 (v : Value) (w : World) : (ReflectliteType.typeOf #[.iface 113 v]).run Tryz.prog w = .ok (.iface 176 (.agg #[.pointer (some ⟨2, 113, none⟩)])) w := by kernel_rfl
theorem AsX.assignable25 (w : World) : (ReflectliteType.relation "AssignableTo" ReflectliteType.assignableTo #[.agg #[.pointer (some ⟨2, 113, none⟩)], .iface 176 (.agg #[.pointer (some ⟨2, 113, none⟩)])]).run Tryz.prog w = .ok (.bool true) w := by kernel_rfl
theorem AsX.valueOf25 (p : Addr) (w : World) : (ReflectliteValue.unpack (.iface 113 (.pointer (some p)))).run Tryz.prog w
    = .ok (.agg #[.pointer (some ⟨2, 113, none⟩), .pointer (some ⟨w.heap.size, 0, none⟩), .int .u64 150]) (w.alloc (.cells #[.pointer (some p)] 113)) := by kernel_rfl

theorem AsX.elemOf27 (w : World) : (Rtype.elem? 114).run Tryz.prog w = .ok (some 113) w := by kernel_rfl
theorem AsX.mk25 (p : Addr) (w : World) : (ReflectliteValue.mk 113 p ReflectliteValue.flagAddr).run Tryz.prog w = .ok (.agg #[.pointer (some ⟨2, 113, none⟩), .pointer (some p), .int .u64 406]) w := by kernel_rfl
theorem AsX.elemV27 (a p : Addr) (W : World) (ha : W.cell? a = some (.pointer (some p))) :
    (ReflectliteValue.method (ReflectliteValue.valueError "reflectlite.Value.Elem" 0) ReflectliteValue.elem #[.agg #[.pointer (some ⟨2, 114, none⟩), .pointer (some a), .int .u64 150]]).run Tryz.prog W
      = .ok (.agg #[.pointer (some ⟨2, 113, none⟩), .pointer (some p), .int .u64 406]) W := by
  rw [rlm]
  simp only [Sem.run_bind, AsX.parts27, Result.andThen]
  simp [ReflectliteValue.elem, loadVar, isAgg, underlying, Tryz.underlying114, ha, Result.andThen, AsX.elemOf27, AsX.mk25]
theorem AsX.parts25a (a : Addr) (w : World) : (ReflectliteValue.parts (.agg #[.pointer (some ⟨2, 113, none⟩), .pointer (some a), .int .u64 406])).run Tryz.prog w = .ok (some (113, a, 406)) w := by kernel_rfl
theorem AsX.parts25 (a : Addr) (w : World) : (ReflectliteValue.parts (.agg #[.pointer (some ⟨2, 113, none⟩), .pointer (some a), .int .u64 150])).run Tryz.prog w = .ok (some (113, a, 150)) w := by kernel_rfl
theorem AsX.direct25 (w : World) : (Rtype.directlyAssignable 113 113).run Tryz.prog w = .ok true w := by kernel_rfl
theorem AsX.set25 (ta b p : Addr) (old : Value) (W : World) (hb : W.cell? b = some (.pointer (some p))) (ht : W.cell? ta = some old) (hf : W.frozen? ta = false) :
    (ReflectliteValue.set #[.agg #[.pointer (some ⟨2, 113, none⟩), .pointer (some ta), .int .u64 406], .agg #[.pointer (some ⟨2, 113, none⟩), .pointer (some b), .int .u64 150]]).run Tryz.prog W
      = .ok (.tuple #[]) (W.setCell ta (.pointer (some p))) := by
  rw [rls]
  simp only [Sem.run_bind, AsX.parts25a, AsX.parts25, Result.andThen]
  simp [ReflectliteValue.flagAddr, loadVar, isAgg, underlying, Tryz.underlying113, hb, Result.andThen, AsX.direct25, storeVar, Value.cells, storeCells, Addr.add]
  rw [run_store Tryz.prog W ta _ _ (by rfl)]
  simp [ht, hf]

set_option maxRecDepth 20000 in
set_option maxHeartbeats 4000000 in
theorem as_hitW (p : Addr) (t : Addr) (old : Value) (w : World) (hg : w.cell? ⟨0, 0, none⟩ = some (.iface 176 (.agg #[.pointer (some ⟨2, 28, none⟩)]))) (ht0 : w.cell? t = some old) (hf0 : w.frozen? t = false) :
    Calls Tryz.prog 50 #[.iface 113 (.pointer (some p)), .iface 114 (.pointer (some t))] w fun ev w' => ev = .returned (.bool true) ∧ w' = ((((w.alloc (.cells #[.pointer (some t)] 114)).alloc (.cells #[.pointer (some ⟨2, 114, none⟩), .pointer (some ⟨w.heap.size, 0, none⟩), .int .u64 150] 143)).alloc (.cells #[.pointer (some ⟨2, 114, none⟩), .pointer (some ⟨w.heap.size, 0, none⟩), .int .u64 150] 143)).alloc (.cells #[.pointer (some p)] 113)).setCell t (.pointer (some p)) := by
  have h6 := @run_callFunc_extern Tryz.prog 83 _ (fun args => ReflectliteValue.unpack (args.getD 0 (.tuple #[]))) Tryz.func83 (by kernel_rfl) (by kernel_rfl) (by kernel_rfl) (by kernel_rfl)
  have h7 := @run_callFunc_extern Tryz.prog 84 _ (ReflectliteValue.methodAny (ReflectliteValue.valueError "reflectlite.Value.Type" 0) (fun t _ _ _ => ReflectliteType.toType t)) Tryz.func84 (by kernel_rfl) (by kernel_rfl) (by kernel_rfl) (by kernel_rfl)
  have h8 := @run_callFunc_extern Tryz.prog 85 _ (ReflectliteValue.method (ReflectliteValue.valueError "reflectlite.Value.IsNil" 0) ReflectliteValue.isNil) Tryz.func85 (by kernel_rfl) (by kernel_rfl) (by kernel_rfl) (by kernel_rfl)
  have h27 := @run_callFunc_extern Tryz.prog 163 _ (ReflectliteType.abiMethod fun t => do pure (.int .u8 (← Rtype.kind t))) Tryz.func163 (by kernel_rfl) (by kernel_rfl) (by kernel_rfl) (by kernel_rfl)
  have h37 := @run_callFunc_extern Tryz.prog 176 _ (ReflectliteType.method ReflectliteType.elem) Tryz.func176 (by kernel_rfl) (by kernel_rfl) (by kernel_rfl) (by kernel_rfl)
  have h38 := @run_callFunc_extern Tryz.prog 177 _ (ReflectliteType.relation "Implements" ReflectliteType.implements_) Tryz.func177 (by kernel_rfl) (by kernel_rfl) (by kernel_rfl) (by kernel_rfl)
  have h10 := @run_callFunc_extern Tryz.prog 110 _ ReflectliteType.typeOf Tryz.func110 (by kernel_rfl) (by kernel_rfl) (by kernel_rfl) (by kernel_rfl)
  have h35 := @run_callFunc_extern Tryz.prog 174 _ (ReflectliteType.relation "AssignableTo" ReflectliteType.assignableTo) Tryz.func174 (by kernel_rfl) (by kernel_rfl) (by kernel_rfl) (by kernel_rfl)
  have h11 := @run_callFunc_extern Tryz.prog 111 _ (ReflectliteValue.method (ReflectliteValue.valueError "reflectlite.Value.Elem" 0) ReflectliteValue.elem) Tryz.func111 (by kernel_rfl) (by kernel_rfl) (by kernel_rfl) (by kernel_rfl)
  have h12 := @run_callFunc_extern Tryz.prog 112 _ ReflectliteValue.set Tryz.func112 (by kernel_rfl) (by kernel_rfl) (by kernel_rfl) (by kernel_rfl)
  have tO := AsX.typeOf25
  have mA := AsX.methodAssignableTo
  have a25 := AsX.assignable25
  have v25 := AsX.valueOf25
  have f6 := AsX.valueOf27
  have f7 := AsX.type27
  have mK := AsX.methodKind
  have mE := AsX.methodElem
  have mI := AsX.methodImplements
  have k27 := AsX.kind27
  have k25 := AsX.kind25
  have e27 := AsX.elem27
  have i25 := AsX.implements25
  have n8 := AsX.isNil27 ⟨w.heap.size, 0, none⟩ t ((w.alloc (.cells #[.pointer (some t)] 114)).alloc (.cells #[.pointer (some ⟨2, 114, none⟩), .pointer (some ⟨w.heap.size, 0, none⟩), .int .u64 150] 143)) (by simp)
  have hlt : 0 < w.heap.size := by
    rcases Nat.eq_zero_or_pos w.heap.size with h0 | h
    · simp [World.cell?, h0] at hg
    · exact h
  have hg2 : ((w.alloc (.cells #[.pointer (some t)] 114)).alloc (.cells #[.pointer (some ⟨2, 114, none⟩), .pointer (some ⟨w.heap.size, 0, none⟩), .int .u64 150] 143)).cell? ⟨0, 0, none⟩ = some (.iface 176 (.agg #[.pointer (some ⟨2, 28, none⟩)])) := by
    rw [World.cell?_alloc_lt _ _ ⟨0, 0, none⟩ (by simp), World.cell?_alloc_lt _ _ ⟨0, 0, none⟩ hlt]; exact hg
  have htl : t.block < w.heap.size := by
    rcases Nat.lt_or_ge t.block w.heap.size with h | h
    · exact h
    · simp [World.cell?, Array.getElem?_eq_none h] at ht0
  have el := AsX.elemV27 ⟨w.heap.size, 0, none⟩ t (((w.alloc (.cells #[.pointer (some t)] 114)).alloc (.cells #[.pointer (some ⟨2, 114, none⟩), .pointer (some ⟨w.heap.size, 0, none⟩), .int .u64 150] 143)).alloc (.cells #[.pointer (some ⟨2, 114, none⟩), .pointer (some ⟨w.heap.size, 0, none⟩), .int .u64 150] 143)) (by rw [World.cell?_alloc_lt _ _ ⟨w.heap.size, 0, none⟩ (by simp; omega)]; simp)
  have st := AsX.set25 t ⟨w.heap.size + 1 + 1 + 1, 0, none⟩ p old ((((w.alloc (.cells #[.pointer (some t)] 114)).alloc (.cells #[.pointer (some ⟨2, 114, none⟩), .pointer (some ⟨w.heap.size, 0, none⟩), .int .u64 150] 143)).alloc (.cells #[.pointer (some ⟨2, 114, none⟩), .pointer (some ⟨w.heap.size, 0, none⟩), .int .u64 150] 143)).alloc (.cells #[.pointer (some p)] 113))
    (by rw [World.cell?_alloc_at _ _ _ _ (by simp)]; rfl)
    (by rw [World.cell?_alloc_lt _ _ t (by simp; omega), World.cell?_alloc_lt _ _ t (by simp; omega), World.cell?_alloc_lt _ _ t (by simp; omega), World.cell?_alloc_lt _ _ t htl]; exact ht0)
    (by rw [World.frozen?_alloc_old _ _ t (by simp; omega), World.frozen?_alloc_old _ _ t (by simp; omega), World.frozen?_alloc_old _ _ t (by simp; omega), World.frozen?_alloc_old _ _ t (Nat.ne_of_lt htl)]; exact hf0)
  go_enter Tryz.func50, Tryz.ntmps50
  go_wp2
  refine wp_loop_rounds 1 ?_
  rw [rounds_succ]
  go_wp2
  go_ret
  exact ⟨rfl, rfl⟩
end Gv.Tryz
/- errors.As at **oops.Which: the error is a plain api.Errno. -/
namespace Gv.Tryz
open Go Go.Proofs Go.RowKit Go.Extern.Stop Go.Stop Go.Extern
theorem AsM.typeOf (v : Value) (w : World) : (ReflectliteType.typeOf #[.iface 52 v]).run Tryz.prog w = .ok (.iface 176 (.agg #[.pointer (some ⟨2, 52, none⟩)])) w := by kernel_rfl
theorem AsM.notAssignable (w : World) : (ReflectliteType.relation "AssignableTo" ReflectliteType.assignableTo #[.agg #[.pointer (some ⟨2, 52, none⟩)], .iface 176 (.agg #[.pointer (some ⟨2, 113, none⟩)])]).run Tryz.prog w = .ok (.bool false) w := by kernel_rfl
theorem AsM.noAs (v : Value) (xT : TypeId) (w : World) : (Instr.typeAssert (.iface 52 v) xT 181 true).run Tryz.prog w = .ok (.tuple #[.nilIface, .bool false]) w := run_typeAssert_lacksB Tryz.underlying181 (by kernel_rfl) (by kernel_rfl) v xT w
end Gv.Tryz
/- Kind of an error, for seat u: nil, an api.Errno, an oops.Which about an api.Errno. -/
set_option linter.unusedVariables false
namespace Gv.Tryz
open Go Gv Go.Proofs Go.RowKit
theorem cell_size {w : World} {t : Addr} {v : Value} (h : w.cell? t = some v) : t.block < w.heap.size := by
  rcases Nat.lt_or_ge t.block w.heap.size with h1 | h1
  · exact h1
  · simp [World.cell?, Array.getElem?_eq_none h1] at h
theorem after4 (w : World) (t : Addr) (old v : Value) (o1 o2 o3 o4 : Obj) (ht0 : w.cell? t = some old) :
    ((((((w.alloc o1).alloc o2).alloc o3).alloc o4).setCell t v)).cell? t = some v ∧ Below t.block w ((((((w.alloc o1).alloc o2).alloc o3).alloc o4).setCell t v)) := by
  have htl := cell_size ht0
  have b0 : Below t.block w w := Below.refl _ _
  refine ⟨?_, (((((b0.alloc (by omega) _).alloc (by simp; omega) _).alloc (by simp; omega) _).alloc (by simp; omega) _).setCell (Nat.le_refl _) _)⟩
  refine World.cell?_setCell_same _ t _ (u := old) ?_
  rw [World.cell?_alloc_lt _ _ t (by simp; omega), World.cell?_alloc_lt _ _ t (by simp; omega), World.cell?_alloc_lt _ _ t (by simp; omega), World.cell?_alloc_lt _ _ t htl]; exact ht0
theorem as_hitB (e : Int) (t : Addr) (old : Value) (w : World) (hg : w.cell? ⟨0, 0, none⟩ = some (.iface 176 (.agg #[.pointer (some ⟨2, 28, none⟩)]))) (ht0 : w.cell? t = some old) (hf0 : w.frozen? t = false) :
    Calls Tryz.prog 50 #[.iface 52 (.int .i64 e), .iface 112 (.pointer (some t))] w fun ev w' => ev = .returned (.bool true) ∧ w'.cell? t = some (.int .i64 e) ∧ Below t.block w w' := by
  refine (as_hit e t old w hg ht0 hf0).mono ?_
  rintro ev w' ⟨rfl, rfl⟩
  obtain ⟨h1, h2⟩ := after4 w t old _ _ _ _ _ ht0
  exact ⟨rfl, h1, h2⟩
theorem as_wrapB (b0 off : Nat) (e : Int) (t : Addr) (old : Value) (w : World) (hp : w.cell? ⟨b0, off + 32, none⟩ = some (.iface 52 (.int .i64 e))) (hg : w.cell? ⟨0, 0, none⟩ = some (.iface 176 (.agg #[.pointer (some ⟨2, 28, none⟩)]))) (ht0 : w.cell? t = some old) (hf0 : w.frozen? t = false) :
    Calls Tryz.prog 50 #[.iface 113 (.pointer (some ⟨b0, off, none⟩)), .iface 112 (.pointer (some t))] w fun ev w' => ev = .returned (.bool true) ∧ w'.cell? t = some (.int .i64 e) ∧ Below t.block w w' := by
  refine (as_wrap b0 off e t old w hp hg ht0 hf0).mono ?_
  rintro ev w' ⟨rfl, rfl⟩
  obtain ⟨h1, h2⟩ := after4 w t old _ _ _ _ _ ht0
  exact ⟨rfl, h1, h2⟩
set_option maxRecDepth 20000 in
set_option maxHeartbeats 4000000 in
theorem kind_hit (n : Int) (w : World) (hg : w.cell? ⟨0, 0, none⟩ = some (.iface 176 (.agg #[.pointer (some ⟨2, 28, none⟩)]))) :
    Calls Tryz.prog 19 #[.iface 52 (.int .i64 n)] w fun e w' => e = .returned (.int .i64 n) ∧ Below w.heap.size w w' := by
  have hlt := cell_size hg
  have ht := as_hitB n ⟨w.heap.size, 0, none⟩ (.int .i64 0) (w.alloc (.cells #[.int .i64 0] 52)) (by rw [World.cell?_alloc_lt _ _ ⟨0, 0, none⟩ hlt]; exact hg) (by simp) (by simp)
  go_enter Tryz.func19, Tryz.ntmps19
  go_wp2_with (go_at_call 50; refine ht.mono ?_; rintro e w' ⟨rfl, hc, hb⟩)
  go_ret
  exact ⟨rfl, ((Below.refl _ w).alloc (Nat.le_refl _) _).trans hb⟩
set_option maxRecDepth 20000 in
set_option maxHeartbeats 4000000 in
theorem kind_which (b0 off : Nat) (n : Int) (w : World) (hp : w.cell? ⟨b0, off + 32, none⟩ = some (.iface 52 (.int .i64 n))) (hg : w.cell? ⟨0, 0, none⟩ = some (.iface 176 (.agg #[.pointer (some ⟨2, 28, none⟩)]))) :
    Calls Tryz.prog 19 #[.iface 113 (.pointer (some ⟨b0, off, none⟩))] w fun e w' => e = .returned (.int .i64 n) ∧ Below w.heap.size w w' := by
  have hlt := cell_size hg
  have hlp := cell_size hp
  have ht := as_wrapB b0 off n ⟨w.heap.size, 0, none⟩ (.int .i64 0) (w.alloc (.cells #[.int .i64 0] 52)) (by rw [World.cell?_alloc_lt _ _ ⟨b0, off + 32, none⟩ hlp]; exact hp) (by rw [World.cell?_alloc_lt _ _ ⟨0, 0, none⟩ hlt]; exact hg) (by simp) (by simp)
  go_enter Tryz.func19, Tryz.ntmps19
  go_wp2_with (go_at_call 50; refine ht.mono ?_; rintro e w' ⟨rfl, hc, hb⟩)
  go_ret
  exact ⟨rfl, ((Below.refl _ w).alloc (Nat.le_refl _) _).trans hb⟩
end Gv.Tryz
/- Kind of an error; errors.As at the program's *oops.Which: the contracts. -/
set_option linter.unusedVariables false
namespace Gv.Tryz
open Go Gv Go.Proofs Go.RowKit
theorem glob_cell {E : Env} {O : List GObj} {w : World} (h : HSim E O w) : w.cell? ⟨0, 0, none⟩ = some (.iface 176 (.agg #[.pointer (some ⟨2, 28, none⟩)])) :=
  h.sealed _ _ _ (h.glob (0, 0, .iface 176 (.agg #[.pointer (some ⟨2, 28, none⟩)])) (by simp [globs]))
theorem args_one {E : Env} {vs : Array Value} {g : GVal} (h : ArgsR E vs [g]) : ∃ v, vs = #[v] ∧ VR E v g := by
  obtain ⟨h1, h2⟩ := h
  have h3 := h2 0 _ rfl
  refine ⟨vs.getD 0 undef, ?_, h3⟩
  apply Array.ext (by simpa using h1)
  intro i hi hi2
  simp at hi2; subst hi2
  simp [Array.getD, hi]
theorem args_two {E : Env} {vs : Array Value} {g k : GVal} (h : ArgsR E vs [g, k]) : ∃ v u, vs = #[v, u] ∧ VR E v g ∧ VR E u k := by
  obtain ⟨h1, h2⟩ := h
  have h3 := h2 0 _ rfl
  have h4 := h2 1 _ rfl
  have hs : vs.size = 2 := by simpa using h1
  refine ⟨vs.getD 0 undef, vs.getD 1 undef, ?_, h3, h4⟩
  apply Array.ext (by simpa using h1)
  intro i hi hi2
  match i with
  | 0 => simp [Array.getD, hs]
  | 1 => simp [Array.getD, hs]
  | i + 2 => omega
theorem hKindErr (n : Int) : GPure Tryz.prog 19 [.iface 52 (.int .i64 n)] (.int .i64 n) :=
  GPure.ofBelow (by kernel_rfl) fun E w vs hs ha => by
    obtain ⟨v, rfl, hv⟩ := args_one ha
    cases hv with
    | iface t v g h =>
      cases h
      exact (kind_hit n w (glob_cell hs)).mono fun e w' ⟨h1, h2⟩ => ⟨_, h1, h2, .int _ _⟩
theorem hKindWhich (gs : List GVal) (n : Int) (h32 : gs.length = 32) : GPure Tryz.prog 19 [.iface 113 (.ref (gs ++ [.iface 52 (.int .i64 n)]))] (.int .i64 n) :=
  GPure.ofBelow (by kernel_rfl) fun E w vs hs ha => by
    obtain ⟨v, rfl, hv⟩ := args_one ha
    cases hv with
    | iface t v g h =>
      cases h with
      | ref b off _ c hsn hc =>
        have h1 := hs.sealed _ _ _ (hsn 32 (by simp [h32]))
        have h2 := hc 32 _ (by rw [List.getElem?_append_right (by omega), h32]; rfl)
        generalize hq : c 32 = x at h1 h2
        cases h2 with
        | iface t v g h3 =>
          cases h3
          exact (kind_which b off n w h1 (glob_cell hs)).mono fun e w' ⟨h1, h2⟩ => ⟨_, h1, h2, .int _ _⟩
theorem storeW (t p : Addr) (old : Value) (W : World) (ht : W.cell? t = some old) (hf : W.frozen? t = false) :
    (Instr.storeAt 113 (.pointer (some t)) (.pointer (some p))).run Tryz.prog W = .ok () (W.setCell t (.pointer (some p))) := by
  have h84 : tab Tryz.prog 113 = some (1, false) := by kernel_rfl
  simp only [Instr.storeAt, Instr.sureAddr, storeVar, Sem.run_bind, Sem.run_pure, Result.andThen_ok, (tab_spec h84 W).1]
  simp [Value.cells, storeCells, Addr.add]
  rw [run_store Tryz.prog W t _ _ (by rfl)]
  simp [ht, hf]
theorem hAsWhich (gs : List GVal) (O : List GObj) (o st : Nat) (g0 : GVal) (hO : O[o]? = some (.row st 1 [[g0]])) (hsol : (GVal.ref gs).solid = true) :
    GCalls Tryz.prog 50 [.iface 113 (.ref gs), .iface 114 (.ptr o st 0 0)] O (fun g O' => g = .bool true ∧ O' = O.set o (.row st 1 [[.ref gs]])) := by
  refine ⟨by kernel_rfl, fun E w vs hs ha => ?_⟩
  obtain ⟨v, u, rfl, hv, hu⟩ := args_two ha
  cases hv with
  | iface t v g h =>
    cases h with
    | ref b off _ c hsn hc =>
      cases hu with
      | iface t u g h =>
        cases h with
        | ptr b2 off2 o st i j l hl hb ho =>
          obtain ⟨l', hl', hls, hsz, hreal⟩ := hs.real _ _ hO
          rw [hl] at hl'; cases hl'
          simp only [hb] at hreal
          obtain ⟨cur, el, hw, hcur, htot, hrows, hsnap⟩ := hreal
          have e2 : off2 < cur.size := by simp at htot; rw [hcur, ho]; omega
          have ht0 : w.cell? ⟨b2, off2, none⟩ = some cur[off2] := by
            simp [World.cell?, hw, e2]
          have hf0 : w.frozen? ⟨b2, off2, none⟩ = false := by
            simp [World.frozen?, hw]
          refine (as_hitW ⟨b, off, none⟩ ⟨b2, off2, none⟩ _ w (glob_cell hs) ht0 hf0).mono ?_
          rintro ev w' ⟨rfl, rfl⟩
          have htl := cell_size ht0
          have hBelow := ((((Below.refl w.heap.size w).alloc (Nat.le_refl _) (.cells #[.pointer (some ⟨b2, off2, none⟩)] 114)).alloc (by simp) (.cells #[.pointer (some ⟨2, 114, none⟩), .pointer (some ⟨w.heap.size, 0, none⟩), .int .u64 150] 143)).alloc (by simp; omega) (.cells #[.pointer (some ⟨2, 114, none⟩), .pointer (some ⟨w.heap.size, 0, none⟩), .int .u64 150] 143)).alloc (by simp; omega) (.cells #[.pointer (some ⟨b, off, none⟩)] 113)
          obtain ⟨s1, k1⟩ := hs.belowO hBelow
          have ht4 : ((((w.alloc (.cells #[.pointer (some ⟨b2, off2, none⟩)] 114)).alloc (.cells #[.pointer (some ⟨2, 114, none⟩), .pointer (some ⟨w.heap.size, 0, none⟩), .int .u64 150] 143)).alloc (.cells #[.pointer (some ⟨2, 114, none⟩), .pointer (some ⟨w.heap.size, 0, none⟩), .int .u64 150] 143)).alloc (.cells #[.pointer (some ⟨b, off, none⟩)] 113)).cell? ⟨b2, off2, none⟩ = some cur[off2] := by
            have htl' : b2 < w.heap.size := htl
            rw [World.cell?_alloc_lt _ _ _ (by simp; omega), World.cell?_alloc_lt _ _ _ (by simp; omega), World.cell?_alloc_lt _ _ _ (by simp; omega), World.cell?_alloc_lt _ _ _ htl']; exact ht0
          have hf4 : ((((w.alloc (.cells #[.pointer (some ⟨b2, off2, none⟩)] 114)).alloc (.cells #[.pointer (some ⟨2, 114, none⟩), .pointer (some ⟨w.heap.size, 0, none⟩), .int .u64 150] 143)).alloc (.cells #[.pointer (some ⟨2, 114, none⟩), .pointer (some ⟨w.heap.size, 0, none⟩), .int .u64 150] 143)).alloc (.cells #[.pointer (some ⟨b, off, none⟩)] 113)).frozen? ⟨b2, off2, none⟩ = false := by
            have htl' : b2 < w.heap.size := htl
            rw [World.frozen?_alloc_old _ _ _ (by simp; omega), World.frozen?_alloc_old _ _ _ (by simp; omega), World.frozen?_alloc_old _ _ _ (by simp; omega), World.frozen?_alloc_old _ _ _ (Nat.ne_of_lt htl')]; exact hf0
          generalize ((((w.alloc (.cells #[.pointer (some ⟨b2, off2, none⟩)] 114)).alloc (.cells #[.pointer (some ⟨2, 114, none⟩), .pointer (some ⟨w.heap.size, 0, none⟩), .int .u64 150] 143)).alloc (.cells #[.pointer (some ⟨2, 114, none⟩), .pointer (some ⟨w.heap.size, 0, none⟩), .int .u64 150] 143)).alloc (.cells #[.pointer (some ⟨b, off, none⟩)] 113)) = w4 at s1 k1 ht4 hf4 ⊢
          obtain ⟨w5, E5, O5, hrun, s5, k5, rfl⟩ := store_sound (P := Tryz.prog) (t := 113) (g := .ptr o st 0 0) (v := .ref gs) (KU := fun O' => O' = O.set o (.row st 1 [[.ref gs]])) s1 (.ptr b2 off2 o st 0 0 l hl hb ho) (.ref b off gs c hsn hc) (by
            have h84 : tab Tryz.prog 113 = some (1, false) := by kernel_rfl
            simp only [storeV, h84, hO]
            simp [GVal.okCells, GVal.cells, splice, hsol])
          rw [storeW _ _ _ _ ht4 hf4] at hrun
          cases hrun
          exact ⟨_, _, _, _, rfl, s5, k1.trans k5, .bool true, rfl, rfl⟩
end Gv.Tryz
/- Whose hash an error tells. -/
set_option linter.unusedVariables false
set_option linter.unusedSimpArgs false
set_option maxRecDepth 20000
set_option maxHeartbeats 4000000
namespace Gv.Tryz
open Go Gv Go.Proofs
theorem gWhose (h : Hs) (n : Int) : GPure Tryz.prog 22 [whichG h n] (.tuple [.agg (bytesG h.1), .bool true]) := by
  have hs33 : (GVal.ref (bytesG h.1 ++ [errG n])).solid = true := by simp [GVal.solid, solidH, errG]
  refine h22.pure mixS (by simp) ?_
  simp only [gstart, s22, List.cons_append, List.nil_append, List.length_cons, List.length_nil, Nat.reduceAdd, Nat.reduceSub, List.replicate_succ, List.replicate_zero]
  simp +contextual -implicitDefEqProofs (maxSteps := 2000000) (disch := omega) only [binV, ↓loadV, ↓storeV, ↓fieldAddrV, ↓allocV, ↓buildV, ↓nilV, ↓ifaceV, fillG, place, GVal.cells, GVal.ofConst, ↓resV, resG, ↓reduceIte, Nat.reduceEqDiff, Nat.reduceAdd, Nat.reduceSub, Nat.reduceLeDiff, reduceCtorEq, aggV, Tag.cap, GVal.solid, Nat.reduceBEq, Nat.reduceMul, Nat.reduceLT, vcA, ↓vcB, vcC, fbFy, e22, vcD]
  intro s1
  refine ⟨rfl, fun s2 => ?_⟩
  refine (hAsWhich (bytesG h.1 ++ [errG n]) _ 1 s2 _ rfl hs33).mono ?_
  rintro g O' ⟨rfl, rfl⟩
  simp +contextual -implicitDefEqProofs (maxSteps := 2000000) (disch := omega) only [binV, ↓loadV, ↓storeV, ↓fieldAddrV, ↓allocV, ↓buildV, ↓nilV, ↓ifaceV, fillG, place, GVal.cells, GVal.ofConst, ↓resV, resG, ↓reduceIte, Nat.reduceEqDiff, Nat.reduceAdd, Nat.reduceSub, Nat.reduceLeDiff, reduceCtorEq, aggV, Tag.cap, GVal.solid, Nat.reduceBEq, Nat.reduceMul, Nat.reduceLT, vcA, ↓vcB, vcC, fbFy, e22, List.set, bytesG_len, vcD, v32]
  have h32 : (bytesG h.1).length = 32 := len32 h
  have e1 : List.take 32 (bytesG h.1 ++ [errG n]) = bytesG h.1 := List.take_left' h32
  have e2 : ∀ X, List.take 32 (bytesG h.1 ++ X) = bytesG h.1 := fun X => List.take_left' h32
  simp only [e1, e2, h32, List.length_append]
  exact ⟨by omega, by simp, of_eq_true (solidH h), trivial, by simp, of_eq_true (leG_self _)⟩
end Gv.Tryz
