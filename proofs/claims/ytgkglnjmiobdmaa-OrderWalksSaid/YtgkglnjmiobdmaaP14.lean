/- OrderWalks gives true. -/
import Derived.Test.YtgkglnjmiobdmaaP13
import Derived.Test.YtgkglnjmiobdmaaP4
import Derived.Test.YtgkglnjmiobdmaaP5
import Derived.Test.YtgkglnjmiobdmaaP6
import Derived.Test.YtgkglnjmiobdmaaP12
set_option linter.unusedVariables false
set_option linter.unusedSimpArgs false
set_option maxRecDepth 20000
set_option maxHeartbeats 8000000
namespace Gv.Try
open Go Gv Go.Proofs
theorem VisL.alike {m L : GM} (h : Alike m L) {dn : Hs → Bool} {r : List Hs} {so T : WSt} (hv : VisL m dn r so T) : VisL L dn r so T := by
  have hp : ∀ S x, pushed m dn S x = pushed L dn S x := fun S x => by unfold pushed; rw [h x]
  induction hv with
  | nil so => exact .nil so
  | skip p r so T h1 _ ih => exact .skip p r so T (by rw [← hp]; exact h1) ih
  | go p r so so1 T h1 _ _ ih1 ih2 => exact .go p r so so1 T (by rw [← hp]; exact h1) (by rw [← h.pars]; exact ih1) ih2
theorem anc_alike {m L : GM} (h : Alike m L) (l : List Hs) : ancL m l = ancL L l := ss_eq (ancL_ss m l) (ancL_ss L l) fun x => by
  have : inM m l = inM L l := by unfold inM; congr 1; funext y; rw [h y]
  rw [ancL_mem, ancL_mem, this, h.pars]
def RisesTo (m : GM) (b : List Hs) (i : Nat) : Prop := (b.take i).Nodup ∧ (∀ x ∈ b.take i, (look m x).isSome = true) ∧ ∀ k j, k < j → j < i → j < b.length → b.getD j h0 ∉ ancL m [b.getD k h0]
theorem rises_all (m : GM) (b : List Hs) : RisesTo m b b.length ↔ RisingP m b := by
  unfold RisesTo RisingP
  rw [List.take_length]
  have eg : ∀ i (q : i < b.length), b.getD i h0 = b[i] := fun i q => by simp [List.getD, q]
  refine ⟨fun ⟨a, c, d⟩ => ⟨a, c, fun k h x hk hx j hj => ?_⟩, fun ⟨a, c, d⟩ => ⟨a, c, fun k j hkj hj _ hm => ?_⟩⟩
  · obtain ⟨q1, q2⟩ := List.getElem?_eq_some_iff.1 hj
    obtain ⟨q3, q4⟩ := List.getElem?_eq_some_iff.1 hk
    refine Nat.le_of_not_lt fun hlt => d k j hlt q1 q1 ?_
    rw [eg j q1, eg k q3, q2, q4]; exact hx
  · have := d k (b.getD k h0) (b.getD j h0) (by rw [eg k (by omega)]; exact List.getElem?_eq_getElem _) hm j (by rw [eg j hj]; exact List.getElem?_eq_getElem _)
    omega
def RisesK (m : GM) (b : List Hs) (i : Nat) (x : Hs) (k : Nat) : Prop := RisesTo m b i ∧ (look m x).isSome = true ∧ x ∉ b.take i ∧ ∀ k', k' < k → x ∉ ancL m [b.getD k' h0]
theorem RisesK.mono {m : GM} {b : List Hs} {i : Nat} {x : Hs} {k k2 : Nat} (h : RisesK m b i x k) (hk : k2 ≤ k) : RisesK m b i x k2 := ⟨h.1, h.2.1, h.2.2.1, fun k' hk' => h.2.2.2 k' (by omega)⟩
theorem RisesK.snoc {m : GM} {b : List Hs} {i : Nat} {x : Hs} {k : Nat} (h : RisesK m b i x k) (hx : x ∉ ancL m [b.getD k h0]) : RisesK m b i x (k + 1) := ⟨h.1, h.2.1, h.2.2.1, fun k' hk' => by
  by_cases e : k' = k
  · rw [e]; exact hx
  · exact h.2.2.2 k' (by omega)⟩
theorem risesK_all (m : GM) (b : List Hs) (i : Nat) (x : Hs) (h : i < b.length) (hx : b.getD i h0 = x) : RisesK m b i x i ↔ RisesTo m b (i + 1) := by
  have ht := takeH h
  rw [hx] at ht
  unfold RisesK RisesTo
  rw [ht]
  constructor
  · rintro ⟨⟨a, c, d⟩, e, f, g⟩
    refine ⟨?_, fun y hy => ?_, fun k j hkj hj hjl => ?_⟩
    · rw [List.nodup_append]
      exact ⟨a, by simp, fun p hp q hq => by rw [List.mem_singleton.1 hq]; exact fun w => f (w ▸ hp)⟩
    · rcases List.mem_append.1 hy with q | q
      · exact c y q
      · rw [List.mem_singleton.1 q]; exact e
    · by_cases w : j = i
      · subst w; rw [hx]; exact g k hkj
      · exact d k j hkj (by omega) hjl
  · rintro ⟨a, c, d⟩
    rw [List.nodup_append] at a
    refine ⟨⟨a.1, fun y hy => c y (List.mem_append_left _ hy), fun k j hkj hj hjl => d k j hkj (by omega) hjl⟩, c x (by simp), fun q => a.2.2 x q x (by simp) rfl, fun k hk => ?_⟩
    have := d k i hk (by omega) h
    rw [hx] at this
    exact this
theorem gWalks1 (m : GM) (st s sa : Nat) (y : GObj) (a : List Hs) (hl : a.length ≤ 1000000) (h : Hs) : DoneY (.row sa 1 [[.slice (hsG a) .none]]) y st s m 19 [.ptr 2 sa 0 0] h (decide (h ∈ a)) := fun X => by
  have cI := hIn a .none h (by omega)
  refine h19.calls mixS (by simp) ?_
  simp only [gstart, s19, List.cons_append, List.nil_append, List.length_cons, List.length_nil, Nat.reduceAdd, Nat.reduceSub, List.replicate_succ, List.replicate_zero]
  simp +contextual -implicitDefEqProofs (maxSteps := 2000000) (disch := omega) only [↓loadV, ↓boxV, GVal.cells, GVal.ofConst, ↓resV, resG, ↓reduceIte, Nat.reduceEqDiff, Nat.reduceAdd, Nat.reduceSub, Nat.reduceLeDiff, reduceCtorEq, Tag.cap, GVal.solid, Nat.reduceBEq, Nat.reduceMul, Nat.reduceLT, vcA, ↓vcB, vcC, fbFd, e19, vcD, v32]
  refine cI.then ?_ (by rfl)
  simp +contextual -implicitDefEqProofs (maxSteps := 2000000) (disch := omega) only [↓loadV, ↓boxV, GVal.cells, GVal.ofConst, ↓resV, resG, ↓reduceIte, Nat.reduceEqDiff, Nat.reduceAdd, Nat.reduceSub, Nat.reduceLeDiff, reduceCtorEq, Tag.cap, GVal.solid, Nat.reduceBEq, Nat.reduceMul, Nat.reduceLT, vcA, ↓vcB, vcC, fbFd, e19, vcD]
theorem specWalks (l : List RR) (hs ds ls : List Int) (t1 t2 t3 : Tag) : GPure Try.prog 5 [.slice (rrsG l) .none, .slice (ints hs) t1, .slice (ints ds) t2, .slice (ints ls) t3] (.bool true) := by
  have cH := gHashes hs 6 t1 (by omega)
  have cD := gHashes ds 8 t2 (by omega)
  have cB := gHashes ls 6 t3 (by omega)
  obtain ⟨H, hH⟩ : ∃ H, hashN hs (min hs.length 6) = H := ⟨_, rfl⟩
  obtain ⟨D, hD⟩ : ∃ H, hashN ds (min ds.length 8) = H := ⟨_, rfl⟩
  obtain ⟨b, hb⟩ : ∃ H, hashN ls (min ls.length 6) = H := ⟨_, rfl⟩
  have lH : H.length ≤ 6 := by rw [← hH, hashN_len]; omega
  have lD : D.length ≤ 8 := by rw [← hD, hashN_len]; omega
  have lb : b.length ≤ 6 := by rw [← hb, hashN_len]; omega
  rw [hH] at cH
  rw [hD] at cD
  rw [hb] at cB
  refine GCalls.toPure ?_
  refine h5.calls mixS (by simp) ?_
  simp only [gstart, s5, List.cons_append, List.nil_append, List.length_cons, List.length_nil, Nat.reduceAdd, Nat.reduceSub, List.replicate_succ, List.replicate_zero]
  simp +contextual -implicitDefEqProofs (maxSteps := 2000000) (disch := omega) only [drawC, drawK, keepT, ↓lenV, binV, ↓unV, optV, ↓loadV, ↓storeV, ↓indexAddrV, ↓allocV, ↓sliceV, bound, cutTag, hiTag, GVal.cells, GVal.ofConst, ↓resV, resG, ↓reduceIte, Nat.reduceEqDiff, Nat.reduceAdd, Nat.reduceSub, Nat.reduceLeDiff, reduceCtorEq, aggV, Tag.cap, GVal.solid, Nat.reduceBEq, Nat.reduceMul, Nat.reduceLT, vcA, ↓vcB, vcC, fbFd, e5, vcD]
  refine (gBoth l).mono ?_
  rintro g O' ⟨st, s, rt, m, L, ⟨hm, hL, hA⟩, rfl, rfl⟩
  have hgL := good_alike hm hA hL
  obtain ⟨T, hT⟩ := walk_ex m (fun x => decide (x ∈ D)) H
  obtain ⟨N, hN⟩ := walk_ex m (fun _ => false) H
  have lT := walk_len hm hT
  have lN := walk_len hm hN
  have cR := fun X => GCalls.keep2 (gRising m hm.gm st s b .none (by omega)) rfl X
  have hRis := rises_all m b
  have cWn := fun X => GCalls.keep2 (gWalkN m hm.gm H .none st s N hN (by omega)) rfl X
  have cWd := fun sa => GCalls.perm2 (gWalkY (.row sa 1 [[.slice (hsG D) .none]]) (.row rt 1 [[.slice (csG L) .none]]) m hm.gm H .none st s 19 [.ptr 2 sa 0 0] _ (fun h => gWalks1 m st s sa _ D (by omega) h) T hT (by omega)) rfl (args' := [.ptr 0 st 0 0, .slice (hsG H) .none, .func (.func 19) [] [.ptr 3 sa 0 0]]) ⟨GLe.refl _, GLe.refl _, GLe.func _ trivial ⟨GLe.ptr _ _ _ _ _, trivial⟩, trivial⟩
  have cVd := fun X => GCalls.keep1' (rWalk L hL hgL H .none (by omega) D .none (by omega) rt T (hT.alike hA)) (O := gObj st s m ++ rObj rt L ++ X) (args' := [.ptr 2 rt 0 0, .slice (hsG H) .none, .slice (hsG D) .none]) 2 rfl rfl rfl rfl
  have hN2 : VisL L (fun x => decide (x ∈ ([] : List Hs))) H ([], []) N := by
    have e : (fun x : Hs => decide (x ∈ ([] : List Hs))) = fun _ => false := by funext x; simp
    rw [e]; exact hN.alike hA
  have cVn := fun X => GCalls.keep1' (rWalk L hL hgL H .none (by omega) [] .nil (by simp) rt N hN2) (O := gObj st s m ++ rObj rt L ++ X) (args' := [.ptr 2 rt 0 0, .slice (hsG H) .none, .slice [] .nil]) 2 rfl rfl rfl rfl
  have cHas := fun x X => GCalls.keep1' (rHas L hL (by have := hgL.ok.len; omega) x rt) (O := gObj st s m ++ rObj rt L ++ X) (args' := [.ptr 2 rt 0 0, .agg (bytesG x.1)]) 2 rfl rfl rfl rfl
  have cAnc := fun x X => GCalls.keep1' (rAncestors L hL hgL [x] .none (by simp) rt) (O := gObj st s m ++ rObj rt L ++ X) (args' := [.ptr 2 rt 0 0, .slice (hsG [x]) .none]) 2 rfl rfl rfl rfl
  have hAn : ∀ x, ancL L [x] = ancL m [x] := fun x => (anc_alike hA [x]).symm
  have lAn := fun x => anc_len hm [x]
  have cE1 := hSame T.2 T.2 .none .none (by omega)
  have cE2 := hSame N.2 N.2 .none .none (by omega)
  rw [decide_eq_true rfl] at cE1 cE2
  clear hT hN hN2 hH hD hb
  obtain ⟨a, ha⟩ : ∃ a, T.2 = a := ⟨_, rfl⟩
  obtain ⟨c, hc⟩ : ∃ a, N.2 = a := ⟨_, rfl⟩
  rw [ha] at cVd cE1 lT
  rw [hc] at cVn cE2 lN
  simp only [ha] at cWd
  simp only [hc] at cWn
  simp +contextual -implicitDefEqProofs (maxSteps := 2000000) (disch := omega) only [drawC, drawK, keepT, ↓lenV, binV, ↓unV, optV, ↓loadV, ↓storeV, ↓indexAddrV, ↓allocV, ↓sliceV, bound, cutTag, hiTag, GVal.cells, GVal.ofConst, ↓resV, resG, ↓reduceIte, Nat.reduceEqDiff, Nat.reduceAdd, Nat.reduceSub, Nat.reduceLeDiff, reduceCtorEq, aggV, Tag.cap, GVal.solid, Nat.reduceBEq, Nat.reduceMul, Nat.reduceLT, vcA, ↓vcB, vcC, fbFd, e5, vcD]
  refine gKnown.then ?_ (by rfl)
  simp +contextual -implicitDefEqProofs (maxSteps := 2000000) (disch := omega) only [drawC, drawK, keepT, ↓lenV, binV, ↓unV, optV, ↓loadV, ↓storeV, ↓indexAddrV, ↓allocV, ↓sliceV, bound, cutTag, hiTag, GVal.cells, GVal.ofConst, ↓resV, resG, ↓reduceIte, Nat.reduceEqDiff, Nat.reduceAdd, Nat.reduceSub, Nat.reduceLeDiff, reduceCtorEq, aggV, Tag.cap, GVal.solid, Nat.reduceBEq, Nat.reduceMul, Nat.reduceLT, vcA, ↓vcB, vcC, fbFd, e5, vcD]
  refine cH.then ?_ (by rfl)
  simp +contextual -implicitDefEqProofs (maxSteps := 2000000) (disch := omega) only [drawC, drawK, keepT, ↓lenV, binV, ↓unV, optV, ↓loadV, ↓storeV, ↓indexAddrV, ↓allocV, ↓sliceV, bound, cutTag, hiTag, GVal.cells, GVal.ofConst, ↓resV, resG, ↓reduceIte, Nat.reduceEqDiff, Nat.reduceAdd, Nat.reduceSub, Nat.reduceLeDiff, reduceCtorEq, aggV, Tag.cap, GVal.solid, Nat.reduceBEq, Nat.reduceMul, Nat.reduceLT, vcA, ↓vcB, vcC, fbFd, e5, vcD]
  refine cD.then ?_ (by rfl)
  simp +contextual -implicitDefEqProofs (maxSteps := 2000000) (disch := omega) only [drawC, drawK, keepT, ↓lenV, binV, ↓unV, optV, ↓loadV, ↓storeV, ↓indexAddrV, ↓allocV, ↓sliceV, bound, cutTag, hiTag, GVal.cells, GVal.ofConst, ↓resV, resG, ↓reduceIte, Nat.reduceEqDiff, Nat.reduceAdd, Nat.reduceSub, Nat.reduceLeDiff, reduceCtorEq, aggV, Tag.cap, GVal.solid, Nat.reduceBEq, Nat.reduceMul, Nat.reduceLT, vcA, ↓vcB, vcC, fbFd, e5, vcD]
  intro sd
  refine (cWd sd).mono ?_
  rintro g O' ⟨rfl, rfl⟩
  simp +contextual -implicitDefEqProofs (maxSteps := 2000000) (disch := omega) only [drawC, drawK, keepT, ↓lenV, binV, ↓unV, optV, ↓loadV, ↓storeV, ↓indexAddrV, ↓allocV, ↓sliceV, bound, cutTag, hiTag, GVal.cells, GVal.ofConst, ↓resV, resG, ↓reduceIte, Nat.reduceEqDiff, Nat.reduceAdd, Nat.reduceSub, Nat.reduceLeDiff, reduceCtorEq, aggV, Tag.cap, GVal.solid, Nat.reduceBEq, Nat.reduceMul, Nat.reduceLT, vcA, ↓vcB, vcC, fbFd, e5, vcD]
  refine (cVd _).mono ?_
  rintro g O' ⟨rfl, rfl⟩
  simp +contextual -implicitDefEqProofs (maxSteps := 2000000) (disch := omega) only [drawC, drawK, keepT, ↓lenV, binV, ↓unV, optV, ↓loadV, ↓storeV, ↓indexAddrV, ↓allocV, ↓sliceV, bound, cutTag, hiTag, GVal.cells, GVal.ofConst, ↓resV, resG, ↓reduceIte, Nat.reduceEqDiff, Nat.reduceAdd, Nat.reduceSub, Nat.reduceLeDiff, reduceCtorEq, aggV, Tag.cap, GVal.solid, Nat.reduceBEq, Nat.reduceMul, Nat.reduceLT, vcA, ↓vcB, vcC, fbFd, e5, vcD]
  refine cE1.then ?_ (by rfl)
  simp +contextual -implicitDefEqProofs (maxSteps := 2000000) (disch := omega) only [drawC, drawK, keepT, ↓lenV, binV, ↓unV, optV, ↓loadV, ↓storeV, ↓indexAddrV, ↓allocV, ↓sliceV, bound, cutTag, hiTag, GVal.cells, GVal.ofConst, ↓resV, resG, ↓reduceIte, Nat.reduceEqDiff, Nat.reduceAdd, Nat.reduceSub, Nat.reduceLeDiff, reduceCtorEq, aggV, Tag.cap, GVal.solid, Nat.reduceBEq, Nat.reduceMul, Nat.reduceLT, vcA, ↓vcB, vcC, fbFd, e5, vcD]
  refine (cWn _).mono ?_
  rintro g O' ⟨rfl, rfl⟩
  simp +contextual -implicitDefEqProofs (maxSteps := 2000000) (disch := omega) only [drawC, drawK, keepT, ↓lenV, binV, ↓unV, optV, ↓loadV, ↓storeV, ↓indexAddrV, ↓allocV, ↓sliceV, bound, cutTag, hiTag, GVal.cells, GVal.ofConst, ↓resV, resG, ↓reduceIte, Nat.reduceEqDiff, Nat.reduceAdd, Nat.reduceSub, Nat.reduceLeDiff, reduceCtorEq, aggV, Tag.cap, GVal.solid, Nat.reduceBEq, Nat.reduceMul, Nat.reduceLT, vcA, ↓vcB, vcC, fbFd, e5, vcD]
  refine (cVn _).mono ?_
  rintro g O' ⟨rfl, rfl⟩
  simp +contextual -implicitDefEqProofs (maxSteps := 2000000) (disch := omega) only [drawC, drawK, keepT, ↓lenV, binV, ↓unV, optV, ↓loadV, ↓storeV, ↓indexAddrV, ↓allocV, ↓sliceV, bound, cutTag, hiTag, GVal.cells, GVal.ofConst, ↓resV, resG, ↓reduceIte, Nat.reduceEqDiff, Nat.reduceAdd, Nat.reduceSub, Nat.reduceLeDiff, reduceCtorEq, aggV, Tag.cap, GVal.solid, Nat.reduceBEq, Nat.reduceMul, Nat.reduceLT, vcA, ↓vcB, vcC, fbFd, e5, vcD]
  refine cE2.then ?_ (by rfl)
  simp +contextual -implicitDefEqProofs (maxSteps := 2000000) (disch := omega) only [drawC, drawK, keepT, ↓lenV, binV, ↓unV, optV, ↓loadV, ↓storeV, ↓indexAddrV, ↓allocV, ↓sliceV, bound, cutTag, hiTag, GVal.cells, GVal.ofConst, ↓resV, resG, ↓reduceIte, Nat.reduceEqDiff, Nat.reduceAdd, Nat.reduceSub, Nat.reduceLeDiff, reduceCtorEq, aggV, Tag.cap, GVal.solid, Nat.reduceBEq, Nat.reduceMul, Nat.reduceLT, vcA, ↓vcB, vcC, fbFd, e5, vcD]
  refine cB.then ?_ (by rfl)
  simp +contextual -implicitDefEqProofs (maxSteps := 2000000) (disch := omega) only [drawC, drawK, keepT, ↓lenV, binV, ↓unV, optV, ↓loadV, ↓storeV, ↓indexAddrV, ↓allocV, ↓sliceV, bound, cutTag, hiTag, GVal.cells, GVal.ofConst, ↓resV, resG, ↓reduceIte, Nat.reduceEqDiff, Nat.reduceAdd, Nat.reduceSub, Nat.reduceLeDiff, reduceCtorEq, aggV, Tag.cap, GVal.solid, Nat.reduceBEq, Nat.reduceMul, Nat.reduceLT, vcA, ↓vcB, vcC, fbFd, e5, vcD]
  refine vcSLoop_by (ι := { p : Nat × Bool // p.1 ≤ b.length ∧ (p.2 = true ↔ RisesTo m b p.1) }) (fun p => ⟨List.replicate 9 .any ++ [.ptr 0 st 0 0, .ptr 2 rt 0 0, .any, .any, .any, .slice (hsG b) .none, .bool p.1.2, .int .i64 (p.1.1 : Nat)] ++ List.replicate 91 .any, [.row st 1 [[.map 1 s]], .map s (kvG encL m), .row rt 1 [[.slice (csG L) .none]], .row sd 1 [[.slice (hsG D) .none]]]⟩) (fun p => b.length - p.1.1) ?_ ?_
  · exact Into.first ⟨(0, true), Nat.zero_le _, by simp [RisesTo]⟩ ⟨[], by simp⟩ (by simp [WL, leG_self, leG_any])
  · rintro ⟨⟨i, w⟩, hi, hw⟩
    change i ≤ b.length at hi
    have hw : w = true ↔ RisesTo m b i := hw
    by_cases h : i < b.length
    · have d0 : ((i : Int) < (b.length : Int)) = True := eq_true (by omega)
      have eX := hsG_at b i h
      obtain ⟨x, hx⟩ : ∃ x, b.getD i h0 = x := ⟨_, rfl⟩
      rw [hx] at eX
      have hXall : RisesK m b i x i ↔ RisesTo m b (i + 1) := risesK_all m b i x h hx
      have tn0 : ((i : Int)).toNat = i := by omega
      have cHx := cHas x [.row sd 1 [[.slice (hsG D) .none]]]
      have hLm : (look L x).isSome = (look m x).isSome := by rw [hA x]
      rw [hLm] at cHx
      have cIx := hIn (b.take i) .none x (by rw [List.length_take]; omega)
      cases w with
      | false =>
        simp +contextual -implicitDefEqProofs (maxSteps := 2000000) (disch := omega) only [drawC, drawK, keepT, ↓lenV, binV, ↓unV, optV, ↓loadV, ↓storeV, ↓indexAddrV, ↓allocV, ↓sliceV, bound, cutTag, hiTag, GVal.cells, GVal.ofConst, ↓resV, resG, ↓reduceIte, Nat.reduceEqDiff, Nat.reduceAdd, Nat.reduceSub, Nat.reduceLeDiff, reduceCtorEq, aggV, Tag.cap, GVal.solid, Nat.reduceBEq, Nat.reduceMul, Nat.reduceLT, vcA, ↓vcB, vcC, fbFd, e5, hsG_len, all_hsG, take_hs, toNat0, List.drop_zero, d0, tn0, eX, vcD, v32]
        refine vcSLoop_by (ι := { p : Nat × Bool // p.1 ≤ i ∧ (p.2 = true ↔ RisesK m b i x p.1) }) (fun p => ⟨List.replicate 9 .any ++ [.ptr 0 st 0 0, .ptr 2 rt 0 0, .any, .any, .any, .slice (hsG b) .none, .bool p.1.2, .int .i64 (i : Nat), .int .i64 (p.1.1 : Nat)] ++ List.replicate 90 .any, [.row st 1 [[.map 1 s]], .map s (kvG encL m), .row rt 1 [[.slice (csG L) .none]], .row sd 1 [[.slice (hsG D) .none]]]⟩) (fun p => i - p.1.1) ?_ ?_
        · exact Into.first ⟨(0, false), Nat.zero_le _, ⟨fun q => (by cases q), fun q => hw.2 q.1⟩⟩ ⟨[], by simp⟩ (by simp [WL, leG_self, leG_any])
        · rintro ⟨⟨k, u⟩, hk, hu⟩
          change k ≤ i at hk
          have hu : u = true ↔ RisesK m b i x k := hu
          by_cases hki : k < i
          · have d1 : ((k : Int) < (i : Int)) = True := eq_true (by omega)
            cases u with
            | false =>
              have hnX : ¬ RisesTo m b (i + 1) := fun q => by
                have := hu.2 (hXall.2 q |>.mono (by omega))
                cases this
              simp +contextual -implicitDefEqProofs (maxSteps := 2000000) (disch := omega) only [drawC, drawK, keepT, ↓lenV, binV, ↓unV, optV, ↓loadV, ↓storeV, ↓indexAddrV, ↓allocV, ↓sliceV, bound, cutTag, hiTag, GVal.cells, GVal.ofConst, ↓resV, resG, ↓reduceIte, Nat.reduceEqDiff, Nat.reduceAdd, Nat.reduceSub, Nat.reduceLeDiff, reduceCtorEq, aggV, Tag.cap, GVal.solid, Nat.reduceBEq, Nat.reduceMul, Nat.reduceLT, vcA, ↓vcB, vcC, fbFd, e5, d1, vcD]
              exact Into.at ⟨(i + 1, false), by show i + 1 ≤ b.length; omega, by simpa using hnX⟩ (by show b.length - (i + 1) < b.length - i; omega) ⟨[], by simp⟩ (by simp [WL, leG_self, leG_any, leG_int])
            | true =>
              have hXk := hu.1 rfl
              obtain ⟨y, hy⟩ : ∃ y, b.getD k h0 = y := ⟨_, rfl⟩
              have cA := cAnc y [.row sd 1 [[.slice (hsG D) .none]]]
              rw [hAn] at cA
              have cI := hIn (ancL m [y]) .none x (by have := lAn y; omega)
              have eD : List.drop k (hsG (List.take (k + 1) b)) = hsG [y] := by
                rw [drop_hs, takeH (by omega), hy, List.drop_left' (by rw [List.length_take]; omega)]
              have tn : ((k : Int)).toNat = k := by omega
              have tn1 : ((k : Int) + 1).toNat = k + 1 := by omega
              by_cases hm' : x ∈ ancL m [y]
              · rw [decide_eq_true hm'] at cI
                simp +contextual -implicitDefEqProofs (maxSteps := 2000000) (disch := omega) only [drawC, drawK, keepT, ↓lenV, binV, ↓unV, optV, ↓loadV, ↓storeV, ↓indexAddrV, ↓allocV, ↓sliceV, bound, cutTag, hiTag, GVal.cells, GVal.ofConst, ↓resV, resG, ↓reduceIte, Nat.reduceEqDiff, Nat.reduceAdd, Nat.reduceSub, Nat.reduceLeDiff, reduceCtorEq, aggV, Tag.cap, GVal.solid, Nat.reduceBEq, Nat.reduceMul, Nat.reduceLT, vcA, ↓vcB, vcC, fbFd, e5, hsG_len, all_hsG, take_hs, toNat0, List.drop_zero, d1, tn, tn1, eX, eD, vcD, v32]
                refine ⟨by omega, by omega, by omega, by omega, by omega, cA.mono ?_⟩
                rintro g O' ⟨rfl, rfl⟩
                simp +contextual -implicitDefEqProofs (maxSteps := 2000000) (disch := omega) only [drawC, drawK, keepT, ↓lenV, binV, ↓unV, optV, ↓loadV, ↓storeV, ↓indexAddrV, ↓allocV, ↓sliceV, bound, cutTag, hiTag, GVal.cells, GVal.ofConst, ↓resV, resG, ↓reduceIte, Nat.reduceEqDiff, Nat.reduceAdd, Nat.reduceSub, Nat.reduceLeDiff, reduceCtorEq, aggV, Tag.cap, GVal.solid, Nat.reduceBEq, Nat.reduceMul, Nat.reduceLT, vcA, ↓vcB, vcC, fbFd, e5, hsG_len, all_hsG, take_hs, toNat0, List.drop_zero, vcD, v32]
                refine ⟨⟨[], by simp⟩, ?_⟩
                refine cI.then ?_ (by rfl)
                simp +contextual -implicitDefEqProofs (maxSteps := 2000000) (disch := omega) only [drawC, drawK, keepT, ↓lenV, binV, ↓unV, optV, ↓loadV, ↓storeV, ↓indexAddrV, ↓allocV, ↓sliceV, bound, cutTag, hiTag, GVal.cells, GVal.ofConst, ↓resV, resG, ↓reduceIte, Nat.reduceEqDiff, Nat.reduceAdd, Nat.reduceSub, Nat.reduceLeDiff, reduceCtorEq, aggV, Tag.cap, GVal.solid, Nat.reduceBEq, Nat.reduceMul, Nat.reduceLT, vcA, ↓vcB, vcC, fbFd, e5, hsG_len, all_hsG, take_hs, toNat0, List.drop_zero, vcD, v32]
                exact Into.at ⟨(k + 1, false), by show k + 1 ≤ i; omega, ⟨fun q => (by cases q), fun q => absurd (by rw [hy]; exact hm') (q.2.2.2 k (by omega))⟩⟩ (by show i - (k + 1) < i - k; omega) ⟨[], by simp⟩ (by simp [WL, leG_self, leG_any, leG_int])
              · rw [decide_eq_false hm'] at cI
                simp +contextual -implicitDefEqProofs (maxSteps := 2000000) (disch := omega) only [drawC, drawK, keepT, ↓lenV, binV, ↓unV, optV, ↓loadV, ↓storeV, ↓indexAddrV, ↓allocV, ↓sliceV, bound, cutTag, hiTag, GVal.cells, GVal.ofConst, ↓resV, resG, ↓reduceIte, Nat.reduceEqDiff, Nat.reduceAdd, Nat.reduceSub, Nat.reduceLeDiff, reduceCtorEq, aggV, Tag.cap, GVal.solid, Nat.reduceBEq, Nat.reduceMul, Nat.reduceLT, vcA, ↓vcB, vcC, fbFd, e5, hsG_len, all_hsG, take_hs, toNat0, List.drop_zero, d1, tn, tn1, eX, eD, vcD, v32]
                refine ⟨by omega, by omega, by omega, by omega, by omega, cA.mono ?_⟩
                rintro g O' ⟨rfl, rfl⟩
                simp +contextual -implicitDefEqProofs (maxSteps := 2000000) (disch := omega) only [drawC, drawK, keepT, ↓lenV, binV, ↓unV, optV, ↓loadV, ↓storeV, ↓indexAddrV, ↓allocV, ↓sliceV, bound, cutTag, hiTag, GVal.cells, GVal.ofConst, ↓resV, resG, ↓reduceIte, Nat.reduceEqDiff, Nat.reduceAdd, Nat.reduceSub, Nat.reduceLeDiff, reduceCtorEq, aggV, Tag.cap, GVal.solid, Nat.reduceBEq, Nat.reduceMul, Nat.reduceLT, vcA, ↓vcB, vcC, fbFd, e5, hsG_len, all_hsG, take_hs, toNat0, List.drop_zero, vcD, v32]
                refine ⟨⟨[], by simp⟩, ?_⟩
                refine cI.then ?_ (by rfl)
                simp +contextual -implicitDefEqProofs (maxSteps := 2000000) (disch := omega) only [drawC, drawK, keepT, ↓lenV, binV, ↓unV, optV, ↓loadV, ↓storeV, ↓indexAddrV, ↓allocV, ↓sliceV, bound, cutTag, hiTag, GVal.cells, GVal.ofConst, ↓resV, resG, ↓reduceIte, Nat.reduceEqDiff, Nat.reduceAdd, Nat.reduceSub, Nat.reduceLeDiff, reduceCtorEq, aggV, Tag.cap, GVal.solid, Nat.reduceBEq, Nat.reduceMul, Nat.reduceLT, vcA, ↓vcB, vcC, fbFd, e5, hsG_len, all_hsG, take_hs, toNat0, List.drop_zero, vcD, v32]
                exact Into.at ⟨(k + 1, true), by show k + 1 ≤ i; omega, ⟨fun _ => hXk.snoc (by rw [hy]; exact hm'), fun _ => rfl⟩⟩ (by show i - (k + 1) < i - k; omega) ⟨[], by simp⟩ (by simp [WL, leG_self, leG_any, leG_int])
          · have d1 : ((k : Int) < (i : Int)) = False := eq_false (by omega)
            have hki2 : k = i := by omega
            rw [hki2, hXall] at hu
            simp +contextual -implicitDefEqProofs (maxSteps := 2000000) (disch := omega) only [drawC, drawK, keepT, ↓lenV, binV, ↓unV, optV, ↓loadV, ↓storeV, ↓indexAddrV, ↓allocV, ↓sliceV, bound, cutTag, hiTag, GVal.cells, GVal.ofConst, ↓resV, resG, ↓reduceIte, Nat.reduceEqDiff, Nat.reduceAdd, Nat.reduceSub, Nat.reduceLeDiff, reduceCtorEq, aggV, Tag.cap, GVal.solid, Nat.reduceBEq, Nat.reduceMul, Nat.reduceLT, vcA, ↓vcB, vcC, fbFd, e5, d1, vcD]
            exact Into.at ⟨(i + 1, u), by show i + 1 ≤ b.length; omega, hu⟩ (by show b.length - (i + 1) < b.length - i; omega) ⟨[], by simp⟩ (by simp [WL, leG_self, leG_any, leG_int])
      | true =>
        cases ht : (look m x).isSome with
        | false =>
          rw [ht] at cHx
          simp +contextual -implicitDefEqProofs (maxSteps := 2000000) (disch := omega) only [drawC, drawK, keepT, ↓lenV, binV, ↓unV, optV, ↓loadV, ↓storeV, ↓indexAddrV, ↓allocV, ↓sliceV, bound, cutTag, hiTag, GVal.cells, GVal.ofConst, ↓resV, resG, ↓reduceIte, Nat.reduceEqDiff, Nat.reduceAdd, Nat.reduceSub, Nat.reduceLeDiff, reduceCtorEq, aggV, Tag.cap, GVal.solid, Nat.reduceBEq, Nat.reduceMul, Nat.reduceLT, vcA, ↓vcB, vcC, fbFd, e5, hsG_len, all_hsG, take_hs, toNat0, List.drop_zero, d0, tn0, eX, vcD, v32]
          refine ⟨by omega, cHx.mono ?_⟩
          rintro g O' ⟨rfl, rfl⟩
          simp +contextual -implicitDefEqProofs (maxSteps := 2000000) (disch := omega) only [drawC, drawK, keepT, ↓lenV, binV, ↓unV, optV, ↓loadV, ↓storeV, ↓indexAddrV, ↓allocV, ↓sliceV, bound, cutTag, hiTag, GVal.cells, GVal.ofConst, ↓resV, resG, ↓reduceIte, Nat.reduceEqDiff, Nat.reduceAdd, Nat.reduceSub, Nat.reduceLeDiff, reduceCtorEq, aggV, Tag.cap, GVal.solid, Nat.reduceBEq, Nat.reduceMul, Nat.reduceLT, vcA, ↓vcB, vcC, fbFd, e5, hsG_len, all_hsG, take_hs, toNat0, List.drop_zero, vcD, v32]
          refine vcSLoop_by (ι := { p : Nat × Bool // p.1 ≤ i ∧ (p.2 = true ↔ RisesK m b i x p.1) }) (fun p => ⟨List.replicate 9 .any ++ [.ptr 0 st 0 0, .ptr 2 rt 0 0, .any, .any, .any, .slice (hsG b) .none, .bool p.1.2, .int .i64 (i : Nat), .int .i64 (p.1.1 : Nat)] ++ List.replicate 90 .any, [.row st 1 [[.map 1 s]], .map s (kvG encL m), .row rt 1 [[.slice (csG L) .none]], .row sd 1 [[.slice (hsG D) .none]]]⟩) (fun p => i - p.1.1) ?_ ?_
          · exact Into.first ⟨(0, false), Nat.zero_le _, ⟨fun q => (by cases q), fun q => by have := q.2.1; rw [ht] at this; exact this⟩⟩ ⟨[], by simp⟩ (by simp [WL, leG_self, leG_any])
          · rintro ⟨⟨k, u⟩, hk, hu⟩
            change k ≤ i at hk
            have hu : u = true ↔ RisesK m b i x k := hu
            by_cases hki : k < i
            · have d1 : ((k : Int) < (i : Int)) = True := eq_true (by omega)
              cases u with
              | false =>
                have hnX : ¬ RisesTo m b (i + 1) := fun q => by
                  have := hu.2 (hXall.2 q |>.mono (by omega))
                  cases this
                simp +contextual -implicitDefEqProofs (maxSteps := 2000000) (disch := omega) only [drawC, drawK, keepT, ↓lenV, binV, ↓unV, optV, ↓loadV, ↓storeV, ↓indexAddrV, ↓allocV, ↓sliceV, bound, cutTag, hiTag, GVal.cells, GVal.ofConst, ↓resV, resG, ↓reduceIte, Nat.reduceEqDiff, Nat.reduceAdd, Nat.reduceSub, Nat.reduceLeDiff, reduceCtorEq, aggV, Tag.cap, GVal.solid, Nat.reduceBEq, Nat.reduceMul, Nat.reduceLT, vcA, ↓vcB, vcC, fbFd, e5, d1, vcD]
                exact Into.at ⟨(i + 1, false), by show i + 1 ≤ b.length; omega, by simpa using hnX⟩ (by show b.length - (i + 1) < b.length - i; omega) ⟨[], by simp⟩ (by simp [WL, leG_self, leG_any, leG_int])
              | true =>
                have hXk := hu.1 rfl
                obtain ⟨y, hy⟩ : ∃ y, b.getD k h0 = y := ⟨_, rfl⟩
                have cA := cAnc y [.row sd 1 [[.slice (hsG D) .none]]]
                rw [hAn] at cA
                have cI := hIn (ancL m [y]) .none x (by have := lAn y; omega)
                have eD : List.drop k (hsG (List.take (k + 1) b)) = hsG [y] := by
                  rw [drop_hs, takeH (by omega), hy, List.drop_left' (by rw [List.length_take]; omega)]
                have tn : ((k : Int)).toNat = k := by omega
                have tn1 : ((k : Int) + 1).toNat = k + 1 := by omega
                by_cases hm' : x ∈ ancL m [y]
                · rw [decide_eq_true hm'] at cI
                  simp +contextual -implicitDefEqProofs (maxSteps := 2000000) (disch := omega) only [drawC, drawK, keepT, ↓lenV, binV, ↓unV, optV, ↓loadV, ↓storeV, ↓indexAddrV, ↓allocV, ↓sliceV, bound, cutTag, hiTag, GVal.cells, GVal.ofConst, ↓resV, resG, ↓reduceIte, Nat.reduceEqDiff, Nat.reduceAdd, Nat.reduceSub, Nat.reduceLeDiff, reduceCtorEq, aggV, Tag.cap, GVal.solid, Nat.reduceBEq, Nat.reduceMul, Nat.reduceLT, vcA, ↓vcB, vcC, fbFd, e5, hsG_len, all_hsG, take_hs, toNat0, List.drop_zero, d1, tn, tn1, eX, eD, vcD, v32]
                  refine ⟨by omega, by omega, by omega, by omega, by omega, cA.mono ?_⟩
                  rintro g O' ⟨rfl, rfl⟩
                  simp +contextual -implicitDefEqProofs (maxSteps := 2000000) (disch := omega) only [drawC, drawK, keepT, ↓lenV, binV, ↓unV, optV, ↓loadV, ↓storeV, ↓indexAddrV, ↓allocV, ↓sliceV, bound, cutTag, hiTag, GVal.cells, GVal.ofConst, ↓resV, resG, ↓reduceIte, Nat.reduceEqDiff, Nat.reduceAdd, Nat.reduceSub, Nat.reduceLeDiff, reduceCtorEq, aggV, Tag.cap, GVal.solid, Nat.reduceBEq, Nat.reduceMul, Nat.reduceLT, vcA, ↓vcB, vcC, fbFd, e5, hsG_len, all_hsG, take_hs, toNat0, List.drop_zero, vcD, v32]
                  refine ⟨⟨[], by simp⟩, ?_⟩
                  refine cI.then ?_ (by rfl)
                  simp +contextual -implicitDefEqProofs (maxSteps := 2000000) (disch := omega) only [drawC, drawK, keepT, ↓lenV, binV, ↓unV, optV, ↓loadV, ↓storeV, ↓indexAddrV, ↓allocV, ↓sliceV, bound, cutTag, hiTag, GVal.cells, GVal.ofConst, ↓resV, resG, ↓reduceIte, Nat.reduceEqDiff, Nat.reduceAdd, Nat.reduceSub, Nat.reduceLeDiff, reduceCtorEq, aggV, Tag.cap, GVal.solid, Nat.reduceBEq, Nat.reduceMul, Nat.reduceLT, vcA, ↓vcB, vcC, fbFd, e5, hsG_len, all_hsG, take_hs, toNat0, List.drop_zero, vcD, v32]
                  exact Into.at ⟨(k + 1, false), by show k + 1 ≤ i; omega, ⟨fun q => (by cases q), fun q => absurd (by rw [hy]; exact hm') (q.2.2.2 k (by omega))⟩⟩ (by show i - (k + 1) < i - k; omega) ⟨[], by simp⟩ (by simp [WL, leG_self, leG_any, leG_int])
                · rw [decide_eq_false hm'] at cI
                  simp +contextual -implicitDefEqProofs (maxSteps := 2000000) (disch := omega) only [drawC, drawK, keepT, ↓lenV, binV, ↓unV, optV, ↓loadV, ↓storeV, ↓indexAddrV, ↓allocV, ↓sliceV, bound, cutTag, hiTag, GVal.cells, GVal.ofConst, ↓resV, resG, ↓reduceIte, Nat.reduceEqDiff, Nat.reduceAdd, Nat.reduceSub, Nat.reduceLeDiff, reduceCtorEq, aggV, Tag.cap, GVal.solid, Nat.reduceBEq, Nat.reduceMul, Nat.reduceLT, vcA, ↓vcB, vcC, fbFd, e5, hsG_len, all_hsG, take_hs, toNat0, List.drop_zero, d1, tn, tn1, eX, eD, vcD, v32]
                  refine ⟨by omega, by omega, by omega, by omega, by omega, cA.mono ?_⟩
                  rintro g O' ⟨rfl, rfl⟩
                  simp +contextual -implicitDefEqProofs (maxSteps := 2000000) (disch := omega) only [drawC, drawK, keepT, ↓lenV, binV, ↓unV, optV, ↓loadV, ↓storeV, ↓indexAddrV, ↓allocV, ↓sliceV, bound, cutTag, hiTag, GVal.cells, GVal.ofConst, ↓resV, resG, ↓reduceIte, Nat.reduceEqDiff, Nat.reduceAdd, Nat.reduceSub, Nat.reduceLeDiff, reduceCtorEq, aggV, Tag.cap, GVal.solid, Nat.reduceBEq, Nat.reduceMul, Nat.reduceLT, vcA, ↓vcB, vcC, fbFd, e5, hsG_len, all_hsG, take_hs, toNat0, List.drop_zero, vcD, v32]
                  refine ⟨⟨[], by simp⟩, ?_⟩
                  refine cI.then ?_ (by rfl)
                  simp +contextual -implicitDefEqProofs (maxSteps := 2000000) (disch := omega) only [drawC, drawK, keepT, ↓lenV, binV, ↓unV, optV, ↓loadV, ↓storeV, ↓indexAddrV, ↓allocV, ↓sliceV, bound, cutTag, hiTag, GVal.cells, GVal.ofConst, ↓resV, resG, ↓reduceIte, Nat.reduceEqDiff, Nat.reduceAdd, Nat.reduceSub, Nat.reduceLeDiff, reduceCtorEq, aggV, Tag.cap, GVal.solid, Nat.reduceBEq, Nat.reduceMul, Nat.reduceLT, vcA, ↓vcB, vcC, fbFd, e5, hsG_len, all_hsG, take_hs, toNat0, List.drop_zero, vcD, v32]
                  exact Into.at ⟨(k + 1, true), by show k + 1 ≤ i; omega, ⟨fun _ => hXk.snoc (by rw [hy]; exact hm'), fun _ => rfl⟩⟩ (by show i - (k + 1) < i - k; omega) ⟨[], by simp⟩ (by simp [WL, leG_self, leG_any, leG_int])
            · have d1 : ((k : Int) < (i : Int)) = False := eq_false (by omega)
              have hki2 : k = i := by omega
              rw [hki2, hXall] at hu
              simp +contextual -implicitDefEqProofs (maxSteps := 2000000) (disch := omega) only [drawC, drawK, keepT, ↓lenV, binV, ↓unV, optV, ↓loadV, ↓storeV, ↓indexAddrV, ↓allocV, ↓sliceV, bound, cutTag, hiTag, GVal.cells, GVal.ofConst, ↓resV, resG, ↓reduceIte, Nat.reduceEqDiff, Nat.reduceAdd, Nat.reduceSub, Nat.reduceLeDiff, reduceCtorEq, aggV, Tag.cap, GVal.solid, Nat.reduceBEq, Nat.reduceMul, Nat.reduceLT, vcA, ↓vcB, vcC, fbFd, e5, d1, vcD]
              exact Into.at ⟨(i + 1, u), by show i + 1 ≤ b.length; omega, hu⟩ (by show b.length - (i + 1) < b.length - i; omega) ⟨[], by simp⟩ (by simp [WL, leG_self, leG_any, leG_int])
        | true =>
          rw [ht] at cHx
          by_cases hmx : x ∈ b.take i
          · rw [decide_eq_true hmx] at cIx
            simp +contextual -implicitDefEqProofs (maxSteps := 2000000) (disch := omega) only [drawC, drawK, keepT, ↓lenV, binV, ↓unV, optV, ↓loadV, ↓storeV, ↓indexAddrV, ↓allocV, ↓sliceV, bound, cutTag, hiTag, GVal.cells, GVal.ofConst, ↓resV, resG, ↓reduceIte, Nat.reduceEqDiff, Nat.reduceAdd, Nat.reduceSub, Nat.reduceLeDiff, reduceCtorEq, aggV, Tag.cap, GVal.solid, Nat.reduceBEq, Nat.reduceMul, Nat.reduceLT, vcA, ↓vcB, vcC, fbFd, e5, hsG_len, all_hsG, take_hs, toNat0, List.drop_zero, d0, tn0, eX, vcD, v32]
            refine ⟨by omega, cHx.mono ?_⟩
            rintro g O' ⟨rfl, rfl⟩
            simp +contextual -implicitDefEqProofs (maxSteps := 2000000) (disch := omega) only [drawC, drawK, keepT, ↓lenV, binV, ↓unV, optV, ↓loadV, ↓storeV, ↓indexAddrV, ↓allocV, ↓sliceV, bound, cutTag, hiTag, GVal.cells, GVal.ofConst, ↓resV, resG, ↓reduceIte, Nat.reduceEqDiff, Nat.reduceAdd, Nat.reduceSub, Nat.reduceLeDiff, reduceCtorEq, aggV, Tag.cap, GVal.solid, Nat.reduceBEq, Nat.reduceMul, Nat.reduceLT, vcA, ↓vcB, vcC, fbFd, e5, hsG_len, all_hsG, take_hs, toNat0, List.drop_zero, tn0, eX, vcD, v32]
            refine ⟨by omega, by omega, by omega, by omega, by omega, ?_⟩
            refine cIx.then ?_ (by rfl)
            simp +contextual -implicitDefEqProofs (maxSteps := 2000000) (disch := omega) only [drawC, drawK, keepT, ↓lenV, binV, ↓unV, optV, ↓loadV, ↓storeV, ↓indexAddrV, ↓allocV, ↓sliceV, bound, cutTag, hiTag, GVal.cells, GVal.ofConst, ↓resV, resG, ↓reduceIte, Nat.reduceEqDiff, Nat.reduceAdd, Nat.reduceSub, Nat.reduceLeDiff, reduceCtorEq, aggV, Tag.cap, GVal.solid, Nat.reduceBEq, Nat.reduceMul, Nat.reduceLT, vcA, ↓vcB, vcC, fbFd, e5, hsG_len, all_hsG, take_hs, toNat0, List.drop_zero, vcD, v32]
            refine vcSLoop_by (ι := { p : Nat × Bool // p.1 ≤ i ∧ (p.2 = true ↔ RisesK m b i x p.1) }) (fun p => ⟨List.replicate 9 .any ++ [.ptr 0 st 0 0, .ptr 2 rt 0 0, .any, .any, .any, .slice (hsG b) .none, .bool p.1.2, .int .i64 (i : Nat), .int .i64 (p.1.1 : Nat)] ++ List.replicate 90 .any, [.row st 1 [[.map 1 s]], .map s (kvG encL m), .row rt 1 [[.slice (csG L) .none]], .row sd 1 [[.slice (hsG D) .none]]]⟩) (fun p => i - p.1.1) ?_ ?_
            · exact Into.first ⟨(0, false), Nat.zero_le _, ⟨fun q => (by cases q), fun q => absurd hmx q.2.2.1⟩⟩ ⟨[], by simp⟩ (by simp [WL, leG_self, leG_any])
            · rintro ⟨⟨k, u⟩, hk, hu⟩
              change k ≤ i at hk
              have hu : u = true ↔ RisesK m b i x k := hu
              by_cases hki : k < i
              · have d1 : ((k : Int) < (i : Int)) = True := eq_true (by omega)
                cases u with
                | false =>
                  have hnX : ¬ RisesTo m b (i + 1) := fun q => by
                    have := hu.2 (hXall.2 q |>.mono (by omega))
                    cases this
                  simp +contextual -implicitDefEqProofs (maxSteps := 2000000) (disch := omega) only [drawC, drawK, keepT, ↓lenV, binV, ↓unV, optV, ↓loadV, ↓storeV, ↓indexAddrV, ↓allocV, ↓sliceV, bound, cutTag, hiTag, GVal.cells, GVal.ofConst, ↓resV, resG, ↓reduceIte, Nat.reduceEqDiff, Nat.reduceAdd, Nat.reduceSub, Nat.reduceLeDiff, reduceCtorEq, aggV, Tag.cap, GVal.solid, Nat.reduceBEq, Nat.reduceMul, Nat.reduceLT, vcA, ↓vcB, vcC, fbFd, e5, d1, vcD]
                  exact Into.at ⟨(i + 1, false), by show i + 1 ≤ b.length; omega, by simpa using hnX⟩ (by show b.length - (i + 1) < b.length - i; omega) ⟨[], by simp⟩ (by simp [WL, leG_self, leG_any, leG_int])
                | true =>
                  have hXk := hu.1 rfl
                  obtain ⟨y, hy⟩ : ∃ y, b.getD k h0 = y := ⟨_, rfl⟩
                  have cA := cAnc y [.row sd 1 [[.slice (hsG D) .none]]]
                  rw [hAn] at cA
                  have cI := hIn (ancL m [y]) .none x (by have := lAn y; omega)
                  have eD : List.drop k (hsG (List.take (k + 1) b)) = hsG [y] := by
                    rw [drop_hs, takeH (by omega), hy, List.drop_left' (by rw [List.length_take]; omega)]
                  have tn : ((k : Int)).toNat = k := by omega
                  have tn1 : ((k : Int) + 1).toNat = k + 1 := by omega
                  by_cases hm' : x ∈ ancL m [y]
                  · rw [decide_eq_true hm'] at cI
                    simp +contextual -implicitDefEqProofs (maxSteps := 2000000) (disch := omega) only [drawC, drawK, keepT, ↓lenV, binV, ↓unV, optV, ↓loadV, ↓storeV, ↓indexAddrV, ↓allocV, ↓sliceV, bound, cutTag, hiTag, GVal.cells, GVal.ofConst, ↓resV, resG, ↓reduceIte, Nat.reduceEqDiff, Nat.reduceAdd, Nat.reduceSub, Nat.reduceLeDiff, reduceCtorEq, aggV, Tag.cap, GVal.solid, Nat.reduceBEq, Nat.reduceMul, Nat.reduceLT, vcA, ↓vcB, vcC, fbFd, e5, hsG_len, all_hsG, take_hs, toNat0, List.drop_zero, d1, tn, tn1, eX, eD, vcD, v32]
                    refine ⟨by omega, by omega, by omega, by omega, by omega, cA.mono ?_⟩
                    rintro g O' ⟨rfl, rfl⟩
                    simp +contextual -implicitDefEqProofs (maxSteps := 2000000) (disch := omega) only [drawC, drawK, keepT, ↓lenV, binV, ↓unV, optV, ↓loadV, ↓storeV, ↓indexAddrV, ↓allocV, ↓sliceV, bound, cutTag, hiTag, GVal.cells, GVal.ofConst, ↓resV, resG, ↓reduceIte, Nat.reduceEqDiff, Nat.reduceAdd, Nat.reduceSub, Nat.reduceLeDiff, reduceCtorEq, aggV, Tag.cap, GVal.solid, Nat.reduceBEq, Nat.reduceMul, Nat.reduceLT, vcA, ↓vcB, vcC, fbFd, e5, hsG_len, all_hsG, take_hs, toNat0, List.drop_zero, vcD, v32]
                    refine ⟨⟨[], by simp⟩, ?_⟩
                    refine cI.then ?_ (by rfl)
                    simp +contextual -implicitDefEqProofs (maxSteps := 2000000) (disch := omega) only [drawC, drawK, keepT, ↓lenV, binV, ↓unV, optV, ↓loadV, ↓storeV, ↓indexAddrV, ↓allocV, ↓sliceV, bound, cutTag, hiTag, GVal.cells, GVal.ofConst, ↓resV, resG, ↓reduceIte, Nat.reduceEqDiff, Nat.reduceAdd, Nat.reduceSub, Nat.reduceLeDiff, reduceCtorEq, aggV, Tag.cap, GVal.solid, Nat.reduceBEq, Nat.reduceMul, Nat.reduceLT, vcA, ↓vcB, vcC, fbFd, e5, hsG_len, all_hsG, take_hs, toNat0, List.drop_zero, vcD, v32]
                    exact Into.at ⟨(k + 1, false), by show k + 1 ≤ i; omega, ⟨fun q => (by cases q), fun q => absurd (by rw [hy]; exact hm') (q.2.2.2 k (by omega))⟩⟩ (by show i - (k + 1) < i - k; omega) ⟨[], by simp⟩ (by simp [WL, leG_self, leG_any, leG_int])
                  · rw [decide_eq_false hm'] at cI
                    simp +contextual -implicitDefEqProofs (maxSteps := 2000000) (disch := omega) only [drawC, drawK, keepT, ↓lenV, binV, ↓unV, optV, ↓loadV, ↓storeV, ↓indexAddrV, ↓allocV, ↓sliceV, bound, cutTag, hiTag, GVal.cells, GVal.ofConst, ↓resV, resG, ↓reduceIte, Nat.reduceEqDiff, Nat.reduceAdd, Nat.reduceSub, Nat.reduceLeDiff, reduceCtorEq, aggV, Tag.cap, GVal.solid, Nat.reduceBEq, Nat.reduceMul, Nat.reduceLT, vcA, ↓vcB, vcC, fbFd, e5, hsG_len, all_hsG, take_hs, toNat0, List.drop_zero, d1, tn, tn1, eX, eD, vcD, v32]
                    refine ⟨by omega, by omega, by omega, by omega, by omega, cA.mono ?_⟩
                    rintro g O' ⟨rfl, rfl⟩
                    simp +contextual -implicitDefEqProofs (maxSteps := 2000000) (disch := omega) only [drawC, drawK, keepT, ↓lenV, binV, ↓unV, optV, ↓loadV, ↓storeV, ↓indexAddrV, ↓allocV, ↓sliceV, bound, cutTag, hiTag, GVal.cells, GVal.ofConst, ↓resV, resG, ↓reduceIte, Nat.reduceEqDiff, Nat.reduceAdd, Nat.reduceSub, Nat.reduceLeDiff, reduceCtorEq, aggV, Tag.cap, GVal.solid, Nat.reduceBEq, Nat.reduceMul, Nat.reduceLT, vcA, ↓vcB, vcC, fbFd, e5, hsG_len, all_hsG, take_hs, toNat0, List.drop_zero, vcD, v32]
                    refine ⟨⟨[], by simp⟩, ?_⟩
                    refine cI.then ?_ (by rfl)
                    simp +contextual -implicitDefEqProofs (maxSteps := 2000000) (disch := omega) only [drawC, drawK, keepT, ↓lenV, binV, ↓unV, optV, ↓loadV, ↓storeV, ↓indexAddrV, ↓allocV, ↓sliceV, bound, cutTag, hiTag, GVal.cells, GVal.ofConst, ↓resV, resG, ↓reduceIte, Nat.reduceEqDiff, Nat.reduceAdd, Nat.reduceSub, Nat.reduceLeDiff, reduceCtorEq, aggV, Tag.cap, GVal.solid, Nat.reduceBEq, Nat.reduceMul, Nat.reduceLT, vcA, ↓vcB, vcC, fbFd, e5, hsG_len, all_hsG, take_hs, toNat0, List.drop_zero, vcD, v32]
                    exact Into.at ⟨(k + 1, true), by show k + 1 ≤ i; omega, ⟨fun _ => hXk.snoc (by rw [hy]; exact hm'), fun _ => rfl⟩⟩ (by show i - (k + 1) < i - k; omega) ⟨[], by simp⟩ (by simp [WL, leG_self, leG_any, leG_int])
              · have d1 : ((k : Int) < (i : Int)) = False := eq_false (by omega)
                have hki2 : k = i := by omega
                rw [hki2, hXall] at hu
                simp +contextual -implicitDefEqProofs (maxSteps := 2000000) (disch := omega) only [drawC, drawK, keepT, ↓lenV, binV, ↓unV, optV, ↓loadV, ↓storeV, ↓indexAddrV, ↓allocV, ↓sliceV, bound, cutTag, hiTag, GVal.cells, GVal.ofConst, ↓resV, resG, ↓reduceIte, Nat.reduceEqDiff, Nat.reduceAdd, Nat.reduceSub, Nat.reduceLeDiff, reduceCtorEq, aggV, Tag.cap, GVal.solid, Nat.reduceBEq, Nat.reduceMul, Nat.reduceLT, vcA, ↓vcB, vcC, fbFd, e5, d1, vcD]
                exact Into.at ⟨(i + 1, u), by show i + 1 ≤ b.length; omega, hu⟩ (by show b.length - (i + 1) < b.length - i; omega) ⟨[], by simp⟩ (by simp [WL, leG_self, leG_any, leG_int])
          · rw [decide_eq_false hmx] at cIx
            simp +contextual -implicitDefEqProofs (maxSteps := 2000000) (disch := omega) only [drawC, drawK, keepT, ↓lenV, binV, ↓unV, optV, ↓loadV, ↓storeV, ↓indexAddrV, ↓allocV, ↓sliceV, bound, cutTag, hiTag, GVal.cells, GVal.ofConst, ↓resV, resG, ↓reduceIte, Nat.reduceEqDiff, Nat.reduceAdd, Nat.reduceSub, Nat.reduceLeDiff, reduceCtorEq, aggV, Tag.cap, GVal.solid, Nat.reduceBEq, Nat.reduceMul, Nat.reduceLT, vcA, ↓vcB, vcC, fbFd, e5, hsG_len, all_hsG, take_hs, toNat0, List.drop_zero, d0, tn0, eX, vcD, v32]
            refine ⟨by omega, cHx.mono ?_⟩
            rintro g O' ⟨rfl, rfl⟩
            simp +contextual -implicitDefEqProofs (maxSteps := 2000000) (disch := omega) only [drawC, drawK, keepT, ↓lenV, binV, ↓unV, optV, ↓loadV, ↓storeV, ↓indexAddrV, ↓allocV, ↓sliceV, bound, cutTag, hiTag, GVal.cells, GVal.ofConst, ↓resV, resG, ↓reduceIte, Nat.reduceEqDiff, Nat.reduceAdd, Nat.reduceSub, Nat.reduceLeDiff, reduceCtorEq, aggV, Tag.cap, GVal.solid, Nat.reduceBEq, Nat.reduceMul, Nat.reduceLT, vcA, ↓vcB, vcC, fbFd, e5, hsG_len, all_hsG, take_hs, toNat0, List.drop_zero, tn0, eX, vcD, v32]
            refine ⟨by omega, by omega, by omega, by omega, by omega, ?_⟩
            refine cIx.then ?_ (by rfl)
            simp +contextual -implicitDefEqProofs (maxSteps := 2000000) (disch := omega) only [drawC, drawK, keepT, ↓lenV, binV, ↓unV, optV, ↓loadV, ↓storeV, ↓indexAddrV, ↓allocV, ↓sliceV, bound, cutTag, hiTag, GVal.cells, GVal.ofConst, ↓resV, resG, ↓reduceIte, Nat.reduceEqDiff, Nat.reduceAdd, Nat.reduceSub, Nat.reduceLeDiff, reduceCtorEq, aggV, Tag.cap, GVal.solid, Nat.reduceBEq, Nat.reduceMul, Nat.reduceLT, vcA, ↓vcB, vcC, fbFd, e5, hsG_len, all_hsG, take_hs, toNat0, List.drop_zero, vcD, v32]
            refine vcSLoop_by (ι := { p : Nat × Bool // p.1 ≤ i ∧ (p.2 = true ↔ RisesK m b i x p.1) }) (fun p => ⟨List.replicate 9 .any ++ [.ptr 0 st 0 0, .ptr 2 rt 0 0, .any, .any, .any, .slice (hsG b) .none, .bool p.1.2, .int .i64 (i : Nat), .int .i64 (p.1.1 : Nat)] ++ List.replicate 90 .any, [.row st 1 [[.map 1 s]], .map s (kvG encL m), .row rt 1 [[.slice (csG L) .none]], .row sd 1 [[.slice (hsG D) .none]]]⟩) (fun p => i - p.1.1) ?_ ?_
            · exact Into.first ⟨(0, true), Nat.zero_le _, ⟨fun _ => ⟨hw.1 rfl, ht, hmx, fun k hk => absurd hk (Nat.not_lt_zero k)⟩, fun _ => rfl⟩⟩ ⟨[], by simp⟩ (by simp [WL, leG_self, leG_any])
            · rintro ⟨⟨k, u⟩, hk, hu⟩
              change k ≤ i at hk
              have hu : u = true ↔ RisesK m b i x k := hu
              by_cases hki : k < i
              · have d1 : ((k : Int) < (i : Int)) = True := eq_true (by omega)
                cases u with
                | false =>
                  have hnX : ¬ RisesTo m b (i + 1) := fun q => by
                    have := hu.2 (hXall.2 q |>.mono (by omega))
                    cases this
                  simp +contextual -implicitDefEqProofs (maxSteps := 2000000) (disch := omega) only [drawC, drawK, keepT, ↓lenV, binV, ↓unV, optV, ↓loadV, ↓storeV, ↓indexAddrV, ↓allocV, ↓sliceV, bound, cutTag, hiTag, GVal.cells, GVal.ofConst, ↓resV, resG, ↓reduceIte, Nat.reduceEqDiff, Nat.reduceAdd, Nat.reduceSub, Nat.reduceLeDiff, reduceCtorEq, aggV, Tag.cap, GVal.solid, Nat.reduceBEq, Nat.reduceMul, Nat.reduceLT, vcA, ↓vcB, vcC, fbFd, e5, d1, vcD]
                  exact Into.at ⟨(i + 1, false), by show i + 1 ≤ b.length; omega, by simpa using hnX⟩ (by show b.length - (i + 1) < b.length - i; omega) ⟨[], by simp⟩ (by simp [WL, leG_self, leG_any, leG_int])
                | true =>
                  have hXk := hu.1 rfl
                  obtain ⟨y, hy⟩ : ∃ y, b.getD k h0 = y := ⟨_, rfl⟩
                  have cA := cAnc y [.row sd 1 [[.slice (hsG D) .none]]]
                  rw [hAn] at cA
                  have cI := hIn (ancL m [y]) .none x (by have := lAn y; omega)
                  have eD : List.drop k (hsG (List.take (k + 1) b)) = hsG [y] := by
                    rw [drop_hs, takeH (by omega), hy, List.drop_left' (by rw [List.length_take]; omega)]
                  have tn : ((k : Int)).toNat = k := by omega
                  have tn1 : ((k : Int) + 1).toNat = k + 1 := by omega
                  by_cases hm' : x ∈ ancL m [y]
                  · rw [decide_eq_true hm'] at cI
                    simp +contextual -implicitDefEqProofs (maxSteps := 2000000) (disch := omega) only [drawC, drawK, keepT, ↓lenV, binV, ↓unV, optV, ↓loadV, ↓storeV, ↓indexAddrV, ↓allocV, ↓sliceV, bound, cutTag, hiTag, GVal.cells, GVal.ofConst, ↓resV, resG, ↓reduceIte, Nat.reduceEqDiff, Nat.reduceAdd, Nat.reduceSub, Nat.reduceLeDiff, reduceCtorEq, aggV, Tag.cap, GVal.solid, Nat.reduceBEq, Nat.reduceMul, Nat.reduceLT, vcA, ↓vcB, vcC, fbFd, e5, hsG_len, all_hsG, take_hs, toNat0, List.drop_zero, d1, tn, tn1, eX, eD, vcD, v32]
                    refine ⟨by omega, by omega, by omega, by omega, by omega, cA.mono ?_⟩
                    rintro g O' ⟨rfl, rfl⟩
                    simp +contextual -implicitDefEqProofs (maxSteps := 2000000) (disch := omega) only [drawC, drawK, keepT, ↓lenV, binV, ↓unV, optV, ↓loadV, ↓storeV, ↓indexAddrV, ↓allocV, ↓sliceV, bound, cutTag, hiTag, GVal.cells, GVal.ofConst, ↓resV, resG, ↓reduceIte, Nat.reduceEqDiff, Nat.reduceAdd, Nat.reduceSub, Nat.reduceLeDiff, reduceCtorEq, aggV, Tag.cap, GVal.solid, Nat.reduceBEq, Nat.reduceMul, Nat.reduceLT, vcA, ↓vcB, vcC, fbFd, e5, hsG_len, all_hsG, take_hs, toNat0, List.drop_zero, vcD, v32]
                    refine ⟨⟨[], by simp⟩, ?_⟩
                    refine cI.then ?_ (by rfl)
                    simp +contextual -implicitDefEqProofs (maxSteps := 2000000) (disch := omega) only [drawC, drawK, keepT, ↓lenV, binV, ↓unV, optV, ↓loadV, ↓storeV, ↓indexAddrV, ↓allocV, ↓sliceV, bound, cutTag, hiTag, GVal.cells, GVal.ofConst, ↓resV, resG, ↓reduceIte, Nat.reduceEqDiff, Nat.reduceAdd, Nat.reduceSub, Nat.reduceLeDiff, reduceCtorEq, aggV, Tag.cap, GVal.solid, Nat.reduceBEq, Nat.reduceMul, Nat.reduceLT, vcA, ↓vcB, vcC, fbFd, e5, hsG_len, all_hsG, take_hs, toNat0, List.drop_zero, vcD, v32]
                    exact Into.at ⟨(k + 1, false), by show k + 1 ≤ i; omega, ⟨fun q => (by cases q), fun q => absurd (by rw [hy]; exact hm') (q.2.2.2 k (by omega))⟩⟩ (by show i - (k + 1) < i - k; omega) ⟨[], by simp⟩ (by simp [WL, leG_self, leG_any, leG_int])
                  · rw [decide_eq_false hm'] at cI
                    simp +contextual -implicitDefEqProofs (maxSteps := 2000000) (disch := omega) only [drawC, drawK, keepT, ↓lenV, binV, ↓unV, optV, ↓loadV, ↓storeV, ↓indexAddrV, ↓allocV, ↓sliceV, bound, cutTag, hiTag, GVal.cells, GVal.ofConst, ↓resV, resG, ↓reduceIte, Nat.reduceEqDiff, Nat.reduceAdd, Nat.reduceSub, Nat.reduceLeDiff, reduceCtorEq, aggV, Tag.cap, GVal.solid, Nat.reduceBEq, Nat.reduceMul, Nat.reduceLT, vcA, ↓vcB, vcC, fbFd, e5, hsG_len, all_hsG, take_hs, toNat0, List.drop_zero, d1, tn, tn1, eX, eD, vcD, v32]
                    refine ⟨by omega, by omega, by omega, by omega, by omega, cA.mono ?_⟩
                    rintro g O' ⟨rfl, rfl⟩
                    simp +contextual -implicitDefEqProofs (maxSteps := 2000000) (disch := omega) only [drawC, drawK, keepT, ↓lenV, binV, ↓unV, optV, ↓loadV, ↓storeV, ↓indexAddrV, ↓allocV, ↓sliceV, bound, cutTag, hiTag, GVal.cells, GVal.ofConst, ↓resV, resG, ↓reduceIte, Nat.reduceEqDiff, Nat.reduceAdd, Nat.reduceSub, Nat.reduceLeDiff, reduceCtorEq, aggV, Tag.cap, GVal.solid, Nat.reduceBEq, Nat.reduceMul, Nat.reduceLT, vcA, ↓vcB, vcC, fbFd, e5, hsG_len, all_hsG, take_hs, toNat0, List.drop_zero, vcD, v32]
                    refine ⟨⟨[], by simp⟩, ?_⟩
                    refine cI.then ?_ (by rfl)
                    simp +contextual -implicitDefEqProofs (maxSteps := 2000000) (disch := omega) only [drawC, drawK, keepT, ↓lenV, binV, ↓unV, optV, ↓loadV, ↓storeV, ↓indexAddrV, ↓allocV, ↓sliceV, bound, cutTag, hiTag, GVal.cells, GVal.ofConst, ↓resV, resG, ↓reduceIte, Nat.reduceEqDiff, Nat.reduceAdd, Nat.reduceSub, Nat.reduceLeDiff, reduceCtorEq, aggV, Tag.cap, GVal.solid, Nat.reduceBEq, Nat.reduceMul, Nat.reduceLT, vcA, ↓vcB, vcC, fbFd, e5, hsG_len, all_hsG, take_hs, toNat0, List.drop_zero, vcD, v32]
                    exact Into.at ⟨(k + 1, true), by show k + 1 ≤ i; omega, ⟨fun _ => hXk.snoc (by rw [hy]; exact hm'), fun _ => rfl⟩⟩ (by show i - (k + 1) < i - k; omega) ⟨[], by simp⟩ (by simp [WL, leG_self, leG_any, leG_int])
              · have d1 : ((k : Int) < (i : Int)) = False := eq_false (by omega)
                have hki2 : k = i := by omega
                rw [hki2, hXall] at hu
                simp +contextual -implicitDefEqProofs (maxSteps := 2000000) (disch := omega) only [drawC, drawK, keepT, ↓lenV, binV, ↓unV, optV, ↓loadV, ↓storeV, ↓indexAddrV, ↓allocV, ↓sliceV, bound, cutTag, hiTag, GVal.cells, GVal.ofConst, ↓resV, resG, ↓reduceIte, Nat.reduceEqDiff, Nat.reduceAdd, Nat.reduceSub, Nat.reduceLeDiff, reduceCtorEq, aggV, Tag.cap, GVal.solid, Nat.reduceBEq, Nat.reduceMul, Nat.reduceLT, vcA, ↓vcB, vcC, fbFd, e5, d1, vcD]
                exact Into.at ⟨(i + 1, u), by show i + 1 ≤ b.length; omega, hu⟩ (by show b.length - (i + 1) < b.length - i; omega) ⟨[], by simp⟩ (by simp [WL, leG_self, leG_any, leG_int])
    · have d0 : ((i : Int) < (b.length : Int)) = False := eq_false (by omega)
      have hiB : i = b.length := by omega
      rw [hiB, hRis] at hw
      have hwr : risingB m b = w := by
        cases w with
        | true => exact risingB_yes (hw.1 rfl)
        | false => exact risingB_no fun q => by have := hw.2 q; cases this
      rw [hwr] at cR
      simp +contextual -implicitDefEqProofs (maxSteps := 2000000) (disch := omega) only [drawC, drawK, keepT, ↓lenV, binV, ↓unV, optV, ↓loadV, ↓storeV, ↓indexAddrV, ↓allocV, ↓sliceV, bound, cutTag, hiTag, GVal.cells, GVal.ofConst, ↓resV, resG, ↓reduceIte, Nat.reduceEqDiff, Nat.reduceAdd, Nat.reduceSub, Nat.reduceLeDiff, reduceCtorEq, aggV, Tag.cap, GVal.solid, Nat.reduceBEq, Nat.reduceMul, Nat.reduceLT, vcA, ↓vcB, vcC, fbFd, e5, d0, hsG_len, vcD]
      refine (cR _).mono ?_
      rintro g O' ⟨rfl, rfl⟩
      cases w with
      | true =>
        simp +contextual -implicitDefEqProofs (maxSteps := 2000000) (disch := omega) only [drawC, drawK, keepT, ↓lenV, binV, ↓unV, optV, ↓loadV, ↓storeV, ↓indexAddrV, ↓allocV, ↓sliceV, bound, cutTag, hiTag, GVal.cells, GVal.ofConst, ↓resV, resG, ↓reduceIte, Nat.reduceEqDiff, Nat.reduceAdd, Nat.reduceSub, Nat.reduceLeDiff, reduceCtorEq, aggV, Tag.cap, GVal.solid, Nat.reduceBEq, Nat.reduceMul, Nat.reduceLT, vcA, ↓vcB, vcC, fbFd, e5, vcD]
        exact ⟨1, .bool true, rfl, by rw [leA_bool]⟩
      | false =>
        simp +contextual -implicitDefEqProofs (maxSteps := 2000000) (disch := omega) only [drawC, drawK, keepT, ↓lenV, binV, ↓unV, optV, ↓loadV, ↓storeV, ↓indexAddrV, ↓allocV, ↓sliceV, bound, cutTag, hiTag, GVal.cells, GVal.ofConst, ↓resV, resG, ↓reduceIte, Nat.reduceEqDiff, Nat.reduceAdd, Nat.reduceSub, Nat.reduceLeDiff, reduceCtorEq, aggV, Tag.cap, GVal.solid, Nat.reduceBEq, Nat.reduceMul, Nat.reduceLT, vcA, ↓vcB, vcC, fbFd, e5, vcD]
        exact ⟨1, .bool true, rfl, by rw [leA_bool]⟩
end Gv.Try
/- Sets of numbers as lists of spans: the plain theory. -/
set_option linter.unusedVariables false
namespace Gv.Sp
open Gv
abbrev S := Int × Int
def has (l : List S) (n : Int) : Prop := ∃ s ∈ l, 0 ≤ n ∧ s.1 ≤ n ∧ n ≤ s.2
theorem has_cons (s : S) (l : List S) (n : Int) : has (s :: l) n ↔ (0 ≤ n ∧ s.1 ≤ n ∧ n ≤ s.2) ∨ has l n := by simp [has]
def Rt : Int → List S → Prop
  | _, [] => True
  | b, s :: r => b ≤ s.1 ∧ s.1 ≤ s.2 ∧ Rt (s.2 + 2) r
theorem Rt.weak {b b' : Int} : ∀ {l : List S}, Rt b l → b' ≤ b → Rt b' l
  | [], _, _ => trivial
  | s :: r, ⟨h1, h2, h3⟩, h => ⟨by omega, h2, h3⟩
theorem Rt.ge {n : Int} : ∀ {l : List S} {b : Int}, Rt b l → has l n → b ≤ n
  | [], b, _, h => by simp [has] at h
  | s :: r, b, ⟨h1, h2, h3⟩, h => by
    rcases (has_cons s r n).1 h with h | h
    · omega
    · have := h3.ge h; omega
theorem Rt.mem {s : S} : ∀ {l : List S} {b : Int}, Rt b l → s ∈ l → b ≤ s.1 ∧ s.1 ≤ s.2
  | [], b, _, h => by simp at h
  | x :: r, b, ⟨h1, h2, h3⟩, h => by
    rcases List.mem_cons.1 h with rfl | h
    · exact ⟨h1, h2⟩
    · have := h3.mem h; omega
theorem Rt.lo {s : S} {l : List S} {b : Int} (h : Rt b l) (hb : 0 ≤ b) (hs : s ∈ l) : has l s.1 := ⟨s, hs, by have := h.mem hs; omega⟩
theorem Rt.hi {s : S} {l : List S} {b : Int} (h : Rt b l) (hb : 0 ≤ b) (hs : s ∈ l) : has l s.2 := ⟨s, hs, by have := h.mem hs; omega⟩
theorem uniq : ∀ {l l' : List S} {b b' : Int}, Rt b l → Rt b' l' → 0 ≤ b → 0 ≤ b' → (∀ n, has l n ↔ has l' n) → l = l'
  | [], [], _, _, _, _, _, _, _ => rfl
  | [], y :: r, _, b', _, h', _, h0', h => absurd ((h y.1).2 (h'.lo h0' (by simp))) (by simp [has])
  | x :: r, [], b, _, h', _, h0', _, h => absurd ((h x.1).1 (h'.lo h0' (by simp))) (by simp [has])
  | (x1, x2) :: r, (y1, y2) :: q, b, b', hx, hy, hb, hb', h => by
    have e1 : has ((y1, y2) :: q) x1 := (h _).1 (hx.lo hb (s := (x1, x2)) (by simp))
    have e2 : has ((x1, x2) :: r) y1 := (h _).2 (hy.lo hb' (s := (y1, y2)) (by simp))
    obtain ⟨p1, p2, p3⟩ := hx
    obtain ⟨q1, q2, q3⟩ := hy
    simp only at p1 p2 p3 q1 q2 q3
    have g1 : y1 ≤ x1 := by
      rcases (has_cons _ _ _).1 e1 with e | e
      · exact e.2.1
      · have := q3.ge e; omega
    have g2 : x1 ≤ y1 := by
      rcases (has_cons _ _ _).1 e2 with e | e
      · exact e.2.1
      · have := p3.ge e; omega
    have g : x1 = y1 := by omega
    have k1 : ¬ x2 < y2 := fun hlt => by
      have e := (h (x2 + 1)).2 ((has_cons _ _ _).2 (.inl ⟨by omega, by show y1 ≤ _; omega, by show _ ≤ y2; omega⟩))
      rcases (has_cons _ _ _).1 e with e | e
      · have := e.2.2; simp only at this; omega
      · have := p3.ge e; omega
    have k2 : ¬ y2 < x2 := fun hlt => by
      have e := (h (y2 + 1)).1 ((has_cons _ _ _).2 (.inl ⟨by omega, by show x1 ≤ _; omega, by show _ ≤ x2; omega⟩))
      rcases (has_cons _ _ _).1 e with e | e
      · have := e.2.2; simp only at this; omega
      · have := q3.ge e; omega
    have k : x2 = y2 := by omega
    subst g; subst k
    have hr : ∀ n, has r n ↔ has q n := fun n => by
      constructor
      · intro hn
        rcases (has_cons _ _ _).1 ((h n).1 ((has_cons _ _ _).2 (.inr hn))) with e | e
        · have := p3.ge hn; have := e.2.2; simp only at this; omega
        · exact e
      · intro hn
        rcases (has_cons _ _ _).1 ((h n).2 ((has_cons _ _ _).2 (.inr hn))) with e | e
        · have := q3.ge hn; have := e.2.2; simp only at this; omega
        · exact e
    rw [uniq p3 q3 (by omega) (by omega) hr]

def ins : List S → S → List S
  | [], s => [s]
  | x :: r, s => if x.2 + 1 < s.1 then x :: ins r s else if s.2 + 1 < x.1 then s :: x :: r else ins r (min s.1 x.1, max s.2 x.2)
def put (acc : List S) (s : S) : List S := if max s.1 0 ≤ s.2 then ins acc (max s.1 0, s.2) else acc
def Ok (l : List S) : Prop := ∀ s ∈ l, (-9223372036854775808 ≤ s.1 ∧ s.1 ≤ 9223372036854775807) ∧ (-9223372036854775808 ≤ s.2 ∧ s.2 ≤ 9223372036854775807)
theorem Ok.has {l : List S} (h : Ok l) {n : Int} (hn : has l n) : n ≤ 9223372036854775807 := by obtain ⟨s, hs, h1, h2, h3⟩ := hn; have := (h s hs).2.2; omega
theorem Ok.app {a b : List S} (ha : Ok a) (hb : Ok b) : Ok (a ++ b) := fun s hs => (List.mem_append.1 hs).elim (ha s) (hb s)
theorem Ok.nil : Ok [] := fun s hs => by simp at hs
theorem Ok.at {l : List S} (h : Ok l) (i : Nat) : (-9223372036854775808 ≤ (l.getD i (0, 0)).1 ∧ (l.getD i (0, 0)).1 ≤ 9223372036854775807) ∧ (-9223372036854775808 ≤ (l.getD i (0, 0)).2 ∧ (l.getD i (0, 0)).2 ≤ 9223372036854775807) := by
  by_cases hi : i < l.length
  · rw [List.getD_eq_getElem?_getD, List.getElem?_eq_getElem hi]; exact h _ (List.getElem_mem hi)
  · rw [List.getD_eq_getElem?_getD, List.getElem?_eq_none (by omega)]; simp
theorem Rt.at {l : List S} {b : Int} (h : Rt b l) (i : Nat) (hi : i < l.length) : b ≤ (l.getD i (0, 0)).1 ∧ (l.getD i (0, 0)).1 ≤ (l.getD i (0, 0)).2 := by
  rw [List.getD_eq_getElem?_getD, List.getElem?_eq_getElem hi]; exact h.mem (List.getElem_mem hi)

def both (a b : List S) : List S :=
  match a, b with
  | [], _ => []
  | _ :: _, [] => []
  | x :: a, y :: b => (if max x.1 y.1 ≤ min x.2 y.2 then [(max x.1 y.1, min x.2 y.2)] else []) ++ if x.2 < y.2 then both a (y :: b) else both (x :: a) b
termination_by a.length + b.length
def restF (low : Int) : List S → List S
  | [] => [(low, 9223372036854775807)]
  | s :: r => (if low < s.1 then [(low, s.1 - 1)] else []) ++ if s.2 = 9223372036854775807 then [] else restF (s.2 + 1) r
def rest (l : List S) : List S := restF 0 l
end Gv.Sp
/- Spans as ghost values. -/
set_option linter.unusedVariables false
namespace Gv
end Gv
/- What some shapes read as. -/
set_option linter.unusedVariables false
namespace Gv
open Go
theorem den_slice {α : Type} {e : Sh} (enc : α → List GVal) (ok : α → Prop) (he : ∀ {x}, Den e x → ∃ a, x = enc a ∧ ok a) {gs : List GVal} (h : Den (.slice e) gs) : ∃ l : List α, gs = [.slice (l.map enc) .none] ∧ l.length ≤ maxLen ∧ ∀ a ∈ l, ok a := by
  obtain ⟨xs, rfl, hl, hx⟩ := h
  have : ∀ xs : List (List GVal), (∀ x ∈ xs, Den e x) → ∃ l : List α, xs = l.map enc ∧ ∀ a ∈ l, ok a := by
    intro xs
    induction xs with
    | nil => exact fun _ => ⟨[], rfl, by simp⟩
    | cons a r ih =>
      intro h
      obtain ⟨l, rfl, hl⟩ := ih fun x hx => h x (by simp [hx])
      obtain ⟨n, rfl, hn⟩ := he (h a (by simp))
      exact ⟨n :: l, rfl, by simpa using ⟨hn, hl⟩⟩
  obtain ⟨l, rfl, h2⟩ := this xs hx
  exact ⟨l, rfl, by simpa using hl, h2⟩
end Gv
/- OrderRises: from the readings. -/
set_option linter.unusedVariables false
namespace Gv.Try
open Go Gv Go.Proofs
abbrev rawS : Sh := .agg [.int .i64, .int .i64, .slice (.int .i64)]
abbrev rrS : Sh := .agg [.slice rawS, .slice (.int .i64), .int .i64, .int .i64]
theorem den_ints {gs : List GVal} (h : Den (.slice (.int .i64)) gs) : ∃ l : List Int, gs = [.slice (ints l) .none] := by
  obtain ⟨l, rfl, _⟩ := den_slice (fun n : Int => [.int .i64 n]) (fun n => (Lit.int .i64 n).wf = true) (fun {x} (h : Den (.int .i64) x) => h) h
  exact ⟨l, rfl⟩
theorem den_raw {gs : List GVal} (h : Den rawS gs) : ∃ r : RC, gs = rawC r ∧ True := by
  obtain ⟨ps, rfl, p, q, rfl, ⟨a, rfl, _⟩, p2, q2, rfl, ⟨b, rfl, _⟩, p3, q3, rfl, h3, rfl⟩ := h
  obtain ⟨l, rfl⟩ := den_ints h3
  exact ⟨(a, b, l), rfl, trivial⟩
theorem den_rr {gs : List GVal} (h : Den rrS gs) : ∃ r : RR, gs = rrG r ∧ True := by
  obtain ⟨ps, rfl, p, q, rfl, h1, p2, q2, rfl, h2, p3, q3, rfl, ⟨c, rfl, _⟩, p4, q4, rfl, ⟨d, rfl, _⟩, rfl⟩ := h
  obtain ⟨l, rfl, _, _⟩ := den_slice rawC (fun _ => True) (fun {x} h => den_raw h) h1
  obtain ⟨hs, rfl⟩ := den_ints h2
  exact ⟨⟨l, hs, c, d⟩, rfl, trivial⟩
theorem den_rrs {gs : List GVal} (h : Den (.slice rrS) gs) : ∃ l : List RR, gs = [.slice (rrsG l) .none] := by
  obtain ⟨l, rfl, _, _⟩ := den_slice rrG (fun _ => True) (fun {x} h => den_rr h) h
  exact ⟨l, rfl⟩
end Gv.Try
/- OrderWalks: from the readings. -/
set_option linter.unusedVariables false
namespace Gv.Try
open Go Gv Go.Proofs
theorem wWalks {g0 g1 g2 g3 : List GVal} (h0 : Den (.slice rrS) g0) (h1 : Den (.slice (.int .i64)) g1) (h2 : Den (.slice (.int .i64)) g2) (h3 : Den (.slice (.int .i64)) g3) : GPure Try.prog 5 ([Sh.val (.slice rrS) g0, Sh.val (.slice (.int .i64)) g1, Sh.val (.slice (.int .i64)) g2, Sh.val (.slice (.int .i64)) g3]) (.bool true) := by
  obtain ⟨l, rfl⟩ := den_rrs h0
  obtain ⟨hs, rfl⟩ := den_ints h1
  obtain ⟨ds, rfl⟩ := den_ints h2
  obtain ⟨ls, rfl⟩ := den_ints h3
  exact specWalks l hs ds ls .none .none .none
end Gv.Try
