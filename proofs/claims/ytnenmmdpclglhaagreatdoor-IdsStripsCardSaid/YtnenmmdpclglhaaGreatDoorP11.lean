/- Contracts: graph's sorted, there's closure, IndexFunc. -/
import Derived.Test.YtnenmmdpclglhaaGreatDoorP10
import Derived.Test.YtnenmmdpclglhaaGreatDoorP9
set_option linter.unusedVariables false
set_option linter.unusedSimpArgs false
set_option maxRecDepth 20000
set_option maxHeartbeats 4000000
namespace Gv.Tryz
open Go Gv Go.Proofs
open Nat (reduceEqDiff reduceAdd reduceSub reduceLeDiff reduceMul reduceLT)
theorem sortR_perm {a b : List Hs} (h : a.Perm b) : sortR a = sortR b := ss_eq (sortR_ss a) (sortR_ss b) fun z => by rw [sortR_mem, sortR_mem]; exact h.mem_iff
theorem gSorted {α : Type} (enc : α → GVal) (m : List (Hs × α)) (hm : m.length ≤ 1000000000) (st : Nat) : GCalls Tryz.prog 45 [.map 0 st] [.map st (kvG enc m)] (fun g O' => g = .slice (hsG (sortR (m.map (·.1)))) .none ∧ O' = [.map st (kvG enc m)]) := by
  refine GCalls.dropTo ?_
  refine h45.calls mixS (by simp) ?_
  simp only [gstart, s45, List.cons_append, List.nil_append, List.length_cons, List.length_nil, reduceAdd, reduceSub, List.replicate_succ, List.replicate_zero]
  simp +contextual -implicitDefEqProofs (maxSteps := 2000000) (disch := omega) only [optV, ↓sliceV, bound, cutTag, hiTag, GVal.cells, GVal.ofConst, ↓resV, resG, ↓reduceIte, reduceEqDiff, reduceAdd, reduceSub, reduceLeDiff, reduceCtorEq, Tag.cap, GVal.solid, Nat.reduceBEq, reduceMul, reduceLT, vcA, ↓vcB, vcC, fbFy, e45, vcD]
  refine (gKeys enc m).mono ?_
  rintro g O' ⟨stc, rfl, rfl⟩
  simp +contextual -implicitDefEqProofs (maxSteps := 2000000) (disch := omega) only [optV, ↓sliceV, bound, cutTag, hiTag, GVal.cells, GVal.ofConst, ↓resV, resG, ↓reduceIte, reduceEqDiff, reduceAdd, reduceSub, reduceLeDiff, reduceCtorEq, Tag.cap, GVal.solid, Nat.reduceBEq, reduceMul, reduceLT, vcA, ↓vcB, vcC, fbFy, e45, vcD]
  refine (gCollect enc m hm (O := [.map st (kvG enc m), .row stc 1 [[.map 0 st]]]) (o := 0) (oc := 1) rfl rfl).mono ?_
  rintro g O' ⟨l, hl, rfl, rfl⟩
  have hll : l.length = m.length := by rw [hl.length_eq, List.length_map]
  have cS := hSort l .none (by omega) (by simp)
  rw [sortR_perm hl] at cS
  simp +contextual -implicitDefEqProofs (maxSteps := 2000000) (disch := omega) only [optV, ↓sliceV, bound, cutTag, hiTag, GVal.cells, GVal.ofConst, ↓resV, resG, ↓reduceIte, reduceEqDiff, reduceAdd, reduceSub, reduceLeDiff, reduceCtorEq, Tag.cap, GVal.solid, Nat.reduceBEq, reduceMul, reduceLT, vcA, ↓vcB, vcC, fbFy, e45, vcD]
  refine cS.then ?_ (by rfl)
  simp +contextual -implicitDefEqProofs (maxSteps := 2000000) (disch := omega) only [optV, ↓sliceV, bound, cutTag, hiTag, GVal.cells, GVal.ofConst, ↓resV, resG, ↓reduceIte, reduceEqDiff, reduceAdd, reduceSub, reduceLeDiff, reduceCtorEq, Tag.cap, GVal.solid, Nat.reduceBEq, reduceMul, reduceLT, vcA, ↓vcB, vcC, fbFy, e45, vcD]
  exact ⟨_, [.map st (kvG enc m)], [.row stc 1 [[.map 0 st]]], rfl, leA_refl _, rfl, rfl⟩
theorem gThere1 (m : GM) (h : Hs) (st s : Nat) : GCalls Tryz.prog 81 [.agg (bytesG h.1), .ref [.ptr 0 st 0 0]] (gObj st s m) (fun g O' => g = .bool (!(look m h).isSome) ∧ O' = gObj st s m) := by
  have cH := gHas m h st s
  refine h81.calls mixS (by simp) ?_
  simp only [gstart, s81, List.cons_append, List.nil_append, List.length_cons, List.length_nil, reduceAdd, reduceSub, List.replicate_succ, List.replicate_zero]
  simp +contextual -implicitDefEqProofs (maxSteps := 2000000) (disch := omega) only [↓unV, ↓loadV, ↓boxV, GVal.cells, GVal.ofConst, ↓resV, resG, ↓reduceIte, reduceEqDiff, reduceAdd, reduceSub, reduceLeDiff, reduceCtorEq, Tag.cap, GVal.solid, Nat.reduceBEq, reduceMul, reduceLT, vcA, ↓vcB, vcC, fbFy, e81, vcD, v32]
  refine cH.mono ?_
  rintro g O' ⟨rfl, rfl⟩
  simp +contextual -implicitDefEqProofs (maxSteps := 2000000) (disch := omega) only [↓unV, ↓loadV, ↓boxV, GVal.cells, GVal.ofConst, ↓resV, resG, ↓reduceIte, reduceEqDiff, reduceAdd, reduceSub, reduceLeDiff, reduceCtorEq, Tag.cap, GVal.solid, Nat.reduceBEq, reduceMul, reduceLT, vcA, ↓vcB, vcC, fbFy, e81, vcD]
theorem gIndexF {F : FuncId} {caps : List GVal} {a b : GObj} (p : Hs → Bool) (hN : ∀ h : Hs, GCalls Tryz.prog F (.agg (bytesG h.1) :: caps) [a, b] (fun g O' => g = .bool (p h) ∧ O' = [a, b])) (ha : a.isClock = false)
    (l : List Hs) (v : Nat) (hl : l.length ≤ 1000000) :
    GCalls Tryz.prog 95 [.own 2 v 0 l.length, .func (.func F) [] caps] [a, b, .row v 32 (hsG l)] (fun g O' => g = .int .i64 (match l.findIdx? p with | some i => (i : Int) | none => -1) ∧ O' = [a, b, .row v 32 (hsG l)]) := by
  have hcl : ∀ Y, clockOf (a :: Y) = none := fun Y => by cases a <;> first | rfl | cases ha
  have hst : ∀ (r : List GObj) (K : Nat → Prop), stamp (a :: r) K = ∀ st, K st := fun r K => by unfold stamp; rw [hcl]
  have htk : ∀ r : List GObj, tickO (a :: r) = a :: r := fun r => tickO_none (hcl r)
  refine h95.calls mixS (by simp) ?_
  simp only [gstart, s95, List.cons_append, List.nil_append, List.length_cons, List.length_nil, reduceAdd, reduceSub, List.replicate_succ, List.replicate_zero]
  simp +contextual -implicitDefEqProofs (maxSteps := 2000000) (disch := omega) only [↓lenV, binV, ↓loadV, ↓indexAddrV, GVal.cells, GVal.ofConst, ↓resV, resG, ↓reduceIte, reduceEqDiff, reduceAdd, reduceSub, reduceLeDiff, reduceCtorEq, Tag.cap, GVal.solid, Nat.reduceBEq, reduceMul, reduceLT, vcA, ↓vcB, vcC, fbFy, e95, hst, htk, hsG_len, vcD]
  refine vcSLoop_by (ι := { k : Nat // k ≤ l.length ∧ ∀ x ∈ l.take k, p x = false }) (fun k => ⟨[.own 2 v 0 l.length, .func (.func F) [] caps, .any, .any, .int .i64 0, .any, .own 2 v 0 l.length, .int .i64 l.length, .int .i64 (k.1 : Nat)] ++ List.replicate 10 .any, [a, b, .row v 32 (hsG l)]⟩) (fun k => l.length - k.1) ?_ ?_
  · exact Into.first ⟨0, by omega, by simp⟩ ⟨[], by simp⟩ (by simp [WL, leG_self, leG_any])
  · rintro ⟨k, hk, hp⟩
    change k ≤ l.length at hk
    have hp : ∀ x ∈ l.take k, p x = false := hp
    by_cases h : k < l.length
    · have d0 : ((k : Int) < (l.length : Int)) = True := eq_true (by omega)
      have eS := hsG_at l k h
      have eg : l.getD k h0 = l[k] := by simp [List.getD, h]
      rw [eg] at eS
      have ht : l.take (k + 1) = l.take k ++ [l[k]] := List.take_succ_eq_append_getElem h
      generalize l[k] = x at eS ht
      have cN := hN x
      by_cases hx : p x = true
      · rw [hx] at cN
        have cN := cN.keep2 ha
        have hf : l.findIdx? p = some k := by
          have e : l = l.take k ++ x :: l.drop (k + 1) := by
            have := List.take_append_drop (k + 1) l
            rw [ht, List.append_assoc] at this
            exact this.symm
          rw [e, List.findIdx?_append, List.findIdx?_eq_none_iff.2 hp, List.findIdx?_cons, hx]
          simp
          omega
        rw [hf]
        simp +contextual -implicitDefEqProofs (maxSteps := 2000000) (disch := omega) only [↓lenV, binV, ↓loadV, ↓indexAddrV, GVal.cells, GVal.ofConst, ↓resV, resG, ↓reduceIte, reduceEqDiff, reduceAdd, reduceSub, reduceLeDiff, reduceCtorEq, Tag.cap, GVal.solid, Nat.reduceBEq, reduceMul, reduceLT, vcA, ↓vcB, vcC, fbFy, e95, hst, htk, hsG_len, toNat0, Nat.sub_zero, d0, eS, true_imp_iff, vcD, v32]
        refine ⟨by omega, by omega, by omega, (cN _).mono ?_⟩
        rintro g O' ⟨rfl, rfl⟩
        simp +contextual -implicitDefEqProofs (maxSteps := 2000000) (disch := omega) only [↓lenV, binV, ↓loadV, ↓indexAddrV, GVal.cells, GVal.ofConst, ↓resV, resG, ↓reduceIte, reduceEqDiff, reduceAdd, reduceSub, reduceLeDiff, reduceCtorEq, Tag.cap, GVal.solid, Nat.reduceBEq, reduceMul, reduceLT, vcA, ↓vcB, vcC, fbFy, e95, hst, htk, vcD]
      · have hx : p x = false := by simpa using hx
        rw [hx] at cN
        have cN := cN.keep2 ha
        simp +contextual -implicitDefEqProofs (maxSteps := 2000000) (disch := omega) only [↓lenV, binV, ↓loadV, ↓indexAddrV, GVal.cells, GVal.ofConst, ↓resV, resG, ↓reduceIte, reduceEqDiff, reduceAdd, reduceSub, reduceLeDiff, reduceCtorEq, Tag.cap, GVal.solid, Nat.reduceBEq, reduceMul, reduceLT, vcA, ↓vcB, vcC, fbFy, e95, hst, htk, hsG_len, toNat0, Nat.sub_zero, d0, eS, true_imp_iff, vcD, v32]
        refine ⟨by omega, by omega, by omega, (cN _).mono ?_⟩
        rintro g O' ⟨rfl, rfl⟩
        simp +contextual -implicitDefEqProofs (maxSteps := 2000000) (disch := omega) only [↓lenV, binV, ↓loadV, ↓indexAddrV, GVal.cells, GVal.ofConst, ↓resV, resG, ↓reduceIte, reduceEqDiff, reduceAdd, reduceSub, reduceLeDiff, reduceCtorEq, Tag.cap, GVal.solid, Nat.reduceBEq, reduceMul, reduceLT, vcA, ↓vcB, vcC, fbFy, e95, hst, htk, vcD]
        exact Into.at ⟨k + 1, by omega, by rw [ht]; intro y hy; rcases List.mem_append.1 hy with q | q; exact hp y q; rw [List.mem_singleton.1 q]; exact hx⟩ (by show l.length - (k + 1) < l.length - k; omega) ⟨[], by simp⟩ (by simp [WL, leG_self, leG_any, leG_int])
    · have d0 : ((k : Int) < (l.length : Int)) = False := eq_false (by omega)
      have hf : l.findIdx? p = none := by
        rw [List.findIdx?_eq_none_iff]
        rw [List.take_of_length_le (by omega)] at hp
        exact hp
      rw [hf]
      simp +contextual -implicitDefEqProofs (maxSteps := 2000000) (disch := omega) only [↓lenV, binV, ↓loadV, ↓indexAddrV, GVal.cells, GVal.ofConst, ↓resV, resG, ↓reduceIte, reduceEqDiff, reduceAdd, reduceSub, reduceLeDiff, reduceCtorEq, Tag.cap, GVal.solid, Nat.reduceBEq, reduceMul, reduceLT, vcA, ↓vcB, vcC, fbFy, e95, hst, htk, hsG_len, d0, vcD]
theorem drop32y (h : Hs) : List.drop 32 (bytesG h.1) = [] := List.drop_of_length_le (by rw [len32]; omega)
theorem gDeleteF {F : FuncId} {caps : List GVal} {a b : GObj} (p : Hs → Bool) (hN : ∀ h : Hs, GCalls Tryz.prog F (.agg (bytesG h.1) :: caps) [a, b] (fun g O' => g = .bool (p h) ∧ O' = [a, b])) (ha : a.isClock = false)
    (l : List Hs) (v : Nat) (hl : l.length ≤ 1000000) :
    GCalls Tryz.prog 76 [.own 2 v 0 l.length, .func (.func F) [] caps] [a, b, .row v 32 (hsG l)] (fun g O' => g = .own 2 v 0 (l.filter fun h => !p h).length ∧ O' = [a, b, .row v 32 (hsG (l.filter fun h => !p h))]) := by
  have hcl : ∀ Y, clockOf (a :: Y) = none := fun Y => by cases a <;> first | rfl | cases ha
  have hst : ∀ (r : List GObj) (K : Nat → Prop), stamp (a :: r) K = ∀ st, K st := fun r K => by unfold stamp; rw [hcl]
  have htk : ∀ r : List GObj, tickO (a :: r) = a :: r := fun r => tickO_none (hcl r)
  refine GCalls.dropTo ?_
  have cI := gIndexF p hN ha l v hl
  cases hf : l.findIdx? p with
  | none =>
    rw [hf] at cI
    have hall : l.filter (fun h => !p h) = l := List.filter_eq_self.2 fun x hx => by rw [List.findIdx?_eq_none_iff.1 hf x hx]; rfl
    rw [hall]
    refine h76.calls mixS (by simp) ?_
    simp only [gstart, s76, List.cons_append, List.nil_append, List.length_cons, List.length_nil, reduceAdd, reduceSub, List.replicate_succ, List.replicate_zero]
    simp +contextual -implicitDefEqProofs (maxSteps := 2000000) (disch := omega) only [↓op_clear, ↓lenV, binV, ↓unV, optV, ↓loadV, ↓storeV, ↓indexAddrV, ↓allocV, ↓sliceV, bound, cutTag, hiTag, GVal.cells, GVal.ofConst, ↓resV, resG, ↓reduceIte, reduceEqDiff, reduceAdd, reduceSub, reduceLeDiff, reduceCtorEq, ↓clearV, aggV, Tag.cap, GVal.solid, Nat.reduceBEq, reduceMul, reduceLT, vcA, ↓vcB, vcC, fbFy, e76, hst, htk, vcD]
    refine cI.mono ?_
    rintro g O' ⟨rfl, rfl⟩
    simp +contextual -implicitDefEqProofs (maxSteps := 2000000) (disch := omega) only [↓op_clear, ↓lenV, binV, ↓unV, optV, ↓loadV, ↓storeV, ↓indexAddrV, ↓allocV, ↓sliceV, bound, cutTag, hiTag, GVal.cells, GVal.ofConst, ↓resV, resG, ↓reduceIte, reduceEqDiff, reduceAdd, reduceSub, reduceLeDiff, reduceCtorEq, ↓clearV, aggV, Tag.cap, GVal.solid, Nat.reduceBEq, reduceMul, reduceLT, vcA, ↓vcB, vcC, fbFy, e76, hst, htk, vcD]
    exact ⟨_, [a, b, .row v 32 (hsG l)], [], rfl, leA_refl _, rfl, rfl⟩
  | some i =>
    rw [hf] at cI
    have hi : i < l.length := (List.findIdx?_eq_some_iff_findIdx_eq.1 hf).1
    have n1 : ((i : Int) = -1) = False := eq_false (by omega)
    refine h76.calls mixS (by simp) ?_
    simp only [gstart, s76, List.cons_append, List.nil_append, List.length_cons, List.length_nil, reduceAdd, reduceSub, List.replicate_succ, List.replicate_zero]
    simp +contextual -implicitDefEqProofs (maxSteps := 2000000) (disch := omega) only [↓op_clear, ↓lenV, binV, ↓unV, optV, ↓loadV, ↓storeV, ↓indexAddrV, ↓allocV, ↓sliceV, bound, cutTag, hiTag, GVal.cells, GVal.ofConst, ↓resV, resG, ↓reduceIte, reduceEqDiff, reduceAdd, reduceSub, reduceLeDiff, reduceCtorEq, ↓clearV, aggV, Tag.cap, GVal.solid, Nat.reduceBEq, reduceMul, reduceLT, vcA, ↓vcB, vcC, fbFy, e76, hst, htk, vcD]
    refine cI.mono ?_
    rintro g O' ⟨rfl, rfl⟩
    simp +contextual -implicitDefEqProofs (maxSteps := 2000000) (disch := omega) only [↓op_clear, ↓lenV, binV, ↓unV, optV, ↓loadV, ↓storeV, ↓indexAddrV, ↓allocV, ↓sliceV, bound, cutTag, hiTag, GVal.cells, GVal.ofConst, ↓resV, resG, ↓reduceIte, reduceEqDiff, reduceAdd, reduceSub, reduceLeDiff, reduceCtorEq, ↓clearV, aggV, Tag.cap, GVal.solid, Nat.reduceBEq, reduceMul, reduceLT, vcA, ↓vcB, vcC, fbFy, e76, hst, htk, n1, vcD]
    have esp : l = l.take i ++ l[i] :: l.drop (i + 1) := by
      have := List.take_append_drop i l
      rw [List.drop_eq_getElem_cons hi] at this
      exact this.symm
    have hpi : p l[i] = true ∧ ∀ x ∈ l.take i, p x = false := by
      have := List.findIdx?_eq_some_iff_getElem.1 hf
      obtain ⟨_, h1, h2⟩ := this
      refine ⟨h1, fun x hx => ?_⟩
      obtain ⟨j, hj, rfl⟩ := List.getElem_of_mem hx
      rw [List.getElem_take]
      have := h2 j (by simp at hj; omega)
      simpa using this
    have hfl : l.take i ++ (l.drop (i + 1)).filter (fun h => !p h) = l.filter fun h => !p h := by
      conv => rhs; rw [esp]
      rw [List.filter_append, List.filter_cons, hpi.1]
      have : (l.take i).filter (fun h => !p h) = l.take i := List.filter_eq_self.2 fun x hx => by rw [hpi.2 x hx]; rfl
      rw [this]; rfl
    refine vcSLoop_by (ι := { q : (List Hs × List Hs) × (List Hs × Nat) // (q.1.2 ≠ [] ∧ q.1.1.length + q.1.2.length = q.2.2) ∧ q.2.2 + q.2.1.length = l.length ∧ q.1.1 ++ q.2.1.filter (fun h => !p h) = l.filter fun h => !p h }) (fun q => ⟨[.own 2 v 0 l.length, .func (.func F) [] caps, .any, .any, .any, .int .i64 (q.1.1.1.length : Nat), .int .i64 (q.1.2.2 : Nat)] ++ List.replicate 35 .any, [a, b, .row v 32 (hsG (q.1.1.1 ++ q.1.1.2 ++ q.1.2.1))]⟩) (fun q => q.1.2.1.length) ?_ ?_
    · have : min i l.length = i := by omega
      refine Into.first ⟨((l.take i, [l[i]]), (l.drop (i + 1), i + 1)), ⟨by simp, by simp [this]⟩, by simp; omega, hfl⟩ ⟨[], ?_⟩ ?_
      · rw [List.append_nil]
        show _ = [a, b, GObj.row v 32 (hsG (l.take i ++ [l[i]] ++ l.drop (i + 1)))]
        rw [List.append_assoc, List.singleton_append, ← esp]
      · simp [WL, leG_self, leG_any, leG_int, this]
    · rintro ⟨⟨⟨A, Z⟩, ⟨R, J⟩⟩, ⟨hZ, hJ⟩, hlen, hfil⟩
      change Z ≠ [] at hZ
      change A.length + Z.length = J at hJ
      change J + R.length = l.length at hlen
      change A ++ R.filter (fun h => !p h) = l.filter fun h => !p h at hfil
      obtain ⟨z, Z', rfl⟩ := List.exists_cons_of_ne_nil hZ
      have hAJ : A.length < J := by rw [← hJ]; simp
      cases R with
      | nil =>
        have d0 : ((J : Int) < (l.length : Int)) = False := eq_false (by simp at hlen; omega)
        have hA : A = l.filter fun h => !p h := by simpa using hfil
        obtain ⟨W, hW⟩ : ∃ W, A ++ z :: Z' ++ [] = W := ⟨_, rfl⟩
        have hWl : W.length = l.length := by rw [← hW, ← hlen, ← hJ]; simp
        have hWt : (hsG W).take A.length = hsG A := by rw [← hW]; simp [hsG]
        have hAl : A.length ≤ l.length := by omega
        simp +contextual -implicitDefEqProofs (maxSteps := 2000000) (disch := omega) only [↓op_clear, ↓lenV, binV, ↓unV, optV, ↓loadV, ↓storeV, ↓indexAddrV, ↓allocV, ↓sliceV, bound, cutTag, hiTag, GVal.cells, GVal.ofConst, ↓resV, resG, ↓reduceIte, reduceEqDiff, reduceAdd, reduceSub, reduceLeDiff, reduceCtorEq, ↓clearV, aggV, Tag.cap, GVal.solid, Nat.reduceBEq, reduceMul, reduceLT, vcA, ↓vcB, vcC, fbFy, e76, hst, htk, hsG_len, toNat0, Nat.sub_zero, d0, hW, hWl, hWt, vcD]
        exact ⟨by omega, by omega, by omega, by omega, by omega, by omega, _, [a, b, .row v 32 (hsG A)], [], rfl, leA_refl _, by rw [← hA], by rw [← hA]⟩
      | cons x R' =>
        have d0 : ((J : Int) < (l.length : Int)) = True := eq_true (by simp at hlen; omega)
        obtain ⟨W, hW⟩ : ∃ W, A ++ z :: Z' ++ x :: R' = W := ⟨_, rfl⟩
        have hWl : W.length = l.length := by rw [← hW, ← hlen, ← hJ]; simp; omega
        have eS : (hsG W).getD J [] = bytesG x.1 := by
          rw [hsG_at _ _ (by simp at hlen; omega)]
          have : W.getD J h0 = x := by
            rw [← hW, ← hJ]
            simp [List.getD, List.getElem?_append_right]
          rw [this]
        have eT : (hsG W).set A.length (bytesG x.1) = hsG (A ++ [x] ++ (Z' ++ [x]) ++ R') := by
          rw [← hW]
          simp [hsG, List.set_append]
        have eZ : (hsG W).getD A.length [] = bytesG z.1 := by
          rw [hsG_at _ _ (by simp at hlen; omega)]
          have : W.getD A.length h0 = z := by
            rw [← hW]
            simp [List.getD, List.getElem?_append_right]
          rw [this]
        have hl2 : J < l.length := by simp at hlen; omega
        have cN := hN x
        by_cases hx : p x = true
        · rw [hx] at cN
          have cN := cN.keep2 ha
          simp +contextual -implicitDefEqProofs (maxSteps := 2000000) (disch := omega) only [↓op_clear, ↓lenV, binV, ↓unV, optV, ↓loadV, ↓storeV, ↓indexAddrV, ↓allocV, ↓sliceV, bound, cutTag, hiTag, GVal.cells, GVal.ofConst, ↓resV, resG, ↓reduceIte, reduceEqDiff, reduceAdd, reduceSub, reduceLeDiff, reduceCtorEq, ↓clearV, aggV, Tag.cap, GVal.solid, Nat.reduceBEq, reduceMul, reduceLT, vcA, ↓vcB, vcC, fbFy, e76, hst, htk, hsG_len, toNat0, Nat.sub_zero, d0, hW, hWl, eS, true_imp_iff, vcD, v32]
          refine ⟨by omega, hl2, hl2, fun u => (cN _).mono ?_⟩
          rintro g O' ⟨rfl, rfl⟩
          simp +contextual -implicitDefEqProofs (maxSteps := 2000000) (disch := omega) only [↓op_clear, ↓lenV, binV, ↓unV, optV, ↓loadV, ↓storeV, ↓indexAddrV, ↓allocV, ↓sliceV, bound, cutTag, hiTag, GVal.cells, GVal.ofConst, ↓resV, resG, ↓reduceIte, reduceEqDiff, reduceAdd, reduceSub, reduceLeDiff, reduceCtorEq, ↓clearV, aggV, Tag.cap, GVal.solid, Nat.reduceBEq, reduceMul, reduceLT, vcA, ↓vcB, vcC, fbFy, e76, hst, htk, vcD]
          refine Into.at ⟨((A, z :: Z' ++ [x]), (R', J + 1)), ⟨by simp, ?_⟩, ?_, ?_⟩ ?_ ⟨[.row u 32 [bytesG x.1]], ?_⟩ (by simp [WL, leG_self, leG_any, leG_int])
          · show A.length + (z :: Z' ++ [x]).length = J + 1
            rw [← hJ]; simp; omega
          · show J + 1 + R'.length = l.length
            simp at hlen; omega
          · show A ++ R'.filter (fun h => !p h) = _
            rw [← hfil, List.filter_cons, hx]; rfl
          · show R'.length < (x :: R').length
            simp
          · show _ = [a, b, GObj.row v 32 (hsG (A ++ (z :: Z' ++ [x]) ++ R'))] ++ [GObj.row u 32 [bytesG x.1]]
            rw [← hW]; simp
        · have hx : p x = false := by simpa using hx
          rw [hx] at cN
          have cN := cN.keep2 ha
          simp +contextual -implicitDefEqProofs (maxSteps := 2000000) (disch := omega) only [↓op_clear, ↓lenV, binV, ↓unV, optV, ↓loadV, ↓storeV, ↓indexAddrV, ↓allocV, ↓sliceV, bound, cutTag, hiTag, GVal.cells, GVal.ofConst, ↓resV, resG, ↓reduceIte, reduceEqDiff, reduceAdd, reduceSub, reduceLeDiff, reduceCtorEq, ↓clearV, aggV, Tag.cap, GVal.solid, Nat.reduceBEq, reduceMul, reduceLT, vcA, ↓vcB, vcC, fbFy, e76, hst, htk, hsG_len, toNat0, Nat.sub_zero, d0, hW, hWl, eS, eT, true_imp_iff, vcD, v32]
          refine ⟨by omega, hl2, hl2, fun u => (cN _).mono ?_⟩
          rintro g O' ⟨rfl, rfl⟩
          simp +contextual -implicitDefEqProofs (maxSteps := 2000000) (disch := omega) only [↓op_clear, ↓lenV, binV, ↓unV, optV, ↓loadV, ↓storeV, ↓indexAddrV, ↓allocV, ↓sliceV, bound, cutTag, hiTag, GVal.cells, GVal.ofConst, ↓resV, resG, ↓reduceIte, reduceEqDiff, reduceAdd, reduceSub, reduceLeDiff, reduceCtorEq, ↓clearV, aggV, Tag.cap, GVal.solid, Nat.reduceBEq, reduceMul, reduceLT, vcA, ↓vcB, vcC, fbFy, e76, hst, htk, hsG_len, toNat0, hW, hWl, eZ, eT, drop32y, List.append_nil, vcD, v32]
          refine ⟨by omega, by omega, by omega, by omega, ?_⟩
          refine Into.at ⟨((A ++ [x], Z' ++ [x]), (R', J + 1)), ⟨by simp, ?_⟩, ?_, ?_⟩ ?_ ⟨[.row u 32 [bytesG x.1]], ?_⟩ (by simp [WL, leG_self, leG_any, leG_int])
          · show (A ++ [x]).length + (Z' ++ [x]).length = J + 1
            rw [← hJ]; simp; omega
          · show J + 1 + R'.length = l.length
            simp at hlen; omega
          · show A ++ [x] ++ R'.filter (fun h => !p h) = _
            rw [← hfil, List.filter_cons, hx]; simp
          · show R'.length < (x :: R').length
            simp
          · rfl
end Gv.Tryz
/- Contracts: graph's there, Ancestors. -/
set_option linter.unusedVariables false
set_option linter.unusedSimpArgs false
set_option maxRecDepth 20000
set_option maxHeartbeats 4000000
namespace Gv.Tryz
open Go Gv Go.Proofs
open Nat (reduceEqDiff reduceAdd reduceSub reduceLeDiff reduceMul reduceLT)
def meltTo (n : Nat) (K : GVal → List GObj → Prop) (g : GVal) (O' : List GObj) : Prop := (∃ g', leA g g' ∧ K g' O') ∨ ∃ t sz xs O1, g = .own O1.length t 0 xs.length ∧ O' = O1 ++ [.row t sz xs] ∧ frzLL (Gv.frz [.row t sz xs] n) xs = some xs ∧ K (.slice xs .none) O1
theorem GCalls.meltOr {P : Program} {f : FuncId} {args : List GVal} {O : List GObj} {K : GVal → List GObj → Prop} (n : Nat)
    (h : GCalls P f args O (meltTo n K)) : GCalls P f args O K := by
  refine ⟨h.1, fun E w vs hs ha => (h.2 E w vs hs ha).mono ?_⟩
  rintro e w' ⟨v, E', O', g, h1, h2, h3, h4, (⟨g', hl, hk⟩ | ⟨t, sz, xs, O1, rfl, rfl, hf, hk⟩)⟩
  · exact ⟨v, E', O', g', h1, h2, h3, hl.sound h4, hk⟩
  · obtain ⟨q0, q1, q2⟩ := h2.melt
    have h5 : VR E' v (.own 0 t 0 xs.length) := by
      cases h4 with
      | own a len cap o st i l hl hcap ha => exact .own a _ cap 0 t 0 l hl hcap ha
    exact ⟨v, _, O1, _, h1, q1, h3.trans q2, frz_sound q0 (n + 1) v _ _ h5 (frz_own rfl rfl hf), hk⟩
theorem gIndexNil {F : FuncId} {caps : List GVal} (X : List GObj) : GCalls Tryz.prog 95 [.slice [] .nil, .func (.func F) [] caps] X (fun g O' => g = .int .i64 (-1) ∧ O' = X) := by
  refine h95.calls mixS (by simp) ?_
  simp only [gstart, s95, List.cons_append, List.nil_append, List.length_cons, List.length_nil, reduceAdd, reduceSub, List.replicate_succ, List.replicate_zero]
  simp +contextual -implicitDefEqProofs (maxSteps := 2000000) (disch := omega) only [↓lenV, binV, ↓loadV, ↓indexAddrV, GVal.cells, GVal.ofConst, ↓resV, resG, ↓reduceIte, reduceEqDiff, reduceAdd, reduceSub, reduceLeDiff, reduceCtorEq, Tag.cap, GVal.solid, Nat.reduceBEq, reduceMul, reduceLT, vcA, ↓vcB, vcC, fbFy, e95, vcD]
  refine vcSLoop_by (ι := Unit) (fun _ => ⟨[.any, .any, .any, .any, .int .i64 0, .any, .any, .int .i64 0, .int .i64 0] ++ List.replicate 10 .any, X⟩) (fun _ => 0) ?_ ?_
  · exact Into.first () ⟨[], by simp⟩ (by simp [WL, leG_self, leG_any])
  · rintro ⟨⟩
    simp +contextual -implicitDefEqProofs (maxSteps := 2000000) (disch := omega) only [↓lenV, binV, ↓loadV, ↓indexAddrV, GVal.cells, GVal.ofConst, ↓resV, resG, ↓reduceIte, reduceEqDiff, reduceAdd, reduceSub, reduceLeDiff, reduceCtorEq, Tag.cap, GVal.solid, Nat.reduceBEq, reduceMul, reduceLT, vcA, ↓vcB, vcC, fbFy, e95, vcD]
    exact fun h => absurd h (Int.lt_irrefl 0)
theorem gDeleteNil {F : FuncId} {caps : List GVal} (X : List GObj) : GCalls Tryz.prog 76 [.slice [] .nil, .func (.func F) [] caps] X (fun g O' => g = .slice [] .nil ∧ O' = X) := by
  have cI := gIndexNil (F := F) (caps := caps) X
  refine h76.calls mixS (by simp) ?_
  simp only [gstart, s76, List.cons_append, List.nil_append, List.length_cons, List.length_nil, reduceAdd, reduceSub, List.replicate_succ, List.replicate_zero]
  simp +contextual -implicitDefEqProofs (maxSteps := 2000000) (disch := omega) only [↓op_clear, ↓lenV, binV, ↓unV, optV, ↓loadV, ↓storeV, ↓indexAddrV, ↓allocV, ↓sliceV, bound, cutTag, hiTag, GVal.cells, GVal.ofConst, ↓resV, resG, ↓reduceIte, reduceEqDiff, reduceAdd, reduceSub, reduceLeDiff, reduceCtorEq, ↓clearV, aggV, Tag.cap, GVal.solid, Nat.reduceBEq, reduceMul, reduceLT, vcA, ↓vcB, vcC, fbFy, e76, vcD]
  refine cI.mono ?_
  rintro g O' ⟨rfl, rfl⟩
  simp +contextual -implicitDefEqProofs (maxSteps := 2000000) (disch := omega) only [↓op_clear, ↓lenV, binV, ↓unV, optV, ↓loadV, ↓storeV, ↓indexAddrV, ↓allocV, ↓sliceV, bound, cutTag, hiTag, GVal.cells, GVal.ofConst, ↓resV, resG, ↓reduceIte, reduceEqDiff, reduceAdd, reduceSub, reduceLeDiff, reduceCtorEq, ↓clearV, aggV, Tag.cap, GVal.solid, Nat.reduceBEq, reduceMul, reduceLT, vcA, ↓vcB, vcC, fbFy, e76, vcD]
theorem gThere (m : GM) (st s : Nat) (l : List Hs) (t : Tag) (ht : t = .nil → l = []) (hl : l.length ≤ 1000000) : GCalls Tryz.prog 47 [.ptr 0 st 0 0, .slice (hsG l) t] (gObj st s m) (fun g O' => g = .slice (hsG (l.filter fun h => (look m h).isSome)) .none ∧ O' = gObj st s m) := by
  have cD := fun v => gDeleteF (p := fun h => !(look m h).isSome) (fun h => gThere1 m h st s) rfl l v hl
  simp only [Bool.not_not] at cD
  have cC := GCalls.newUp (hClone l t (by omega) ht) (O := gObj st s m) rfl (by rintro g O' (⟨_, rfl, rfl⟩ | ⟨st, rfl, rfl⟩) <;> rfl)
  refine GCalls.meltOr 2 ?_
  refine h47.calls mixS (by simp) ?_
  simp only [gstart, s47, List.cons_append, List.nil_append, List.length_cons, List.length_nil, reduceAdd, reduceSub, List.replicate_succ, List.replicate_zero]
  simp +contextual -implicitDefEqProofs (maxSteps := 2000000) (disch := omega) only [optV, ↓boxV, ↓sliceV, bound, cutTag, hiTag, GVal.cells, GVal.ofConst, ↓resV, resG, ↓reduceIte, reduceEqDiff, reduceAdd, reduceSub, reduceLeDiff, reduceCtorEq, Tag.cap, GVal.solid, Nat.reduceBEq, reduceMul, reduceLT, vcA, ↓vcB, vcC, fbFy, e47, hsG_len, vcD]
  refine cC.mono ?_
  rintro g O' ⟨g0, O1, (⟨rfl, rfl, rfl⟩ | ⟨v, rfl, rfl⟩), rfl, rfl⟩
  · simp +contextual -implicitDefEqProofs (maxSteps := 2000000) (disch := omega) only [optV, ↓boxV, ↓sliceV, bound, cutTag, hiTag, GVal.cells, GVal.ofConst, ↓resV, resG, ↓reduceIte, reduceEqDiff, reduceAdd, reduceSub, reduceLeDiff, reduceCtorEq, Tag.cap, GVal.solid, Nat.reduceBEq, reduceMul, reduceLT, vcA, ↓vcB, vcC, fbFy, e47, vcD]
    refine (gDeleteNil _).mono ?_
    rintro g O' ⟨rfl, rfl⟩
    simp +contextual -implicitDefEqProofs (maxSteps := 2000000) (disch := omega) only [optV, ↓boxV, ↓sliceV, bound, cutTag, hiTag, GVal.cells, GVal.ofConst, ↓resV, resG, ↓reduceIte, reduceEqDiff, reduceAdd, reduceSub, reduceLeDiff, reduceCtorEq, Tag.cap, GVal.solid, Nat.reduceBEq, reduceMul, reduceLT, vcA, ↓vcB, vcC, fbFy, e47, vcD]
    exact .inl ⟨.slice (hsG (List.filter (fun h => (look m h).isSome) [])) .none, by rw [leA_slice]; rfl, rfl, rfl⟩
  · simp +contextual -implicitDefEqProofs (maxSteps := 2000000) (disch := omega) only [optV, ↓boxV, ↓sliceV, bound, cutTag, hiTag, GVal.cells, GVal.ofConst, ↓resV, resG, ↓reduceIte, reduceEqDiff, reduceAdd, reduceSub, reduceLeDiff, reduceCtorEq, Tag.cap, GVal.solid, Nat.reduceBEq, reduceMul, reduceLT, vcA, ↓vcB, vcC, fbFy, e47, vcD]
    refine (cD v).mono ?_
    rintro g O' ⟨rfl, rfl⟩
    simp +contextual -implicitDefEqProofs (maxSteps := 2000000) (disch := omega) only [optV, ↓boxV, ↓sliceV, bound, cutTag, hiTag, GVal.cells, GVal.ofConst, ↓resV, resG, ↓reduceIte, reduceEqDiff, reduceAdd, reduceSub, reduceLeDiff, reduceCtorEq, Tag.cap, GVal.solid, Nat.reduceBEq, reduceMul, reduceLT, vcA, ↓vcB, vcC, fbFy, e47, vcD]
    exact .inr ⟨v, 32, _, gObj st s m, by rw [hsG_len]; rfl, rfl, frz_hs _ 1 _, rfl, rfl⟩
end Gv.Tryz
/- Contracts: ids' New, Hash, without; slices.Grow, Concat of hashes. -/
set_option linter.unusedVariables false
set_option linter.unusedSimpArgs false
set_option maxRecDepth 20000
set_option maxHeartbeats 4000000
namespace Gv.Tryz
open Go Gv Go.Proofs
open Nat (reduceEqDiff reduceAdd reduceSub reduceLeDiff reduceMul reduceLT)
theorem iHashO (ti so : Nat) (n : Int) (M O : List Hs) (j : Nat) (hj : j ≤ 1000000) (hO : O.length ≤ 1000000) : GCalls Tryz.prog 23 [.ptr 0 ti 0 0, .int .i64 (1099511627776 + (j : Int))] (idO ti so n M O) (fun g O' => g = .tuple [.agg (bytesG (O.getD j h0).1), .bool (decide (j < O.length))] ∧ O' = idO ti so n M O) := by
  have d0 : ((1099511627776 : Int) ≤ 1099511627776 + (j : Int)) = True := eq_true (by omega)
  have eV : (1099511627776 + (j : Int) - 1099511627776) = j := by omega
  have d1 : ((j : Int) < 0) = False := eq_false (by omega)
  refine GCalls.dropTo ?_
  by_cases h : j < O.length
  · have d2 : ((O.length : Int) ≤ (j : Int)) = False := eq_false (by omega)
    have eS := hsG_at O j h
    rw [decide_eq_true h]
    generalize O.getD j h0 = x at *
    refine h23.calls mixS (by simp) ?_
    simp only [gstart, s23, List.cons_append, List.nil_append, List.length_cons, List.length_nil, reduceAdd, reduceSub, List.replicate_succ, List.replicate_zero]
    simp +contextual -implicitDefEqProofs (maxSteps := 2000000) (disch := omega) only [↓lenV, binV, ↓loadV, ↓storeV, ↓fieldAddrV, ↓indexAddrV, ↓allocV, ↓buildV, ↓nilV, fillG, place, GVal.cells, GVal.ofConst, ↓resV, resG, ↓reduceIte, reduceEqDiff, reduceAdd, reduceSub, reduceLeDiff, reduceCtorEq, Tag.cap, GVal.solid, Nat.reduceBEq, reduceMul, reduceLT, vcA, ↓vcB, vcC, fbFy, e23, d0, eV, d1, d2, hsG_len, eS, all_hsG, vcD, v32]
    exact fun sb => ⟨by omega, by omega, _, idO ti so n M O, [.row sb 32 [bytesG x.1]], rfl, leA_refl _, rfl, rfl⟩
  · have d2 : ((O.length : Int) ≤ (j : Int)) = True := eq_true (by omega)
    have ex : O.getD j h0 = h0 := by rw [List.getD_eq_getElem?_getD, List.getElem?_eq_none (by omega)]; rfl
    rw [decide_eq_false h, ex]
    refine h23.calls mixS (by simp) ?_
    simp only [gstart, s23, List.cons_append, List.nil_append, List.length_cons, List.length_nil, reduceAdd, reduceSub, List.replicate_succ, List.replicate_zero]
    simp +contextual -implicitDefEqProofs (maxSteps := 2000000) (disch := omega) only [↓lenV, binV, ↓loadV, ↓storeV, ↓fieldAddrV, ↓indexAddrV, ↓allocV, ↓buildV, ↓nilV, fillG, place, GVal.cells, GVal.ofConst, ↓resV, resG, ↓reduceIte, reduceEqDiff, reduceAdd, reduceSub, reduceLeDiff, reduceCtorEq, Tag.cap, GVal.solid, Nat.reduceBEq, reduceMul, reduceLT, vcA, ↓vcB, vcC, fbFy, e23, d0, eV, d1, d2, hsG_len, vcD]
    exact fun sb => ⟨_, idO ti so n M O, [_], rfl, leA_refl _, rfl, rfl⟩
theorem iHashM (ti so : Nat) (n : Int) (M O : List Hs) (j : Nat) (hj : j ≤ 1000000) (hM : M.length ≤ 1000000) : GCalls Tryz.prog 23 [.ptr 0 ti 0 0, .int .i64 (j : Int)] (idO ti so n M O) (fun g O' => g = .tuple [.agg (bytesG (M.getD j h0).1), .bool (decide (j < M.length))] ∧ O' = idO ti so n M O) := by
  have d0 : ((1099511627776 : Int) ≤ (j : Int)) = False := eq_false (by omega)
  have d1 : ((j : Int) < 0) = False := eq_false (by omega)
  refine GCalls.dropTo ?_
  by_cases h : j < M.length
  · have d2 : ((M.length : Int) ≤ (j : Int)) = False := eq_false (by omega)
    have eS := hsG_at M j h
    rw [decide_eq_true h]
    generalize M.getD j h0 = x at *
    refine h23.calls mixS (by simp) ?_
    simp only [gstart, s23, List.cons_append, List.nil_append, List.length_cons, List.length_nil, reduceAdd, reduceSub, List.replicate_succ, List.replicate_zero]
    simp +contextual -implicitDefEqProofs (maxSteps := 2000000) (disch := omega) only [↓lenV, binV, ↓loadV, ↓storeV, ↓fieldAddrV, ↓indexAddrV, ↓allocV, ↓buildV, ↓nilV, fillG, place, GVal.cells, GVal.ofConst, ↓resV, resG, ↓reduceIte, reduceEqDiff, reduceAdd, reduceSub, reduceLeDiff, reduceCtorEq, Tag.cap, GVal.solid, Nat.reduceBEq, reduceMul, reduceLT, vcA, ↓vcB, vcC, fbFy, e23, d0, d1, d2, hsG_len, eS, all_hsG, vcD, v32]
    exact fun sb => ⟨by omega, by omega, _, idO ti so n M O, [.row sb 32 [bytesG x.1]], rfl, leA_refl _, rfl, rfl⟩
  · have d2 : ((M.length : Int) ≤ (j : Int)) = True := eq_true (by omega)
    have ex : M.getD j h0 = h0 := by rw [List.getD_eq_getElem?_getD, List.getElem?_eq_none (by omega)]; rfl
    rw [decide_eq_false h, ex]
    refine h23.calls mixS (by simp) ?_
    simp only [gstart, s23, List.cons_append, List.nil_append, List.length_cons, List.length_nil, reduceAdd, reduceSub, List.replicate_succ, List.replicate_zero]
    simp +contextual -implicitDefEqProofs (maxSteps := 2000000) (disch := omega) only [↓lenV, binV, ↓loadV, ↓storeV, ↓fieldAddrV, ↓indexAddrV, ↓allocV, ↓buildV, ↓nilV, fillG, place, GVal.cells, GVal.ofConst, ↓resV, resG, ↓reduceIte, reduceEqDiff, reduceAdd, reduceSub, reduceLeDiff, reduceCtorEq, Tag.cap, GVal.solid, Nat.reduceBEq, reduceMul, reduceLT, vcA, ↓vcB, vcC, fbFy, e23, d0, d1, d2, hsG_len, vcD]
    exact fun sb => ⟨_, idO ti so n M O, [_], rfl, leA_refl _, rfl, rfl⟩
theorem h46w : FnS Tryz.prog 75 ⟨[22], []⟩ 27 [(.tmp 4)] s75 := .mk' Tryz.func75 (by kernel_rfl) (by kernel_rfl) (by kernel_rfl) (by kernel_rfl) (by kernel_rfl) (by kernel_rfl)
theorem iGrow (n : Nat) (hn : n ≤ 4398046511104) : GCalls Tryz.prog 75 [.slice [] .nil, .int .i64 n] [] (fun g O' => (n = 0 ∧ g = .slice [] .nil ∧ O' = []) ∨ ∃ st xs, g = .own 0 st 0 0 ∧ O' = [.row st 32 xs]) := by
  refine h46w.calls mixS (by simp) ?_
  simp only [gstart, s75, List.cons_append, List.nil_append, List.length_cons, List.length_nil, reduceAdd, reduceSub, List.replicate_succ, List.replicate_zero]
  skip
  have d0 : ((n : Int) < 0) = False := eq_false (by omega)
  simp +contextual -implicitDefEqProofs (maxSteps := 2000000) (disch := omega) only [↓lenV, binV, optV, ↓sliceV, ↓ifaceV, ↓appendV, ↓srcV, bound, cutTag, hiTag, GVal.cells, GVal.ofConst, ↓resV, resG, ↓reduceIte, reduceEqDiff, reduceAdd, reduceSub, reduceLeDiff, reduceCtorEq, ↓asrcV, ↓capV, Tag.cap, GVal.solid, Nat.reduceBEq, reduceMul, reduceLT, vcA, ↓vcB, vcC, fbFy, e75, d0, false_imp_iff, true_and, vcD]
  refine ⟨fun h => ⟨by omega, by omega, by omega, by omega, by omega, by omega, fun y hy => by rw [(List.mem_replicate.1 hy).2]; rfl, by simp; omega, by simp; omega, .inr trivial, fun st => ⟨by omega, by omega, by omega, .inr ⟨st, _, rfl, rfl⟩⟩⟩, fun h => .inl (by omega)⟩

theorem iConcat (a b : List Hs) (ta tb tt : Tag) (hl : a.length + b.length ≤ 4398046511104) : GPure Tryz.prog 40 [.slice [[.slice (hsG a) ta], [.slice (hsG b) tb]] tt] (.slice (hsG (a ++ b)) .none) := by
  refine h40.pureF mixS (by simp) ?_
  simp only [gstart, s40, List.cons_append, List.nil_append, List.length_cons, List.length_nil, reduceAdd, reduceSub, List.replicate_succ, List.replicate_zero]
  simp +contextual -implicitDefEqProofs (maxSteps := 2000000) (disch := omega) only [↓lenV, binV, optV, ↓loadV, ↓indexAddrV, ↓sliceV, ↓ifaceV, ↓appendV, ↓srcV, bound, cutTag, hiTag, GVal.cells, GVal.ofConst, ↓resV, resG, ↓reduceIte, reduceEqDiff, reduceAdd, reduceSub, reduceLeDiff, reduceCtorEq, ↓asrcV, Tag.cap, GVal.solid, Nat.reduceBEq, reduceMul, reduceLT, vcA, ↓vcB, vcC, fbFy, e40, vcD]
  refine vcSLoop_by (ι := { p : Nat × Nat // (p.1 = 0 ∧ p.2 = 0) ∨ (p.1 = 1 ∧ p.2 = a.length) ∨ (p.1 = 2 ∧ p.2 = a.length + b.length) }) (fun p => ⟨[.slice [[.slice (hsG a) ta], [.slice (hsG b) tb]] tt, .any, .any, .int .i64 (p.1.2 : Nat), .any, .any, .any, .any, .any, .slice [[.slice (hsG a) ta], [.slice (hsG b) tb]] tt, .int .i64 2, .int .i64 (p.1.1 : Nat)] ++ List.replicate 24 .any, []⟩) (fun p => 2 - p.1.1) ?_ ?_
  · exact Into.first ⟨(0, 0), .inl ⟨rfl, rfl⟩⟩ ⟨[], by simp⟩ (by simp [WL, leG_self, leG_any])
  · rintro ⟨⟨k, n⟩, hk⟩
    simp only [] at hk
    rcases hk with ⟨rfl, rfl⟩ | ⟨rfl, rfl⟩ | ⟨rfl, rfl⟩
    · have d1 : ((0 : Int) + a.length < 0) = False := eq_false (by omega)
      simp +contextual -implicitDefEqProofs (maxSteps := 2000000) (disch := omega) only [↓lenV, binV, optV, ↓loadV, ↓indexAddrV, ↓sliceV, ↓ifaceV, ↓appendV, ↓srcV, bound, cutTag, hiTag, GVal.cells, GVal.ofConst, ↓resV, resG, ↓reduceIte, reduceEqDiff, reduceAdd, reduceSub, reduceLeDiff, reduceCtorEq, ↓asrcV, Tag.cap, GVal.solid, Nat.reduceBEq, reduceMul, reduceLT, vcA, ↓vcB, vcC, fbFy, e40, hsG_len, Int.reduceLT, Int.reduceLE, Int.reduceToNat, true_imp_iff, false_imp_iff, d1, vcD]
      exact Into.at ⟨(1, a.length), .inr (.inl ⟨rfl, rfl⟩)⟩ (by show _ < _; simp) ⟨[], by simp⟩ (by simp [WL, leG_self, leG_any, leG_int])
    · have d1 : ((a.length : Int) + b.length < 0) = False := eq_false (by omega)
      simp +contextual -implicitDefEqProofs (maxSteps := 2000000) (disch := omega) only [↓lenV, binV, optV, ↓loadV, ↓indexAddrV, ↓sliceV, ↓ifaceV, ↓appendV, ↓srcV, bound, cutTag, hiTag, GVal.cells, GVal.ofConst, ↓resV, resG, ↓reduceIte, reduceEqDiff, reduceAdd, reduceSub, reduceLeDiff, reduceCtorEq, ↓asrcV, Tag.cap, GVal.solid, Nat.reduceBEq, reduceMul, reduceLT, vcA, ↓vcB, vcC, fbFy, e40, hsG_len, Int.reduceLT, Int.reduceLE, Int.reduceToNat, true_imp_iff, false_imp_iff, d1, vcD]
      exact Into.at ⟨(2, a.length + b.length), .inr (.inr ⟨rfl, rfl⟩)⟩ (by show _ < _; simp) ⟨[], by simp⟩ (by simp [WL, leG_self, leG_any, leG_int])
    · simp +contextual -implicitDefEqProofs (maxSteps := 2000000) (disch := omega) only [↓lenV, binV, optV, ↓loadV, ↓indexAddrV, ↓sliceV, ↓ifaceV, ↓appendV, ↓srcV, bound, cutTag, hiTag, GVal.cells, GVal.ofConst, ↓resV, resG, ↓reduceIte, reduceEqDiff, reduceAdd, reduceSub, reduceLeDiff, reduceCtorEq, ↓asrcV, Tag.cap, GVal.solid, Nat.reduceBEq, reduceMul, reduceLT, vcA, ↓vcB, vcC, fbFy, e40, hsG_len, Int.reduceLT, Int.reduceLE, Int.reduceToNat, true_imp_iff, false_imp_iff, vcD]
      have hg := iGrow (a.length + b.length) hl
      rw [Int.natCast_add] at hg
      refine hg.mono ?_
      clear hg
      rintro g O' hg
      simp +contextual -implicitDefEqProofs (maxSteps := 2000000) (disch := omega) only [↓lenV, binV, optV, ↓loadV, ↓indexAddrV, ↓sliceV, ↓ifaceV, ↓appendV, ↓srcV, bound, cutTag, hiTag, GVal.cells, GVal.ofConst, ↓resV, resG, ↓reduceIte, reduceEqDiff, reduceAdd, reduceSub, reduceLeDiff, reduceCtorEq, ↓asrcV, Tag.cap, GVal.solid, Nat.reduceBEq, reduceMul, reduceLT, vcA, ↓vcB, vcC, fbFy, e40, vcD]
      refine vcSLoop_by (ι := { p : Nat × List Hs × Nat × List (List GVal) // (p.1 = 0 ∧ p.2.1 = []) ∨ (p.1 = 1 ∧ p.2.1 = a ∧ p.2.2.2 = hsG a) ∨ (p.1 = 2 ∧ p.2.1 = a ++ b ∧ p.2.2.2 = hsG (a ++ b)) }) (fun p => ⟨[.any, .any, .any, .any, .any, .any, .own 0 p.1.2.2.1 0 p.1.2.1.length] ++ List.replicate 18 .any ++ [.slice [[.slice (hsG a) ta], [.slice (hsG b) tb]] tt, .int .i64 2, .int .i64 (p.1.1 : Nat)] ++ List.replicate 8 .any, [.row p.1.2.2.1 32 p.1.2.2.2]⟩) (fun p => 2 - p.1.1) ?_ ?_
      · rcases hg with ⟨_, rfl, rfl⟩ | ⟨st, xs, rfl, rfl⟩
        · refine Into.row 6 32 rfl rfl ?_
          simp +contextual -implicitDefEqProofs (maxSteps := 2000000) (disch := omega) only [↓lenV, binV, optV, ↓loadV, ↓indexAddrV, ↓sliceV, ↓ifaceV, ↓appendV, ↓srcV, bound, cutTag, hiTag, GVal.cells, GVal.ofConst, ↓resV, resG, ↓reduceIte, reduceEqDiff, reduceAdd, reduceSub, reduceLeDiff, reduceCtorEq, ↓asrcV, Tag.cap, GVal.solid, Nat.reduceBEq, reduceMul, reduceLT, vcA, ↓vcB, vcC, fbFy, e40, vcD]
          intro t0
          exact Into.first ⟨(0, [], t0, []), .inl ⟨rfl, rfl⟩⟩ ⟨[], by simp⟩ (by simp [WL, leG_self, leG_any])
        · exact Into.first ⟨(0, [], st, xs), .inl ⟨rfl, rfl⟩⟩ ⟨[], by simp⟩ (by simp [WL, leG_self, leG_any])
      · rintro ⟨⟨k, L, v, xs⟩, hk⟩
        simp only [] at hk
        rcases hk with ⟨rfl, rfl⟩ | ⟨rfl, rfl, rfl⟩ | ⟨rfl, rfl, rfl⟩
        · simp +contextual -implicitDefEqProofs (maxSteps := 2000000) (disch := omega) only [↓lenV, binV, optV, ↓loadV, ↓indexAddrV, ↓sliceV, ↓ifaceV, ↓appendV, ↓srcV, bound, cutTag, hiTag, GVal.cells, GVal.ofConst, ↓resV, resG, ↓reduceIte, reduceEqDiff, reduceAdd, reduceSub, reduceLeDiff, reduceCtorEq, ↓asrcV, Tag.cap, GVal.solid, Nat.reduceBEq, reduceMul, reduceLT, vcA, ↓vcB, vcC, fbFy, e40, hsG_len, Int.reduceLT, Int.reduceLE, Int.reduceToNat, true_imp_iff, false_imp_iff, all_hsG, vcD]
          exact ⟨by omega, by omega, by omega, fun st => Into.at ⟨(1, a, st, hsG a), .inr (.inl ⟨rfl, rfl, rfl⟩)⟩ (by show _ < _; simp) ⟨[], by simp⟩ (by simp [WL, leG_self, leG_any, leG_int])⟩
        · simp +contextual -implicitDefEqProofs (maxSteps := 2000000) (disch := omega) only [↓lenV, binV, optV, ↓loadV, ↓indexAddrV, ↓sliceV, ↓ifaceV, ↓appendV, ↓srcV, bound, cutTag, hiTag, GVal.cells, GVal.ofConst, ↓resV, resG, ↓reduceIte, reduceEqDiff, reduceAdd, reduceSub, reduceLeDiff, reduceCtorEq, ↓asrcV, Tag.cap, GVal.solid, Nat.reduceBEq, reduceMul, reduceLT, vcA, ↓vcB, vcC, fbFy, e40, hsG_len, Int.reduceLT, Int.reduceLE, Int.reduceToNat, true_imp_iff, false_imp_iff, all_hsG, vcD]
          exact ⟨by omega, by omega, by omega, fun st => Into.at ⟨(2, L ++ b, st, hsG (L ++ b)), .inr (.inr ⟨rfl, rfl, rfl⟩)⟩ (by show _ < _; simp) ⟨[], by rw [List.take_of_length_le (by rw [hsG_len]; exact Nat.le_refl _), hsG_app]; simp⟩ (by simp [WL, leG_self, leG_any, leG_int])⟩
        · simp +contextual -implicitDefEqProofs (maxSteps := 2000000) (disch := omega) only [↓lenV, binV, optV, ↓loadV, ↓indexAddrV, ↓sliceV, ↓ifaceV, ↓appendV, ↓srcV, bound, cutTag, hiTag, GVal.cells, GVal.ofConst, ↓resV, resG, ↓reduceIte, reduceEqDiff, reduceAdd, reduceSub, reduceLeDiff, reduceCtorEq, ↓asrcV, Tag.cap, GVal.solid, Nat.reduceBEq, reduceMul, reduceLT, vcA, ↓vcB, vcC, fbFy, e40, hsG_len, Int.reduceLT, Int.reduceLE, Int.reduceToNat, true_imp_iff, false_imp_iff, vcD]
          exact ⟨4, .slice (hsG (a ++ b)) .none, frz_own rfl (hsG_len _).symm (frz_hs _ 2 _), by rw [leA_slice]⟩

theorem iWoGone (a b : GObj) (S : List Hs) (h : Hs) (s sb : Nat) : GCalls Tryz.prog 77 [.agg (bytesG h.1), .ptr 1 sb 0 0] [.map s (kvG encB (setM S)), .row sb 1 [[.map 0 s]]] (fun g O' => g = .bool (decide (h ∈ S)) ∧ O' = [.map s (kvG encB (setM S)), .row sb 1 [[.map 0 s]]]) := by
  by_cases hx : h ∈ S
  · obtain ⟨i, hi, hv, _⟩ := look_idx encB (setM S) h true (by rw [look_set, if_pos hx])
    rw [decide_eq_true hx]
    refine h77.calls mixS (by simp) ?_
    simp only [gstart, s77, List.cons_append, List.nil_append, List.length_cons, List.length_nil, reduceAdd, reduceSub, List.replicate_succ, List.replicate_zero]
    simp +contextual -implicitDefEqProofs (maxSteps := 2000000) (disch := omega) only [↓loadV, ↓boxV, GVal.cells, GVal.ofConst, ↓resV, resG, ↓reduceIte, reduceEqDiff, reduceAdd, reduceSub, reduceLeDiff, reduceCtorEq, ↓lookupV, keyOk, keyCells, pairG, Tag.cap, GVal.solid, Nat.reduceBEq, reduceMul, reduceLT, vcA, ↓vcB, vcC, fbFy, e77, kfind_h, hi, hv, vcD, v32]
  · obtain ⟨hi, _⟩ := look_none encB (setM S) h (by rw [look_set, if_neg hx])
    rw [decide_eq_false hx]
    refine h77.calls mixS (by simp) ?_
    simp only [gstart, s77, List.cons_append, List.nil_append, List.length_cons, List.length_nil, reduceAdd, reduceSub, List.replicate_succ, List.replicate_zero]
    simp +contextual -implicitDefEqProofs (maxSteps := 2000000) (disch := omega) only [↓loadV, ↓boxV, GVal.cells, GVal.ofConst, ↓resV, resG, ↓reduceIte, reduceEqDiff, reduceAdd, reduceSub, reduceLeDiff, reduceCtorEq, ↓lookupV, keyOk, keyCells, pairG, Tag.cap, GVal.solid, Nat.reduceBEq, reduceMul, reduceLT, vcA, ↓vcB, vcC, fbFy, e77, kfind_h, hi, vcD, v32]
end Gv.Tryz
/- Contracts: ids' without; a walk with isMaster; a walk with Update's function. -/
set_option linter.unusedVariables false
set_option linter.unusedSimpArgs false
set_option maxRecDepth 20000
set_option maxHeartbeats 4000000
namespace Gv.Tryz
open Go Gv Go.Proofs
open Nat (reduceEqDiff reduceAdd reduceSub reduceLeDiff reduceMul reduceLT)
def setAdd (S : List Hs) (h : Hs) : List Hs := if h ∈ S then S else S ++ [h]
def setAll (l : List Hs) : List Hs := l.foldl setAdd []
theorem setAdd_mem (S : List Hs) (h x : Hs) : x ∈ setAdd S h ↔ x ∈ S ∨ x = h := by
  unfold setAdd
  split
  · rename_i hm
    exact ⟨.inl, fun q => q.elim id fun e => e ▸ hm⟩
  · simp
theorem setFold_mem : ∀ (l S : List Hs) (x : Hs), x ∈ l.foldl setAdd S ↔ x ∈ S ∨ x ∈ l
  | [], S, x => by simp
  | a :: r, S, x => by rw [List.foldl_cons, setFold_mem r, setAdd_mem]; simp [or_assoc]
theorem setAll_mem (l : List Hs) (x : Hs) : x ∈ setAll l ↔ x ∈ l := by rw [setAll, setFold_mem]; simp
theorem setAll_snoc (l : List Hs) (h : Hs) : setAll (l ++ [h]) = setAdd (setAll l) h := by simp [setAll]
theorem mset_in : ∀ {S : List Hs} {h : Hs}, h ∈ S → mset (setM S) h true = setM S
  | [], h, hm => by cases hm
  | a :: r, h, hm => by
    rw [show setM (a :: r) = (a, true) :: setM r from rfl, mset]
    by_cases e : h = a
    · rw [if_pos e, e]
    · rw [if_neg e, mset_in ((List.mem_cons.1 hm).resolve_left e)]
theorem mset_add (S : List Hs) (h : Hs) : mset (setM S) h true = setM (setAdd S h) := by
  unfold setAdd
  split
  · exact mset_in (by assumption)
  · exact mset_set S h (by assumption)
def woL (l gone : List Hs) : List Hs := l.filter fun h => !decide (h ∈ gone)
theorem iWithout (l gone : List Hs) (hl : l.length ≤ 1000000) (hg : gone.length ≤ 1000000) : GPure Tryz.prog 41 [.slice (hsG l) .none, .slice (hsG gone) .none] (.slice (hsG (woL l gone)) .none) := by
  refine GCalls.dropTo (GCalls.meltOr 2 ?_)
  have eW : woL l gone = l.filter fun h => !decide (h ∈ setAll gone) := List.filter_congr fun h _ => by rw [decide_eq_decide.2 (setAll_mem gone h)]
  rw [eW]
  refine h41.calls mixS (by simp) ?_
  simp only [gstart, s41, List.cons_append, List.nil_append, List.length_cons, List.length_nil, reduceAdd, reduceSub, List.replicate_succ, List.replicate_zero]
  simp +contextual -implicitDefEqProofs (maxSteps := 2000000) (disch := omega) only [↓lenV, binV, optV, ↓loadV, ↓storeV, ↓indexAddrV, ↓allocV, ↓sliceV, bound, cutTag, hiTag, GVal.cells, GVal.ofConst, ↓resV, resG, ↓reduceIte, reduceEqDiff, reduceAdd, reduceSub, reduceLeDiff, reduceCtorEq, ↓mapUpdateV, ↓makeMapV, keyOk, keyCells, Tag.cap, GVal.solid, Nat.reduceBEq, reduceMul, reduceLT, vcA, ↓vcB, vcC, fbFy, e41, vcD]
  intro s
  refine ⟨rfl, fun sb => ?_⟩
  have cD := fun v => gDeleteF (caps := [.ptr 1 sb 0 0]) (fun h => decide (h ∈ setAll gone)) (fun h => iWoGone .dead .dead (setAll gone) h s sb) rfl l v hl
  have cC := GCalls.newUp (hClone l .none (by omega) (by simp)) (O := [.map s (kvG encB (setM (setAll gone))), .row sb 1 [[.map 0 s]]]) rfl (by rintro g O' (⟨_, rfl, rfl⟩ | ⟨st, rfl, rfl⟩) <;> rfl)
  refine vcSLoop_by (ι := { k : Nat // k ≤ gone.length }) (fun k => ⟨[.slice (hsG l) .none, .slice (hsG gone) .none, .any, .any, .any, .ptr 1 sb 0 0, .any, .any, .any, .slice (hsG gone) .none, .int .i64 gone.length, .int .i64 (k.1 : Nat)] ++ List.replicate 10 .any, [.map s (kvG encB (setM (setAll (gone.take k.1)))), .row sb 1 [[.map 0 s]]]⟩) (fun k => gone.length - k.1) ?_ ?_
  · exact Into.first ⟨0, Nat.zero_le _⟩ ⟨[], by simp [kvG, setAll]⟩ (by simp [WL, leG_self, leG_any, hsG_len])
  · rintro ⟨k, hk⟩
    change k ≤ gone.length at hk
    by_cases h : k < gone.length
    · have d0 : ((k : Int) < (gone.length : Int)) = True := eq_true (by omega)
      have eS := hsG_at gone k h
      have eT : setAll (gone.take (k + 1)) = setAdd (setAll (gone.take k)) (gone.getD k h0) := by rw [takeH h, setAll_snoc]
      clear cD cC eW
      generalize gone.getD k h0 = x at *
      generalize setAll (gone.take k) = S at *
      have em := mset_add S x
      rw [← eT] at em
      by_cases hx : x ∈ S
      · obtain ⟨i, hi, hv, hw⟩ := look_idx encB (setM S) x true (by rw [look_set, if_pos hx])
        have hw := hw true
        rw [em] at hw
        simp +contextual -implicitDefEqProofs (maxSteps := 2000000) (disch := omega) only [↓lenV, binV, optV, ↓loadV, ↓storeV, ↓indexAddrV, ↓allocV, ↓sliceV, bound, cutTag, hiTag, GVal.cells, GVal.ofConst, ↓resV, resG, ↓reduceIte, reduceEqDiff, reduceAdd, reduceSub, reduceLeDiff, reduceCtorEq, ↓mapUpdateV, ↓makeMapV, keyOk, keyCells, Tag.cap, GVal.solid, Nat.reduceBEq, reduceMul, reduceLT, vcA, ↓vcB, vcC, fbFy, e41, d0, eS, hsG_len, all_hsG, kfind_h, hi, hv, hw, vcD, v32]
        refine ⟨by omega, fun sc => ?_⟩
        exact Into.at ⟨k + 1, h⟩ (by show _ < _; simp; omega) ⟨[.row sc 32 [bytesG x.1]], by simp⟩ (by simp [WL, leG_self, leG_any, leG_int])
      · obtain ⟨hi, hw⟩ := look_none encB (setM S) x (by rw [look_set, if_neg hx])
        have hw := hw true
        rw [em] at hw
        simp +contextual -implicitDefEqProofs (maxSteps := 2000000) (disch := omega) only [↓lenV, binV, optV, ↓loadV, ↓storeV, ↓indexAddrV, ↓allocV, ↓sliceV, bound, cutTag, hiTag, GVal.cells, GVal.ofConst, ↓resV, resG, ↓reduceIte, reduceEqDiff, reduceAdd, reduceSub, reduceLeDiff, reduceCtorEq, ↓mapUpdateV, ↓makeMapV, keyOk, keyCells, Tag.cap, GVal.solid, Nat.reduceBEq, reduceMul, reduceLT, vcA, ↓vcB, vcC, fbFy, e41, d0, eS, hsG_len, all_hsG, kfind_h, hi, hw, vcD, v32]
        refine ⟨by omega, fun sc => ?_⟩
        exact Into.at ⟨k + 1, h⟩ (by show _ < _; simp; omega) ⟨[.row sc 32 [bytesG x.1]], by simp⟩ (by simp [WL, leG_self, leG_any, leG_int])
    · have d0 : ((k : Int) < (gone.length : Int)) = False := eq_false (by omega)
      rw [List.take_of_length_le (show gone.length ≤ k by omega)]
      simp +contextual -implicitDefEqProofs (maxSteps := 2000000) (disch := omega) only [↓lenV, binV, optV, ↓loadV, ↓storeV, ↓indexAddrV, ↓allocV, ↓sliceV, bound, cutTag, hiTag, GVal.cells, GVal.ofConst, ↓resV, resG, ↓reduceIte, reduceEqDiff, reduceAdd, reduceSub, reduceLeDiff, reduceCtorEq, ↓mapUpdateV, ↓makeMapV, keyOk, keyCells, Tag.cap, GVal.solid, Nat.reduceBEq, reduceMul, reduceLT, vcA, ↓vcB, vcC, fbFy, e41, d0, vcD]
      refine cC.mono ?_
      rintro g O' ⟨g0, O1, (⟨rfl, rfl, rfl⟩ | ⟨v, rfl, rfl⟩), rfl, rfl⟩
      · simp +contextual -implicitDefEqProofs (maxSteps := 2000000) (disch := omega) only [↓lenV, binV, optV, ↓loadV, ↓storeV, ↓indexAddrV, ↓allocV, ↓sliceV, bound, cutTag, hiTag, GVal.cells, GVal.ofConst, ↓resV, resG, ↓reduceIte, reduceEqDiff, reduceAdd, reduceSub, reduceLeDiff, reduceCtorEq, ↓mapUpdateV, ↓makeMapV, keyOk, keyCells, Tag.cap, GVal.solid, Nat.reduceBEq, reduceMul, reduceLT, vcA, ↓vcB, vcC, fbFy, e41, vcD]
        refine (gDeleteNil _).mono ?_
        rintro g O' ⟨rfl, rfl⟩
        simp +contextual -implicitDefEqProofs (maxSteps := 2000000) (disch := omega) only [↓lenV, binV, optV, ↓loadV, ↓storeV, ↓indexAddrV, ↓allocV, ↓sliceV, bound, cutTag, hiTag, GVal.cells, GVal.ofConst, ↓resV, resG, ↓reduceIte, reduceEqDiff, reduceAdd, reduceSub, reduceLeDiff, reduceCtorEq, ↓mapUpdateV, ↓makeMapV, keyOk, keyCells, Tag.cap, GVal.solid, Nat.reduceBEq, reduceMul, reduceLT, vcA, ↓vcB, vcC, fbFy, e41, vcD]
        exact .inl ⟨.slice [] .nil, leA_refl _, .slice [] .none, [], _, rfl, by rw [leA_slice], rfl, rfl⟩
      · simp +contextual -implicitDefEqProofs (maxSteps := 2000000) (disch := omega) only [↓lenV, binV, optV, ↓loadV, ↓storeV, ↓indexAddrV, ↓allocV, ↓sliceV, bound, cutTag, hiTag, GVal.cells, GVal.ofConst, ↓resV, resG, ↓reduceIte, reduceEqDiff, reduceAdd, reduceSub, reduceLeDiff, reduceCtorEq, ↓mapUpdateV, ↓makeMapV, keyOk, keyCells, Tag.cap, GVal.solid, Nat.reduceBEq, reduceMul, reduceLT, vcA, ↓vcB, vcC, fbFy, e41, vcD]
        refine (cD v).mono ?_
        rintro g O' ⟨rfl, rfl⟩
        simp +contextual -implicitDefEqProofs (maxSteps := 2000000) (disch := omega) only [↓lenV, binV, optV, ↓loadV, ↓storeV, ↓indexAddrV, ↓allocV, ↓sliceV, bound, cutTag, hiTag, GVal.cells, GVal.ofConst, ↓resV, resG, ↓reduceIte, reduceEqDiff, reduceAdd, reduceSub, reduceLeDiff, reduceCtorEq, ↓mapUpdateV, ↓makeMapV, keyOk, keyCells, Tag.cap, GVal.solid, Nat.reduceBEq, reduceMul, reduceLT, vcA, ↓vcB, vcC, fbFy, e41, vcD]
        exact .inr ⟨v, 32, _, [.map s (kvG encB (setM (setAll gone))), .row sb 1 [[.map 0 s]]], by rw [hsG_len]; rfl, rfl, frz_hs _ 1 _, _, [], _, rfl, leA_refl _, rfl, rfl⟩
end Gv.Tryz
/- Contracts: order's push and step, where the function that tells who is done reads two objects more. -/
set_option linter.unusedVariables false
set_option linter.unusedSimpArgs false
set_option maxRecDepth 20000
set_option maxHeartbeats 4000000
namespace Gv.Tryz
open Go Gv Go.Proofs
open Nat (reduceEqDiff reduceAdd reduceSub reduceLeDiff reduceMul reduceLT)
abbrev wObjZ (y1 y2 : GObj) (st s : Nat) (m : GM) (sq sw sv so n : Nat) (dg : GVal) (K Z : List Cm) (S out : List Hs) : List GObj :=
  [.row st 1 [[.map 1 s]], .map s (kvG encL m), y1, y2, .map sq (kvG encB (setM S)), .row sw 5 [[.ptr 0 st 0 0, dg, .map 4 sq, .own 6 sv 0 n, .slice (hsG out) (.tok 7 so)]], .row sv 33 (csG (K ++ Z)), .tok so 32]
abbrev DoneZ (y1 y2 : GObj) (st s : Nat) (m : GM) (F : FuncId) (fr : GVal) (h : Hs) (b : Bool) : Prop := ∀ X : List GObj, GCalls Tryz.prog F [fr, .agg (bytesG h.1)] (.row st 1 [[.map 1 s]] :: .map s (kvG encL m) :: y1 :: y2 :: X) (fun g O' => g = .bool b ∧ O' = .row st 1 [[.map 1 s]] :: .map s (kvG encL m) :: y1 :: y2 :: X)
theorem gPush1Z (y1 y2 : GObj) (m : GM) (hm : GMOK m) (h : Hs) (st s sq sw sv so n : Nat) (dg : GVal) (K Z : List Cm) (S out : List Hs) (hl : look m h = none) (hn : n = K.length) :
    GCalls Tryz.prog 73 [.ptr 5 sw 0 0, .agg (bytesG h.1)] (wObjZ y1 y2 st s m sq sw sv so n dg K Z S out) (fun g O' => g = .tuple [] ∧ O' = wObjZ y1 y2 st s m sq sw sv so n dg K Z S out) := by
  subst hn
  have c := fun X => gParK m h st s (by have := hm.pars h; omega) X
  simp only [hl, Option.isSome_none] at c
  refine h73.calls mixS (by simp) ?_
  simp only [gstart, s73, List.cons_append, List.nil_append, List.length_cons, List.length_nil, reduceAdd, reduceSub, List.replicate_succ, List.replicate_zero]
  simp +contextual -implicitDefEqProofs (maxSteps := 2000000) (disch := omega) only [drawC, drawK, keepT, binV, ↓unV, ↓loadV, ↓storeV, ↓fieldAddrV, ↓boxV, ↓buildV, ↓buildSliceV, ↓nilV, ↓appendV, ↓srcV, fillG, fillE, place, GVal.cells, GVal.ofConst, ↓resV, resG, ↓reduceIte, reduceEqDiff, reduceAdd, reduceSub, reduceLeDiff, reduceCtorEq, ↓asrcV, ↓lookupV, ↓mapUpdateV, keyOk, keyCells, pairG, aggV, Tag.cap, GVal.solid, Nat.reduceBEq, reduceMul, reduceLT, vcA, ↓vcB, vcC, fbFy, e73, vcD, v32]
  refine (c _).mono ?_
  rintro g O' ⟨rfl, rfl⟩
  simp +contextual -implicitDefEqProofs (maxSteps := 2000000) (disch := omega) only [drawC, drawK, keepT, binV, ↓unV, ↓loadV, ↓storeV, ↓fieldAddrV, ↓boxV, ↓buildV, ↓buildSliceV, ↓nilV, ↓appendV, ↓srcV, fillG, fillE, place, GVal.cells, GVal.ofConst, ↓resV, resG, ↓reduceIte, reduceEqDiff, reduceAdd, reduceSub, reduceLeDiff, reduceCtorEq, ↓asrcV, ↓lookupV, ↓mapUpdateV, keyOk, keyCells, pairG, aggV, Tag.cap, GVal.solid, Nat.reduceBEq, reduceMul, reduceLT, vcA, ↓vcB, vcC, fbFy, e73, setO_3, setO_4, setO_5, setO_6, setO_7, setO_8, kfind_h, vcD, v32]
theorem gPush2Z (y1 y2 : GObj) (m : GM) (hm : GMOK m) (h : Hs) (st s sq sw sv so n : Nat) (dg : GVal) (K Z : List Cm) (S out : List Hs) (l : List Hs) (hl : look m h = some l) (hS : h ∈ S) (hn : n = K.length) :
    GCalls Tryz.prog 73 [.ptr 5 sw 0 0, .agg (bytesG h.1)] (wObjZ y1 y2 st s m sq sw sv so n dg K Z S out) (fun g O' => g = .tuple [] ∧ O' = wObjZ y1 y2 st s m sq sw sv so n dg K Z S out) := by
  subst hn
  have c := fun X => gParK m h st s (by have := hm.pars h; omega) X
  simp only [hl, Option.isSome_some, parsM_some hl] at c
  obtain ⟨i, hi, hv, _⟩ := look_idx encB (setM S) h true (by rw [look_set, if_pos hS])
  refine h73.calls mixS (by simp) ?_
  simp only [gstart, s73, List.cons_append, List.nil_append, List.length_cons, List.length_nil, reduceAdd, reduceSub, List.replicate_succ, List.replicate_zero]
  simp +contextual -implicitDefEqProofs (maxSteps := 2000000) (disch := omega) only [drawC, drawK, keepT, binV, ↓unV, ↓loadV, ↓storeV, ↓fieldAddrV, ↓boxV, ↓buildV, ↓buildSliceV, ↓nilV, ↓appendV, ↓srcV, fillG, fillE, place, GVal.cells, GVal.ofConst, ↓resV, resG, ↓reduceIte, reduceEqDiff, reduceAdd, reduceSub, reduceLeDiff, reduceCtorEq, ↓asrcV, ↓lookupV, ↓mapUpdateV, keyOk, keyCells, pairG, aggV, Tag.cap, GVal.solid, Nat.reduceBEq, reduceMul, reduceLT, vcA, ↓vcB, vcC, fbFy, e73, vcD, v32]
  refine (c _).mono ?_
  rintro g O' ⟨rfl, rfl⟩
  simp +contextual -implicitDefEqProofs (maxSteps := 2000000) (disch := omega) only [drawC, drawK, keepT, binV, ↓unV, ↓loadV, ↓storeV, ↓fieldAddrV, ↓boxV, ↓buildV, ↓buildSliceV, ↓nilV, ↓appendV, ↓srcV, fillG, fillE, place, GVal.cells, GVal.ofConst, ↓resV, resG, ↓reduceIte, reduceEqDiff, reduceAdd, reduceSub, reduceLeDiff, reduceCtorEq, ↓asrcV, ↓lookupV, ↓mapUpdateV, keyOk, keyCells, pairG, aggV, Tag.cap, GVal.solid, Nat.reduceBEq, reduceMul, reduceLT, vcA, ↓vcB, vcC, fbFy, e73, setO_3, setO_4, setO_5, setO_6, setO_7, setO_8, kfind_h, hi, hv, vcD, v32]
theorem gPush3Z (y1 y2 : GObj) (m : GM) (hm : GMOK m) (h : Hs) (st s sq sw sv so n : Nat) (F : FuncId) (fr : GVal) (K Z : List Cm) (S out : List Hs) (l : List Hs) (hl : look m h = some l) (hS : h ∉ S) (hF : DoneZ y1 y2 st s m F fr h true) (hn : n = K.length) :
    GCalls Tryz.prog 73 [.ptr 5 sw 0 0, .agg (bytesG h.1)] (wObjZ y1 y2 st s m sq sw sv so n (.func (.func F) [fr] []) K Z S out) (fun g O' => g = .tuple [] ∧ O' = wObjZ y1 y2 st s m sq sw sv so n (.func (.func F) [fr] []) K Z S out) := by
  subst hn
  have c := fun X => gParK m h st s (by have := hm.pars h; omega) X
  simp only [hl, Option.isSome_some, parsM_some hl] at c
  obtain ⟨hi, hw⟩ := look_none encB (setM S) h (by rw [look_set, if_neg hS])
  have hw := hw true
  rw [mset_set S h hS] at hw
  refine h73.calls mixS (by simp) ?_
  simp only [gstart, s73, List.cons_append, List.nil_append, List.length_cons, List.length_nil, reduceAdd, reduceSub, List.replicate_succ, List.replicate_zero]
  simp +contextual -implicitDefEqProofs (maxSteps := 2000000) (disch := omega) only [drawC, drawK, keepT, binV, ↓unV, ↓loadV, ↓storeV, ↓fieldAddrV, ↓boxV, ↓buildV, ↓buildSliceV, ↓nilV, ↓appendV, ↓srcV, fillG, fillE, place, GVal.cells, GVal.ofConst, ↓resV, resG, ↓reduceIte, reduceEqDiff, reduceAdd, reduceSub, reduceLeDiff, reduceCtorEq, ↓asrcV, ↓lookupV, ↓mapUpdateV, keyOk, keyCells, pairG, aggV, Tag.cap, GVal.solid, Nat.reduceBEq, reduceMul, reduceLT, vcA, ↓vcB, vcC, fbFy, e73, vcD, v32]
  refine (c _).mono ?_
  rintro g O' ⟨rfl, rfl⟩
  simp +contextual -implicitDefEqProofs (maxSteps := 2000000) (disch := omega) only [drawC, drawK, keepT, binV, ↓unV, ↓loadV, ↓storeV, ↓fieldAddrV, ↓boxV, ↓buildV, ↓buildSliceV, ↓nilV, ↓appendV, ↓srcV, fillG, fillE, place, GVal.cells, GVal.ofConst, ↓resV, resG, ↓reduceIte, reduceEqDiff, reduceAdd, reduceSub, reduceLeDiff, reduceCtorEq, ↓asrcV, ↓lookupV, ↓mapUpdateV, keyOk, keyCells, pairG, aggV, Tag.cap, GVal.solid, Nat.reduceBEq, reduceMul, reduceLT, vcA, ↓vcB, vcC, fbFy, e73, setO_3, setO_4, setO_5, setO_6, setO_7, setO_8, kfind_h, hi, hw, vcD, v32]
  refine (hF _).mono ?_
  rintro g O' ⟨rfl, rfl⟩
  simp +contextual -implicitDefEqProofs (maxSteps := 2000000) (disch := omega) only [drawC, drawK, keepT, binV, ↓unV, ↓loadV, ↓storeV, ↓fieldAddrV, ↓boxV, ↓buildV, ↓buildSliceV, ↓nilV, ↓appendV, ↓srcV, fillG, fillE, place, GVal.cells, GVal.ofConst, ↓resV, resG, ↓reduceIte, reduceEqDiff, reduceAdd, reduceSub, reduceLeDiff, reduceCtorEq, ↓asrcV, ↓lookupV, ↓mapUpdateV, keyOk, keyCells, pairG, aggV, Tag.cap, GVal.solid, Nat.reduceBEq, reduceMul, reduceLT, vcA, ↓vcB, vcC, fbFy, e73, setO_3, setO_4, setO_5, setO_6, setO_7, setO_8, kfind_h, csG_len, all_csG, hi, hw, vcD, v33, v32]
theorem gPush4Z (y1 y2 : GObj) (m : GM) (hm : GMOK m) (h : Hs) (st s sq sw sv so n : Nat) (F : FuncId) (fr : GVal) (K Z : List Cm) (S out : List Hs) (l : List Hs) (hl : look m h = some l) (hS : h ∉ S) (hF : DoneZ y1 y2 st s m F fr h false) (hK : K.length ≤ 1000000) (hn : n = K.length) :
    GCalls Tryz.prog 73 [.ptr 5 sw 0 0, .agg (bytesG h.1)] (wObjZ y1 y2 st s m sq sw sv so n (.func (.func F) [fr] []) K Z S out) (fun g O' => ∃ sv', g = .tuple [] ∧ O' = wObjZ y1 y2 st s m sq sw sv' so (n + 1) (.func (.func F) [fr] []) (K ++ [(h, l)]) [] (S ++ [h]) out) := by
  subst hn
  have c := fun X => gParK m h st s (by have := hm.pars h; omega) X
  simp only [hl, Option.isSome_some, parsM_some hl] at c
  obtain ⟨hi, hw⟩ := look_none encB (setM S) h (by rw [look_set, if_neg hS])
  have hw := hw true
  rw [mset_set S h hS] at hw
  refine h73.calls mixS (by simp) ?_
  simp only [gstart, s73, List.cons_append, List.nil_append, List.length_cons, List.length_nil, reduceAdd, reduceSub, List.replicate_succ, List.replicate_zero]
  simp +contextual -implicitDefEqProofs (maxSteps := 2000000) (disch := omega) only [drawC, drawK, keepT, binV, ↓unV, ↓loadV, ↓storeV, ↓fieldAddrV, ↓boxV, ↓buildV, ↓buildSliceV, ↓nilV, ↓appendV, ↓srcV, fillG, fillE, place, GVal.cells, GVal.ofConst, ↓resV, resG, ↓reduceIte, reduceEqDiff, reduceAdd, reduceSub, reduceLeDiff, reduceCtorEq, ↓asrcV, ↓lookupV, ↓mapUpdateV, keyOk, keyCells, pairG, aggV, Tag.cap, GVal.solid, Nat.reduceBEq, reduceMul, reduceLT, vcA, ↓vcB, vcC, fbFy, e73, vcD, v32]
  refine (c _).mono ?_
  rintro g O' ⟨rfl, rfl⟩
  simp +contextual -implicitDefEqProofs (maxSteps := 2000000) (disch := omega) only [drawC, drawK, keepT, binV, ↓unV, ↓loadV, ↓storeV, ↓fieldAddrV, ↓boxV, ↓buildV, ↓buildSliceV, ↓nilV, ↓appendV, ↓srcV, fillG, fillE, place, GVal.cells, GVal.ofConst, ↓resV, resG, ↓reduceIte, reduceEqDiff, reduceAdd, reduceSub, reduceLeDiff, reduceCtorEq, ↓asrcV, ↓lookupV, ↓mapUpdateV, keyOk, keyCells, pairG, aggV, Tag.cap, GVal.solid, Nat.reduceBEq, reduceMul, reduceLT, vcA, ↓vcB, vcC, fbFy, e73, setO_3, setO_4, setO_5, setO_6, setO_7, setO_8, kfind_h, hi, hw, vcD, v32]
  refine (hF _).mono ?_
  rintro g O' ⟨rfl, rfl⟩
  simp +contextual -implicitDefEqProofs (maxSteps := 2000000) (disch := omega) only [drawC, drawK, keepT, binV, ↓unV, ↓loadV, ↓storeV, ↓fieldAddrV, ↓boxV, ↓buildV, ↓buildSliceV, ↓nilV, ↓appendV, ↓srcV, fillG, fillE, place, GVal.cells, GVal.ofConst, ↓resV, resG, ↓reduceIte, reduceEqDiff, reduceAdd, reduceSub, reduceLeDiff, reduceCtorEq, ↓asrcV, ↓lookupV, ↓mapUpdateV, keyOk, keyCells, pairG, aggV, Tag.cap, GVal.solid, Nat.reduceBEq, reduceMul, reduceLT, vcA, ↓vcB, vcC, fbFy, e73, setO_3, setO_4, setO_5, setO_6, setO_7, setO_8, kfind_h, csG_len, all_csG, hi, hw, vcD, v33, v32]
  refine ⟨by simp, by omega, by omega, fun v => ⟨v, ?_⟩⟩
  rw [take_csG]
  simp [csG_app, csG_one, comG]
theorem gPushZ (y1 y2 : GObj) (m : GM) (hm : GMOK m) (h : Hs) (st s sq sw sv so n : Nat) (F : FuncId) (fr : GVal) (dn : Hs → Bool) (hd : ∀ h, DoneZ y1 y2 st s m F fr h (dn h)) (K Z : List Cm) (S out : List Hs) (hK : K.length ≤ 1000000) (hn : n = K.length) :
    GCalls Tryz.prog 73 [.ptr 5 sw 0 0, .agg (bytesG h.1)] (wObjZ y1 y2 st s m sq sw sv so n (.func (.func F) [fr] []) K Z S out) (fun g O' => ∃ sv' Z', g = .tuple [] ∧ O' = if pushed m dn S h = true then wObjZ y1 y2 st s m sq sw sv' so (n + 1) (.func (.func F) [fr] []) (K ++ [(h, parsM m h)]) Z' (S ++ [h]) out else wObjZ y1 y2 st s m sq sw sv' so n (.func (.func F) [fr] []) K Z' S out) := by
  have stay : pushed m dn S h = false → GCalls Tryz.prog 73 [.ptr 5 sw 0 0, .agg (bytesG h.1)] (wObjZ y1 y2 st s m sq sw sv so n (.func (.func F) [fr] []) K Z S out) (fun g O' => g = .tuple [] ∧ O' = wObjZ y1 y2 st s m sq sw sv so n (.func (.func F) [fr] []) K Z S out) →
      GCalls Tryz.prog 73 [.ptr 5 sw 0 0, .agg (bytesG h.1)] (wObjZ y1 y2 st s m sq sw sv so n (.func (.func F) [fr] []) K Z S out) (fun g O' => ∃ sv' Z', g = .tuple [] ∧ O' = if pushed m dn S h = true then wObjZ y1 y2 st s m sq sw sv' so (n + 1) (.func (.func F) [fr] []) (K ++ [(h, parsM m h)]) Z' (S ++ [h]) out else wObjZ y1 y2 st s m sq sw sv' so n (.func (.func F) [fr] []) K Z' S out) := fun hp hc => by
    rw [hp]
    refine hc.mono ?_
    rintro g O' ⟨rfl, rfl⟩
    exact ⟨sv, Z, rfl, by rw [if_neg (by simp)]⟩
  cases hl : look m h with
  | none => exact stay (by unfold pushed; rw [hl]; rfl) (gPush1Z y1 y2 m hm h st s sq sw sv so n (.func (.func F) [fr] []) K Z S out hl hn)
  | some l =>
    rw [parsM_some hl]
    rw [parsM_some hl] at stay
    by_cases hS : h ∈ S
    · exact stay (by unfold pushed; rw [hl]; simp [hS]) (gPush2Z y1 y2 m hm h st s sq sw sv so n (.func (.func F) [fr] []) K Z S out l hl hS hn)
    · have hF := hd h
      cases hb : dn h with
      | true =>
        rw [hb] at hF
        exact stay (by unfold pushed; rw [hl, hb]; simp) (gPush3Z y1 y2 m hm h st s sq sw sv so n F fr K Z S out l hl hS hF hn)
      | false =>
        rw [hb] at hF
        have hp : pushed m dn S h = true := by unfold pushed; rw [hl, hb]; simp [hS]
        rw [hp]
        refine (gPush4Z y1 y2 m hm h st s sq sw sv so n F fr K Z S out l hl hS hF hK hn).mono ?_
        rintro g O' ⟨sv', rfl, rfl⟩
        exact ⟨sv', [], rfl, by rw [if_pos rfl]⟩
theorem gStep1Z (y1 y2 : GObj) (m : GM) (hm : GMOK m) (st s sq sw sv so n : Nat) (F : FuncId) (fr : GVal) (dn : Hs → Bool) (hd : ∀ h, DoneZ y1 y2 st s m F fr h (dn h)) (K Z : List Cm) (x p : Hs) (r S out : List Hs) (hK : K.length ≤ 999999) (hn : n = K.length) :
    GCalls Tryz.prog 74 [.ptr 5 sw 0 0] (wObjZ y1 y2 st s m sq sw sv so (n + 1) (.func (.func F) [fr] []) (K ++ [(x, p :: r)]) Z S out) (fun g O' => ∃ sv' Z', g = .tuple [] ∧ O' = if pushed m dn S p = true then wObjZ y1 y2 st s m sq sw sv' so (n + 2) (.func (.func F) [fr] []) (K ++ [(x, r)] ++ [(p, parsM m p)]) Z' (S ++ [p]) out else wObjZ y1 y2 st s m sq sw sv' so (n + 1) (.func (.func F) [fr] []) (K ++ [(x, r)]) Z' S out) := by
  subst hn
  have eS : (csG (K ++ [(x, p :: r)] ++ Z)).getD K.length [] = bytesG x.1 ++ [.slice (hsG (p :: r)) .none] := by
    rw [csG_at _ _ (by simp)]
    simp [List.getD, comG]
  have d1 : ((K.length : Int) + 1 - 1).toNat = K.length := by omega
  have eH : (hsG (p :: r)).getD 0 [] = bytesG p.1 := rfl
  have d2 : ((0 : Int) < (r.length : Int) + 1) = True := eq_true (by omega)
  have eD : List.drop (Int.toNat 1) (List.take ((r.length : Int) + 1).toNat (hsG (p :: r))) = hsG r := by
    have e : ((r.length : Int) + 1).toNat = (hsG (p :: r)).length := by rw [hsG_len]; simp
    rw [e, List.take_length]; rfl
  have eW : (csG (K ++ [(x, p :: r)] ++ Z)).set K.length (bytesG x.1 ++ [.slice (hsG r) .none]) = csG (K ++ [(x, r)] ++ Z) := by
    rw [csG_app, csG_app, csG_app, csG_app, List.append_assoc, List.set_append_right _ _ (by rw [csG_len]; omega), csG_len, Nat.sub_self, List.append_assoc]
    rfl
  have cP := gPushZ y1 y2 m hm p st s sq sw sv so (K.length + 1) F fr dn hd (K ++ [(x, r)]) Z S out (by simp; omega) (by simp)
  refine GCalls.dropTo ?_
  refine h74.calls mixS (by simp) ?_
  simp only [gstart, s74, List.cons_append, List.nil_append, List.length_cons, List.length_nil, reduceAdd, reduceSub, List.replicate_succ, List.replicate_zero]
  simp +contextual -implicitDefEqProofs (maxSteps := 2000000) (disch := omega) only [drawC, drawK, keepT, ↓lenV, binV, optV, ↓loadV, ↓storeV, ↓fieldAddrV, ↓indexAddrV, ↓allocV, ↓buildSliceV, ↓sliceV, ↓nilV, ↓appendV, ↓srcV, bound, cutTag, hiTag, fillE, GVal.cells, GVal.ofConst, ↓resV, resG, ↓reduceIte, reduceEqDiff, reduceAdd, reduceSub, reduceLeDiff, reduceCtorEq, ↓asrcV, Tag.cap, GVal.solid, Nat.reduceBEq, reduceMul, reduceLT, vcA, ↓vcB, vcC, fbFy, e74, kfind_h, csG_len, all_csG, eS, eH, d1, d2, eD, eW, all_hsG, toNat0, setO_3, setO_4, setO_5, setO_6, setO_7, setO_8, true_imp_iff, Nat.sub_zero, List.drop_zero, hsG_len, List.length_append, List.length_cons, List.length_nil, List.length_singleton, vcD, v33, v32]
  refine ⟨by omega, by omega, by omega, by omega, by omega, by omega, fun u => ⟨by omega, by omega, by omega, by omega, by omega, ?_⟩⟩
  refine (GCalls.tail cP (by rintro g O' ⟨_, _, rfl, rfl⟩; split <;> exact ⟨rfl, by simp⟩) rfl (by simp) [.row u 32 [bytesG p.1]]).mono ?_
  rintro g O' ⟨_, ⟨sv', Z', rfl, rfl⟩, rfl⟩
  simp +contextual -implicitDefEqProofs (maxSteps := 2000000) (disch := omega) only [drawC, drawK, keepT, ↓lenV, binV, optV, ↓loadV, ↓storeV, ↓fieldAddrV, ↓indexAddrV, ↓allocV, ↓buildSliceV, ↓sliceV, ↓nilV, ↓appendV, ↓srcV, bound, cutTag, hiTag, fillE, GVal.cells, GVal.ofConst, ↓resV, resG, ↓reduceIte, reduceEqDiff, reduceAdd, reduceSub, reduceLeDiff, reduceCtorEq, ↓asrcV, Tag.cap, GVal.solid, Nat.reduceBEq, reduceMul, reduceLT, vcA, ↓vcB, vcC, fbFy, e74, vcD]
  exact ⟨_, _, _, rfl, leA_refl _, sv', Z', rfl, rfl⟩
theorem gStep0Z (y1 y2 : GObj) (m : GM) (st s sq sw sv so n : Nat) (dg : GVal) (K Z : List Cm) (x : Hs) (S out : List Hs) (hK : K.length ≤ 999999) (ho : out.length ≤ 1000000) (hn : n = K.length) :
    GCalls Tryz.prog 74 [.ptr 5 sw 0 0] (wObjZ y1 y2 st s m sq sw sv so (n + 1) dg (K ++ [(x, [])]) Z S out) (fun g O' => ∃ so', g = .tuple [] ∧ O' = wObjZ y1 y2 st s m sq sw sv so' n dg K ((x, []) :: Z) S (out ++ [x])) := by
  subst hn
  have eS : (csG (K ++ [(x, [])] ++ Z)).getD K.length [] = bytesG x.1 ++ [.slice (hsG []) .none] := by
    rw [csG_at _ _ (by simp)]
    simp [List.getD, comG]
  have d1 : ((K.length : Int) + 1 - 1).toNat = K.length := by omega
  refine h74.calls mixS (by simp) ?_
  simp only [gstart, s74, List.cons_append, List.nil_append, List.length_cons, List.length_nil, reduceAdd, reduceSub, List.replicate_succ, List.replicate_zero]
  simp +contextual -implicitDefEqProofs (maxSteps := 2000000) (disch := omega) only [drawC, drawK, keepT, ↓lenV, binV, optV, ↓loadV, ↓storeV, ↓fieldAddrV, ↓indexAddrV, ↓allocV, ↓buildSliceV, ↓sliceV, ↓nilV, ↓appendV, ↓srcV, bound, cutTag, hiTag, fillE, GVal.cells, GVal.ofConst, ↓resV, resG, ↓reduceIte, reduceEqDiff, reduceAdd, reduceSub, reduceLeDiff, reduceCtorEq, ↓asrcV, Tag.cap, GVal.solid, Nat.reduceBEq, reduceMul, reduceLT, vcA, ↓vcB, vcC, fbFy, e74, kfind_h, csG_len, all_csG, eS, d1, toNat0, setO_3, setO_4, setO_5, setO_6, setO_7, setO_8, Int.lt_irrefl, false_imp_iff, true_and, Nat.sub_zero, List.drop_zero, hsG_len, all_hsG, List.length_append, List.length_cons, List.length_nil, List.length_singleton, vcD, v33, v32]
  refine ⟨by omega, by omega, by omega, by omega, by omega, by omega, by omega, fun so' => ⟨by omega, by omega, by omega, so', ?_⟩⟩
  simp [hsG_app, hsG]
end Gv.Tryz
/- Contracts: order's Walk, where the function that tells who is done reads two objects more. -/
set_option linter.unusedVariables false
set_option linter.unusedSimpArgs false
set_option maxRecDepth 20000
set_option maxHeartbeats 4000000
namespace Gv.Tryz
open Go Gv Go.Proofs
open Nat (reduceEqDiff reduceAdd reduceSub reduceLeDiff reduceMul reduceLT)
theorem gWalkZ (y1 y2 : GObj) (m : GM) (hm : GMOK m) (hs : List Hs) (th : Tag) (st s : Nat) (F : FuncId) (fr : GVal) (dn : Hs → Bool) (hF : ∀ h : Hs, DoneZ y1 y2 st s m F fr h (dn h)) (T : WSt) (hT : VisL m dn hs ([], []) T) (hl : hs.length ≤ 1000000) :
    GCalls Tryz.prog 38 [.ptr 0 st 0 0, .slice (hsG hs) th, (.func (.func F) [fr] [])] (gObj st s m ++ [y1, y2]) (fun g O' => g = .slice (hsG T.2) .none ∧ O' = gObj st s m ++ [y1, y2]) := by
  have hml := hm.len
  have hd := hF
  refine GCalls.dropTo ?_
  refine h38.calls mixS (by simp) ?_
  simp only [gstart, s38, List.cons_append, List.nil_append, List.length_cons, List.length_nil, reduceAdd, reduceSub, List.replicate_succ, List.replicate_zero]
  simp +contextual -implicitDefEqProofs (maxSteps := 2000000) (disch := omega) only [↓lenV, binV, optV, ↓loadV, ↓storeV, ↓fieldAddrV, ↓indexAddrV, ↓allocV, ↓boxV, ↓buildV, ↓sliceV, ↓nilV, bound, cutTag, hiTag, fillG, place, GVal.cells, GVal.ofConst, ↓resV, resG, ↓reduceIte, reduceEqDiff, reduceAdd, reduceSub, reduceLeDiff, reduceCtorEq, ↓makeMapV, aggV, Tag.cap, GVal.solid, Nat.reduceBEq, reduceMul, reduceLT, vcA, ↓vcB, vcC, fbFy, e38, hsG_len, vcD]
  refine fun sq => ⟨⟨rfl, rfl, rfl⟩, fun sw => ?_⟩
  refine vcSLoop_by (ι := { p : ((Nat × List Cm) × (List Hs × List Hs)) × (Nat × Nat) // p.1.1.1 ≤ hs.length ∧ VisL m dn (hs.drop p.1.1.1) p.1.2 T ∧ SInv m p.1.2.1 p.1.2.2 0 }) (fun p => ⟨[.ptr 0 st 0 0, .slice (hsG hs) th, (.func (.func F) [fr] [])] ++ List.replicate 4 .any ++ [.ptr 5 sw 0 0] ++ List.replicate 9 .any ++ [.slice (hsG hs) th, .int .i64 hs.length, .int .i64 (p.1.1.1.1 : Nat)] ++ List.replicate 19 .any, wObjZ y1 y2 st s m sq sw p.1.2.1 p.1.2.2 0 (.func (.func F) [fr] []) [] p.1.1.1.2 p.1.1.2.1 p.1.1.2.2⟩) (fun p => hs.length - p.1.1.1.1) ?_ ?_
  · refine Into.cellRow 5 3 33 rfl rfl rfl rfl ?_
    simp +contextual -implicitDefEqProofs (maxSteps := 2000000) (disch := omega) only [↓lenV, binV, optV, ↓loadV, ↓storeV, ↓fieldAddrV, ↓indexAddrV, ↓allocV, ↓boxV, ↓buildV, ↓sliceV, ↓nilV, bound, cutTag, hiTag, fillG, place, GVal.cells, GVal.ofConst, ↓resV, resG, ↓reduceIte, reduceEqDiff, reduceAdd, reduceSub, reduceLeDiff, reduceCtorEq, ↓makeMapV, aggV, Tag.cap, GVal.solid, Nat.reduceBEq, reduceMul, reduceLT, vcA, ↓vcB, vcC, fbFy, e38, vcD]
    intro sv
    refine Into.cellTok 5 4 32 [] rfl rfl rfl rfl ?_
    simp +contextual -implicitDefEqProofs (maxSteps := 2000000) (disch := omega) only [↓lenV, binV, optV, ↓loadV, ↓storeV, ↓fieldAddrV, ↓indexAddrV, ↓allocV, ↓boxV, ↓buildV, ↓sliceV, ↓nilV, bound, cutTag, hiTag, fillG, place, GVal.cells, GVal.ofConst, ↓resV, resG, ↓reduceIte, reduceEqDiff, reduceAdd, reduceSub, reduceLeDiff, reduceCtorEq, ↓makeMapV, aggV, Tag.cap, GVal.solid, Nat.reduceBEq, reduceMul, reduceLT, vcA, ↓vcB, vcC, fbFy, e38, vcD]
    intro so
    exact Into.first ⟨(((0, []), ([], [])), (sv, so)), by show 0 ≤ _; omega, by simpa using hT, ⟨List.nodup_nil, by simp, by simp⟩⟩ ⟨[], rfl⟩ (by simp [WL, leG_self, leG_any, hsG_len])
  · rintro ⟨⟨⟨⟨k, Z⟩, ⟨S, out⟩⟩, ⟨sv, so⟩⟩, hk, hV, hI⟩
    change k ≤ hs.length at hk
    change VisL m dn (hs.drop k) (S, out) T at hV
    change SInv m S out 0 at hI
    have hSm := hI.le
    have hOl := hI.len
    by_cases h : k < hs.length
    · have d0 : ((k : Int) < (hs.length : Int)) = True := eq_true (by omega)
      have eS := hsG_at hs k h
      rw [dropH h] at hV
      generalize hs.getD k h0 = x at *
      have cP := gPushZ y1 y2 m hm x st s sq sw sv so 0 F fr dn hd [] Z S out (by simp) rfl
      simp +contextual -implicitDefEqProofs (maxSteps := 2000000) (disch := omega) only [↓lenV, binV, optV, ↓loadV, ↓storeV, ↓fieldAddrV, ↓indexAddrV, ↓allocV, ↓boxV, ↓buildV, ↓sliceV, ↓nilV, bound, cutTag, hiTag, fillG, place, GVal.cells, GVal.ofConst, ↓resV, resG, ↓reduceIte, reduceEqDiff, reduceAdd, reduceSub, reduceLeDiff, reduceCtorEq, ↓makeMapV, aggV, Tag.cap, GVal.solid, Nat.reduceBEq, reduceMul, reduceLT, vcA, ↓vcB, vcC, fbFy, e38, setO_3, setO_4, setO_5, setO_6, setO_7, setO_8, hsG_len, d0, eS, vcD, v32]
      refine ⟨by omega, fun u => ?_⟩
      refine (GCalls.tail cP (by rintro g O' ⟨_, _, rfl, rfl⟩; split <;> exact ⟨rfl, by simp⟩) rfl (by simp) [.row u 32 [bytesG x.1]]).mono ?_
      rintro g O' ⟨_, ⟨sv2, Z2, rfl, rfl⟩, rfl⟩
      have hT1 : ∃ T1, VisL m dn (hs.drop (k + 1)) T1 T ∧ (if pushed m dn S x = true then FinS m dn [(x, parsM m x)] (S ++ [x], out) T1 else T1 = (S, out)) := by
        cases hp : pushed m dn S x with
        | false => exact ⟨_, hV.inv_skip hp, by rw [if_neg (by simp)]⟩
        | true =>
          obtain ⟨so1, hV1, hV2⟩ := hV.inv_go hp
          exact ⟨_, hV2, by rw [if_pos rfl]; exact ⟨so1, hV1, rfl⟩⟩
      obtain ⟨T1, hV2, hF⟩ := hT1
      simp +contextual -implicitDefEqProofs (maxSteps := 2000000) (disch := omega) only [↓lenV, binV, optV, ↓loadV, ↓storeV, ↓fieldAddrV, ↓indexAddrV, ↓allocV, ↓boxV, ↓buildV, ↓sliceV, ↓nilV, bound, cutTag, hiTag, fillG, place, GVal.cells, GVal.ofConst, ↓resV, resG, ↓reduceIte, reduceEqDiff, reduceAdd, reduceSub, reduceLeDiff, reduceCtorEq, ↓makeMapV, aggV, Tag.cap, GVal.solid, Nat.reduceBEq, reduceMul, reduceLT, vcA, ↓vcB, vcC, fbFy, e38, setO_3, setO_4, setO_5, setO_6, setO_7, setO_8, vcD, v32]
      refine vcSLoop_by (ι := { p : ((List Cm × List Cm) × (List Hs × List Hs)) × (Nat × Nat) // FinS m dn p.1.1.1.reverse p.1.2 T1 ∧ SInv m p.1.2.1 p.1.2.2 p.1.1.1.length }) (fun p => ⟨[.ptr 0 st 0 0, .slice (hsG hs) th, (.func (.func F) [fr] [])] ++ List.replicate 4 .any ++ [.ptr 5 sw 0 0] ++ List.replicate 9 .any ++ [.slice (hsG hs) th, .int .i64 hs.length, .int .i64 (k : Nat)] ++ List.replicate 19 .any, wObjZ y1 y2 st s m sq sw p.1.2.1 p.1.2.2 p.1.1.1.1.length (.func (.func F) [fr] []) p.1.1.1.1 p.1.1.1.2 p.1.1.2.1 p.1.1.2.2⟩) (fun p => wMu m p.1.1.2.1 p.1.1.1.1) ?_ ?_
      · cases hp : pushed m dn S x with
        | false =>
          rw [hp, if_neg (by simp)] at hF
          exact Into.first ⟨((([], Z2), (S, out)), (sv2, so)), hF, hI⟩ ⟨[.row u 32 [bytesG x.1]], by rw [if_neg (by simp)]; rfl⟩ (by simp [WL, leG_self, leG_any])
        | true =>
          rw [hp, if_pos rfl] at hF
          exact Into.first ⟨((([(x, parsM m x)], Z2), (S ++ [x], out)), (sv2, so)), hF, hI.push hp⟩ ⟨[.row u 32 [bytesG x.1]], by rw [if_pos rfl]; rfl⟩ (by simp [WL, leG_self, leG_any])
      · rintro ⟨⟨⟨⟨K, Z3⟩, ⟨S3, out3⟩⟩, ⟨sv3, so3⟩⟩, hF3, hI3⟩
        change FinS m dn K.reverse (S3, out3) T1 at hF3
        change SInv m S3 out3 K.length at hI3
        have hS3 := hI3.le
        have hO3 := hI3.len
        rcases List.eq_nil_or_concat K with rfl | ⟨K0, y, e⟩
        · simp +contextual -implicitDefEqProofs (maxSteps := 2000000) (disch := omega) only [↓lenV, binV, optV, ↓loadV, ↓storeV, ↓fieldAddrV, ↓indexAddrV, ↓allocV, ↓boxV, ↓buildV, ↓sliceV, ↓nilV, bound, cutTag, hiTag, fillG, place, GVal.cells, GVal.ofConst, ↓resV, resG, ↓reduceIte, reduceEqDiff, reduceAdd, reduceSub, reduceLeDiff, reduceCtorEq, ↓makeMapV, aggV, Tag.cap, GVal.solid, Nat.reduceBEq, reduceMul, reduceLT, vcA, ↓vcB, vcC, fbFy, e38, setO_3, setO_4, setO_5, setO_6, setO_7, setO_8, Int.lt_irrefl, List.length_nil, Int.natCast_zero, vcD, v32]
          rw [List.reverse_nil] at hF3
          rw [FinS] at hF3
          rw [hF3] at hV2
          exact Into.at ⟨(((k + 1, Z3), (S3, out3)), (sv3, so3)), by show k + 1 ≤ _; omega, hV2, hI3⟩ (by show _ < _; simp; omega) ⟨[], rfl⟩ (by simp [WL, leG_self, leG_any, leG_int])
        · rw [List.concat_eq_append] at e
          subst e
          obtain ⟨y, ps⟩ := y
          rw [List.reverse_append, List.reverse_singleton, List.singleton_append] at hF3
          obtain ⟨so1, hVp, hF4⟩ := hF3
          have dK : ((0 : Int) < (K0.length : Int) + 1) = True := eq_true (by omega)
          have hKl : K0.length + 1 ≤ 10000 := by rw [List.length_append, List.length_singleton] at hO3; omega
          cases ps with
          | nil =>
            have e1 := hVp.inv_nil
            subst e1
            have cS := gStep0Z y1 y2 m st s sq sw sv3 so3 K0.length (.func (.func F) [fr] []) K0 Z3 y S3 out3 (by omega) (by omega) rfl
            simp +contextual -implicitDefEqProofs (maxSteps := 2000000) (disch := omega) only [↓lenV, binV, optV, ↓loadV, ↓storeV, ↓fieldAddrV, ↓indexAddrV, ↓allocV, ↓boxV, ↓buildV, ↓sliceV, ↓nilV, bound, cutTag, hiTag, fillG, place, GVal.cells, GVal.ofConst, ↓resV, resG, ↓reduceIte, reduceEqDiff, reduceAdd, reduceSub, reduceLeDiff, reduceCtorEq, ↓makeMapV, aggV, Tag.cap, GVal.solid, Nat.reduceBEq, reduceMul, reduceLT, vcA, ↓vcB, vcC, fbFy, e38, setO_3, setO_4, setO_5, setO_6, setO_7, setO_8, dK, List.length_append, List.length_cons, List.length_nil, List.length_singleton, vcD, v32]
            refine cS.mono ?_
            rintro g O' ⟨so4, rfl, rfl⟩
            simp +contextual -implicitDefEqProofs (maxSteps := 2000000) (disch := omega) only [↓lenV, binV, optV, ↓loadV, ↓storeV, ↓fieldAddrV, ↓indexAddrV, ↓allocV, ↓boxV, ↓buildV, ↓sliceV, ↓nilV, bound, cutTag, hiTag, fillG, place, GVal.cells, GVal.ofConst, ↓resV, resG, ↓reduceIte, reduceEqDiff, reduceAdd, reduceSub, reduceLeDiff, reduceCtorEq, ↓makeMapV, aggV, Tag.cap, GVal.solid, Nat.reduceBEq, reduceMul, reduceLT, vcA, ↓vcB, vcC, fbFy, e38, setO_3, setO_4, setO_5, setO_6, setO_7, setO_8, vcD, v32]
            refine Into.at ⟨(((K0, (y, []) :: Z3), (S3, out3 ++ [y])), (sv3, so4)), hF4, ⟨hI3.nodup, hI3.keys, ?_⟩⟩ ?_ ⟨[], rfl⟩ (by simp [WL, leG_self, leG_any, leG_int])
            · show (out3 ++ [y]).length + K0.length ≤ S3.length
              rw [List.length_append, List.length_singleton] at hO3 ⊢; omega
            · show wMu m S3 K0 < wMu m S3 (K0 ++ [(y, [])])
              simp [wMu]
          | cons p r =>
            have cS := gStep1Z y1 y2 m hm st s sq sw sv3 so3 K0.length F fr dn hd K0 Z3 y p r S3 out3 (by omega) rfl
            have hpl := hm.pars p
            simp +contextual -implicitDefEqProofs (maxSteps := 2000000) (disch := omega) only [↓lenV, binV, optV, ↓loadV, ↓storeV, ↓fieldAddrV, ↓indexAddrV, ↓allocV, ↓boxV, ↓buildV, ↓sliceV, ↓nilV, bound, cutTag, hiTag, fillG, place, GVal.cells, GVal.ofConst, ↓resV, resG, ↓reduceIte, reduceEqDiff, reduceAdd, reduceSub, reduceLeDiff, reduceCtorEq, ↓makeMapV, aggV, Tag.cap, GVal.solid, Nat.reduceBEq, reduceMul, reduceLT, vcA, ↓vcB, vcC, fbFy, e38, setO_3, setO_4, setO_5, setO_6, setO_7, setO_8, dK, List.length_append, List.length_cons, List.length_nil, List.length_singleton, vcD, v32]
            refine cS.mono ?_
            rintro g O' ⟨sv4, Z4, rfl, rfl⟩
            cases hp : pushed m dn S3 p with
            | false =>
              have hVr := hVp.inv_skip hp
              simp +contextual -implicitDefEqProofs (maxSteps := 2000000) (disch := omega) only [↓lenV, binV, optV, ↓loadV, ↓storeV, ↓fieldAddrV, ↓indexAddrV, ↓allocV, ↓boxV, ↓buildV, ↓sliceV, ↓nilV, bound, cutTag, hiTag, fillG, place, GVal.cells, GVal.ofConst, ↓resV, resG, ↓reduceIte, reduceEqDiff, reduceAdd, reduceSub, reduceLeDiff, reduceCtorEq, ↓makeMapV, aggV, Tag.cap, GVal.solid, Nat.reduceBEq, reduceMul, reduceLT, vcA, ↓vcB, vcC, fbFy, e38, setO_3, setO_4, setO_5, setO_6, setO_7, setO_8, Bool.false_eq_true, if_false, vcD, v32]
              refine Into.at ⟨(((K0 ++ [(y, r)], Z4), (S3, out3)), (sv4, so3)), ?_, ⟨hI3.nodup, hI3.keys, ?_⟩⟩ ?_ ⟨[], by simp⟩ (by simp [WL, leG_self, leG_any, leG_int])
              · show FinS m dn (K0 ++ [(y, r)]).reverse (S3, out3) T1
                rw [List.reverse_append, List.reverse_singleton, List.singleton_append]
                exact ⟨so1, hVr, hF4⟩
              · show out3.length + (K0 ++ [(y, r)]).length ≤ S3.length
                rw [List.length_append, List.length_singleton] at hO3 ⊢; exact hO3
              · show wMu m S3 (K0 ++ [(y, r)]) < wMu m S3 (K0 ++ [(y, p :: r)])
                simp [wMu]
            | true =>
              obtain ⟨so2, hVq, hVr⟩ := hVp.inv_go hp
              have hIp := hI3.push hp
              have hIl := hIp.le
              simp +contextual -implicitDefEqProofs (maxSteps := 2000000) (disch := omega) only [↓lenV, binV, optV, ↓loadV, ↓storeV, ↓fieldAddrV, ↓indexAddrV, ↓allocV, ↓boxV, ↓buildV, ↓sliceV, ↓nilV, bound, cutTag, hiTag, fillG, place, GVal.cells, GVal.ofConst, ↓resV, resG, ↓reduceIte, reduceEqDiff, reduceAdd, reduceSub, reduceLeDiff, reduceCtorEq, ↓makeMapV, aggV, Tag.cap, GVal.solid, Nat.reduceBEq, reduceMul, reduceLT, vcA, ↓vcB, vcC, fbFy, e38, setO_3, setO_4, setO_5, setO_6, setO_7, setO_8, if_true, vcD, v32]
              refine Into.at ⟨(((K0 ++ [(y, r)] ++ [(p, parsM m p)], Z4), (S3 ++ [p], out3)), (sv4, so3)), ?_, ⟨hIp.nodup, hIp.keys, ?_⟩⟩ ?_ ⟨[], by simp⟩ (by simp [WL, leG_self, leG_any, leG_int])
              · show FinS m dn (K0 ++ [(y, r)] ++ [(p, parsM m p)]).reverse (S3 ++ [p], out3) T1
                rw [List.reverse_append, List.reverse_singleton, List.singleton_append, List.reverse_append, List.reverse_singleton, List.singleton_append]
                exact ⟨so2, hVq, so1, hVr, hF4⟩
              · have := hIp.len
                show out3.length + (K0 ++ [(y, r)] ++ [(p, parsM m p)]).length ≤ (S3 ++ [p]).length
                rw [List.length_append, List.length_singleton] at this ⊢
                rw [List.length_append, List.length_singleton] at this ⊢
                rw [List.length_append, List.length_singleton]
                omega
              · show wMu m (S3 ++ [p]) (K0 ++ [(y, r)] ++ [(p, parsM m p)]) < wMu m S3 (K0 ++ [(y, p :: r)])
                rw [List.length_append, List.length_singleton] at hIl
                simp [wMu]
                omega
    · have d0 : ((k : Int) < (hs.length : Int)) = False := eq_false (by omega)
      rw [List.drop_of_length_le (by omega)] at hV
      have eT := hV.inv_nil
      subst eT
      simp +contextual -implicitDefEqProofs (maxSteps := 2000000) (disch := omega) only [↓lenV, binV, optV, ↓loadV, ↓storeV, ↓fieldAddrV, ↓indexAddrV, ↓allocV, ↓boxV, ↓buildV, ↓sliceV, ↓nilV, bound, cutTag, hiTag, fillG, place, GVal.cells, GVal.ofConst, ↓resV, resG, ↓reduceIte, reduceEqDiff, reduceAdd, reduceSub, reduceLeDiff, reduceCtorEq, ↓makeMapV, aggV, Tag.cap, GVal.solid, Nat.reduceBEq, reduceMul, reduceLT, vcA, ↓vcB, vcC, fbFy, e38, setO_3, setO_4, setO_5, setO_6, setO_7, setO_8, d0, vcD, v32]
      exact ⟨.slice (hsG out) .none, gObj st s m ++ [y1, y2], _, rfl, by rw [leA_slice], rfl, rfl⟩
end Gv.Tryz
/- Contracts: order's push and step, where the function that tells who is done reads two objects more. -/
set_option linter.unusedVariables false
set_option linter.unusedSimpArgs false
set_option maxRecDepth 20000
set_option maxHeartbeats 4000000
namespace Gv.Tryz
open Go Gv Go.Proofs
open Nat (reduceEqDiff reduceAdd reduceSub reduceLeDiff reduceMul reduceLT)
abbrev wObjY (y1 y2 : GObj) (st s : Nat) (m : GM) (sq sw sv so n : Nat) (dg : GVal) (K Z : List Cm) (S out : List Hs) : List GObj :=
  [.row st 1 [[.map 1 s]], .map s (kvG encL m), y1, y2, .map sq (kvG encB (setM S)), .row sw 5 [[.ptr 0 st 0 0, dg, .map 4 sq, .own 6 sv 0 n, .slice (hsG out) (.tok 7 so)]], .row sv 33 (csG (K ++ Z)), .tok so 32]
abbrev DoneY (y1 y2 : GObj) (st s : Nat) (m : GM) (F : FuncId) (caps : List GVal) (h : Hs) (b : Bool) : Prop := ∀ X : List GObj, GCalls Tryz.prog F (.agg (bytesG h.1) :: caps) (.row st 1 [[.map 1 s]] :: .map s (kvG encL m) :: y1 :: y2 :: X) (fun g O' => g = .bool b ∧ O' = .row st 1 [[.map 1 s]] :: .map s (kvG encL m) :: y1 :: y2 :: X)
theorem gPush1Y (y1 y2 : GObj) (m : GM) (hm : GMOK m) (h : Hs) (st s sq sw sv so n : Nat) (dg : GVal) (K Z : List Cm) (S out : List Hs) (hl : look m h = none) (hn : n = K.length) :
    GCalls Tryz.prog 73 [.ptr 5 sw 0 0, .agg (bytesG h.1)] (wObjY y1 y2 st s m sq sw sv so n dg K Z S out) (fun g O' => g = .tuple [] ∧ O' = wObjY y1 y2 st s m sq sw sv so n dg K Z S out) := by
  subst hn
  have c := fun X => gParK m h st s (by have := hm.pars h; omega) X
  simp only [hl, Option.isSome_none] at c
  refine h73.calls mixS (by simp) ?_
  simp only [gstart, s73, List.cons_append, List.nil_append, List.length_cons, List.length_nil, reduceAdd, reduceSub, List.replicate_succ, List.replicate_zero]
  simp +contextual -implicitDefEqProofs (maxSteps := 2000000) (disch := omega) only [drawC, drawK, keepT, binV, ↓unV, ↓loadV, ↓storeV, ↓fieldAddrV, ↓boxV, ↓buildV, ↓buildSliceV, ↓nilV, ↓appendV, ↓srcV, fillG, fillE, place, GVal.cells, GVal.ofConst, ↓resV, resG, ↓reduceIte, reduceEqDiff, reduceAdd, reduceSub, reduceLeDiff, reduceCtorEq, ↓asrcV, ↓lookupV, ↓mapUpdateV, keyOk, keyCells, pairG, aggV, Tag.cap, GVal.solid, Nat.reduceBEq, reduceMul, reduceLT, vcA, ↓vcB, vcC, fbFy, e73, vcD, v32]
  refine (c _).mono ?_
  rintro g O' ⟨rfl, rfl⟩
  simp +contextual -implicitDefEqProofs (maxSteps := 2000000) (disch := omega) only [drawC, drawK, keepT, binV, ↓unV, ↓loadV, ↓storeV, ↓fieldAddrV, ↓boxV, ↓buildV, ↓buildSliceV, ↓nilV, ↓appendV, ↓srcV, fillG, fillE, place, GVal.cells, GVal.ofConst, ↓resV, resG, ↓reduceIte, reduceEqDiff, reduceAdd, reduceSub, reduceLeDiff, reduceCtorEq, ↓asrcV, ↓lookupV, ↓mapUpdateV, keyOk, keyCells, pairG, aggV, Tag.cap, GVal.solid, Nat.reduceBEq, reduceMul, reduceLT, vcA, ↓vcB, vcC, fbFy, e73, setO_3, setO_4, setO_5, setO_6, setO_7, setO_8, kfind_h, vcD, v32]
theorem gPush2Y (y1 y2 : GObj) (m : GM) (hm : GMOK m) (h : Hs) (st s sq sw sv so n : Nat) (dg : GVal) (K Z : List Cm) (S out : List Hs) (l : List Hs) (hl : look m h = some l) (hS : h ∈ S) (hn : n = K.length) :
    GCalls Tryz.prog 73 [.ptr 5 sw 0 0, .agg (bytesG h.1)] (wObjY y1 y2 st s m sq sw sv so n dg K Z S out) (fun g O' => g = .tuple [] ∧ O' = wObjY y1 y2 st s m sq sw sv so n dg K Z S out) := by
  subst hn
  have c := fun X => gParK m h st s (by have := hm.pars h; omega) X
  simp only [hl, Option.isSome_some, parsM_some hl] at c
  obtain ⟨i, hi, hv, _⟩ := look_idx encB (setM S) h true (by rw [look_set, if_pos hS])
  refine h73.calls mixS (by simp) ?_
  simp only [gstart, s73, List.cons_append, List.nil_append, List.length_cons, List.length_nil, reduceAdd, reduceSub, List.replicate_succ, List.replicate_zero]
  simp +contextual -implicitDefEqProofs (maxSteps := 2000000) (disch := omega) only [drawC, drawK, keepT, binV, ↓unV, ↓loadV, ↓storeV, ↓fieldAddrV, ↓boxV, ↓buildV, ↓buildSliceV, ↓nilV, ↓appendV, ↓srcV, fillG, fillE, place, GVal.cells, GVal.ofConst, ↓resV, resG, ↓reduceIte, reduceEqDiff, reduceAdd, reduceSub, reduceLeDiff, reduceCtorEq, ↓asrcV, ↓lookupV, ↓mapUpdateV, keyOk, keyCells, pairG, aggV, Tag.cap, GVal.solid, Nat.reduceBEq, reduceMul, reduceLT, vcA, ↓vcB, vcC, fbFy, e73, vcD, v32]
  refine (c _).mono ?_
  rintro g O' ⟨rfl, rfl⟩
  simp +contextual -implicitDefEqProofs (maxSteps := 2000000) (disch := omega) only [drawC, drawK, keepT, binV, ↓unV, ↓loadV, ↓storeV, ↓fieldAddrV, ↓boxV, ↓buildV, ↓buildSliceV, ↓nilV, ↓appendV, ↓srcV, fillG, fillE, place, GVal.cells, GVal.ofConst, ↓resV, resG, ↓reduceIte, reduceEqDiff, reduceAdd, reduceSub, reduceLeDiff, reduceCtorEq, ↓asrcV, ↓lookupV, ↓mapUpdateV, keyOk, keyCells, pairG, aggV, Tag.cap, GVal.solid, Nat.reduceBEq, reduceMul, reduceLT, vcA, ↓vcB, vcC, fbFy, e73, setO_3, setO_4, setO_5, setO_6, setO_7, setO_8, kfind_h, hi, hv, vcD, v32]
theorem gPush3Y (y1 y2 : GObj) (m : GM) (hm : GMOK m) (h : Hs) (st s sq sw sv so n : Nat) (F : FuncId) (caps : List GVal) (K Z : List Cm) (S out : List Hs) (l : List Hs) (hl : look m h = some l) (hS : h ∉ S) (hF : DoneY y1 y2 st s m F caps h true) (hn : n = K.length) :
    GCalls Tryz.prog 73 [.ptr 5 sw 0 0, .agg (bytesG h.1)] (wObjY y1 y2 st s m sq sw sv so n (.func (.func F) [] caps) K Z S out) (fun g O' => g = .tuple [] ∧ O' = wObjY y1 y2 st s m sq sw sv so n (.func (.func F) [] caps) K Z S out) := by
  subst hn
  have c := fun X => gParK m h st s (by have := hm.pars h; omega) X
  simp only [hl, Option.isSome_some, parsM_some hl] at c
  obtain ⟨hi, hw⟩ := look_none encB (setM S) h (by rw [look_set, if_neg hS])
  have hw := hw true
  rw [mset_set S h hS] at hw
  refine h73.calls mixS (by simp) ?_
  simp only [gstart, s73, List.cons_append, List.nil_append, List.length_cons, List.length_nil, reduceAdd, reduceSub, List.replicate_succ, List.replicate_zero]
  simp +contextual -implicitDefEqProofs (maxSteps := 2000000) (disch := omega) only [drawC, drawK, keepT, binV, ↓unV, ↓loadV, ↓storeV, ↓fieldAddrV, ↓boxV, ↓buildV, ↓buildSliceV, ↓nilV, ↓appendV, ↓srcV, fillG, fillE, place, GVal.cells, GVal.ofConst, ↓resV, resG, ↓reduceIte, reduceEqDiff, reduceAdd, reduceSub, reduceLeDiff, reduceCtorEq, ↓asrcV, ↓lookupV, ↓mapUpdateV, keyOk, keyCells, pairG, aggV, Tag.cap, GVal.solid, Nat.reduceBEq, reduceMul, reduceLT, vcA, ↓vcB, vcC, fbFy, e73, vcD, v32]
  refine (c _).mono ?_
  rintro g O' ⟨rfl, rfl⟩
  simp +contextual -implicitDefEqProofs (maxSteps := 2000000) (disch := omega) only [drawC, drawK, keepT, binV, ↓unV, ↓loadV, ↓storeV, ↓fieldAddrV, ↓boxV, ↓buildV, ↓buildSliceV, ↓nilV, ↓appendV, ↓srcV, fillG, fillE, place, GVal.cells, GVal.ofConst, ↓resV, resG, ↓reduceIte, reduceEqDiff, reduceAdd, reduceSub, reduceLeDiff, reduceCtorEq, ↓asrcV, ↓lookupV, ↓mapUpdateV, keyOk, keyCells, pairG, aggV, Tag.cap, GVal.solid, Nat.reduceBEq, reduceMul, reduceLT, vcA, ↓vcB, vcC, fbFy, e73, setO_3, setO_4, setO_5, setO_6, setO_7, setO_8, kfind_h, hi, hw, vcD, v32]
  refine (hF _).mono ?_
  rintro g O' ⟨rfl, rfl⟩
  simp +contextual -implicitDefEqProofs (maxSteps := 2000000) (disch := omega) only [drawC, drawK, keepT, binV, ↓unV, ↓loadV, ↓storeV, ↓fieldAddrV, ↓boxV, ↓buildV, ↓buildSliceV, ↓nilV, ↓appendV, ↓srcV, fillG, fillE, place, GVal.cells, GVal.ofConst, ↓resV, resG, ↓reduceIte, reduceEqDiff, reduceAdd, reduceSub, reduceLeDiff, reduceCtorEq, ↓asrcV, ↓lookupV, ↓mapUpdateV, keyOk, keyCells, pairG, aggV, Tag.cap, GVal.solid, Nat.reduceBEq, reduceMul, reduceLT, vcA, ↓vcB, vcC, fbFy, e73, setO_3, setO_4, setO_5, setO_6, setO_7, setO_8, kfind_h, csG_len, all_csG, hi, hw, vcD, v33, v32]
theorem gPush4Y (y1 y2 : GObj) (m : GM) (hm : GMOK m) (h : Hs) (st s sq sw sv so n : Nat) (F : FuncId) (caps : List GVal) (K Z : List Cm) (S out : List Hs) (l : List Hs) (hl : look m h = some l) (hS : h ∉ S) (hF : DoneY y1 y2 st s m F caps h false) (hK : K.length ≤ 1000000) (hn : n = K.length) :
    GCalls Tryz.prog 73 [.ptr 5 sw 0 0, .agg (bytesG h.1)] (wObjY y1 y2 st s m sq sw sv so n (.func (.func F) [] caps) K Z S out) (fun g O' => ∃ sv', g = .tuple [] ∧ O' = wObjY y1 y2 st s m sq sw sv' so (n + 1) (.func (.func F) [] caps) (K ++ [(h, l)]) [] (S ++ [h]) out) := by
  subst hn
  have c := fun X => gParK m h st s (by have := hm.pars h; omega) X
  simp only [hl, Option.isSome_some, parsM_some hl] at c
  obtain ⟨hi, hw⟩ := look_none encB (setM S) h (by rw [look_set, if_neg hS])
  have hw := hw true
  rw [mset_set S h hS] at hw
  refine h73.calls mixS (by simp) ?_
  simp only [gstart, s73, List.cons_append, List.nil_append, List.length_cons, List.length_nil, reduceAdd, reduceSub, List.replicate_succ, List.replicate_zero]
  simp +contextual -implicitDefEqProofs (maxSteps := 2000000) (disch := omega) only [drawC, drawK, keepT, binV, ↓unV, ↓loadV, ↓storeV, ↓fieldAddrV, ↓boxV, ↓buildV, ↓buildSliceV, ↓nilV, ↓appendV, ↓srcV, fillG, fillE, place, GVal.cells, GVal.ofConst, ↓resV, resG, ↓reduceIte, reduceEqDiff, reduceAdd, reduceSub, reduceLeDiff, reduceCtorEq, ↓asrcV, ↓lookupV, ↓mapUpdateV, keyOk, keyCells, pairG, aggV, Tag.cap, GVal.solid, Nat.reduceBEq, reduceMul, reduceLT, vcA, ↓vcB, vcC, fbFy, e73, vcD, v32]
  refine (c _).mono ?_
  rintro g O' ⟨rfl, rfl⟩
  simp +contextual -implicitDefEqProofs (maxSteps := 2000000) (disch := omega) only [drawC, drawK, keepT, binV, ↓unV, ↓loadV, ↓storeV, ↓fieldAddrV, ↓boxV, ↓buildV, ↓buildSliceV, ↓nilV, ↓appendV, ↓srcV, fillG, fillE, place, GVal.cells, GVal.ofConst, ↓resV, resG, ↓reduceIte, reduceEqDiff, reduceAdd, reduceSub, reduceLeDiff, reduceCtorEq, ↓asrcV, ↓lookupV, ↓mapUpdateV, keyOk, keyCells, pairG, aggV, Tag.cap, GVal.solid, Nat.reduceBEq, reduceMul, reduceLT, vcA, ↓vcB, vcC, fbFy, e73, setO_3, setO_4, setO_5, setO_6, setO_7, setO_8, kfind_h, hi, hw, vcD, v32]
  refine (hF _).mono ?_
  rintro g O' ⟨rfl, rfl⟩
  simp +contextual -implicitDefEqProofs (maxSteps := 2000000) (disch := omega) only [drawC, drawK, keepT, binV, ↓unV, ↓loadV, ↓storeV, ↓fieldAddrV, ↓boxV, ↓buildV, ↓buildSliceV, ↓nilV, ↓appendV, ↓srcV, fillG, fillE, place, GVal.cells, GVal.ofConst, ↓resV, resG, ↓reduceIte, reduceEqDiff, reduceAdd, reduceSub, reduceLeDiff, reduceCtorEq, ↓asrcV, ↓lookupV, ↓mapUpdateV, keyOk, keyCells, pairG, aggV, Tag.cap, GVal.solid, Nat.reduceBEq, reduceMul, reduceLT, vcA, ↓vcB, vcC, fbFy, e73, setO_3, setO_4, setO_5, setO_6, setO_7, setO_8, kfind_h, csG_len, all_csG, hi, hw, vcD, v33, v32]
  refine ⟨by simp, by omega, by omega, fun v => ⟨v, ?_⟩⟩
  rw [take_csG]
  simp [csG_app, csG_one, comG]
theorem gPushY (y1 y2 : GObj) (m : GM) (hm : GMOK m) (h : Hs) (st s sq sw sv so n : Nat) (F : FuncId) (caps : List GVal) (dn : Hs → Bool) (hd : ∀ h, DoneY y1 y2 st s m F caps h (dn h)) (K Z : List Cm) (S out : List Hs) (hK : K.length ≤ 1000000) (hn : n = K.length) :
    GCalls Tryz.prog 73 [.ptr 5 sw 0 0, .agg (bytesG h.1)] (wObjY y1 y2 st s m sq sw sv so n (.func (.func F) [] caps) K Z S out) (fun g O' => ∃ sv' Z', g = .tuple [] ∧ O' = if pushed m dn S h = true then wObjY y1 y2 st s m sq sw sv' so (n + 1) (.func (.func F) [] caps) (K ++ [(h, parsM m h)]) Z' (S ++ [h]) out else wObjY y1 y2 st s m sq sw sv' so n (.func (.func F) [] caps) K Z' S out) := by
  have stay : pushed m dn S h = false → GCalls Tryz.prog 73 [.ptr 5 sw 0 0, .agg (bytesG h.1)] (wObjY y1 y2 st s m sq sw sv so n (.func (.func F) [] caps) K Z S out) (fun g O' => g = .tuple [] ∧ O' = wObjY y1 y2 st s m sq sw sv so n (.func (.func F) [] caps) K Z S out) →
      GCalls Tryz.prog 73 [.ptr 5 sw 0 0, .agg (bytesG h.1)] (wObjY y1 y2 st s m sq sw sv so n (.func (.func F) [] caps) K Z S out) (fun g O' => ∃ sv' Z', g = .tuple [] ∧ O' = if pushed m dn S h = true then wObjY y1 y2 st s m sq sw sv' so (n + 1) (.func (.func F) [] caps) (K ++ [(h, parsM m h)]) Z' (S ++ [h]) out else wObjY y1 y2 st s m sq sw sv' so n (.func (.func F) [] caps) K Z' S out) := fun hp hc => by
    rw [hp]
    refine hc.mono ?_
    rintro g O' ⟨rfl, rfl⟩
    exact ⟨sv, Z, rfl, by rw [if_neg (by simp)]⟩
  cases hl : look m h with
  | none => exact stay (by unfold pushed; rw [hl]; rfl) (gPush1Y y1 y2 m hm h st s sq sw sv so n (.func (.func F) [] caps) K Z S out hl hn)
  | some l =>
    rw [parsM_some hl]
    rw [parsM_some hl] at stay
    by_cases hS : h ∈ S
    · exact stay (by unfold pushed; rw [hl]; simp [hS]) (gPush2Y y1 y2 m hm h st s sq sw sv so n (.func (.func F) [] caps) K Z S out l hl hS hn)
    · have hF := hd h
      cases hb : dn h with
      | true =>
        rw [hb] at hF
        exact stay (by unfold pushed; rw [hl, hb]; simp) (gPush3Y y1 y2 m hm h st s sq sw sv so n F caps K Z S out l hl hS hF hn)
      | false =>
        rw [hb] at hF
        have hp : pushed m dn S h = true := by unfold pushed; rw [hl, hb]; simp [hS]
        rw [hp]
        refine (gPush4Y y1 y2 m hm h st s sq sw sv so n F caps K Z S out l hl hS hF hK hn).mono ?_
        rintro g O' ⟨sv', rfl, rfl⟩
        exact ⟨sv', [], rfl, by rw [if_pos rfl]⟩
theorem gStep1Y (y1 y2 : GObj) (m : GM) (hm : GMOK m) (st s sq sw sv so n : Nat) (F : FuncId) (caps : List GVal) (dn : Hs → Bool) (hd : ∀ h, DoneY y1 y2 st s m F caps h (dn h)) (K Z : List Cm) (x p : Hs) (r S out : List Hs) (hK : K.length ≤ 999999) (hn : n = K.length) :
    GCalls Tryz.prog 74 [.ptr 5 sw 0 0] (wObjY y1 y2 st s m sq sw sv so (n + 1) (.func (.func F) [] caps) (K ++ [(x, p :: r)]) Z S out) (fun g O' => ∃ sv' Z', g = .tuple [] ∧ O' = if pushed m dn S p = true then wObjY y1 y2 st s m sq sw sv' so (n + 2) (.func (.func F) [] caps) (K ++ [(x, r)] ++ [(p, parsM m p)]) Z' (S ++ [p]) out else wObjY y1 y2 st s m sq sw sv' so (n + 1) (.func (.func F) [] caps) (K ++ [(x, r)]) Z' S out) := by
  subst hn
  have eS : (csG (K ++ [(x, p :: r)] ++ Z)).getD K.length [] = bytesG x.1 ++ [.slice (hsG (p :: r)) .none] := by
    rw [csG_at _ _ (by simp)]
    simp [List.getD, comG]
  have d1 : ((K.length : Int) + 1 - 1).toNat = K.length := by omega
  have eH : (hsG (p :: r)).getD 0 [] = bytesG p.1 := rfl
  have d2 : ((0 : Int) < (r.length : Int) + 1) = True := eq_true (by omega)
  have eD : List.drop (Int.toNat 1) (List.take ((r.length : Int) + 1).toNat (hsG (p :: r))) = hsG r := by
    have e : ((r.length : Int) + 1).toNat = (hsG (p :: r)).length := by rw [hsG_len]; simp
    rw [e, List.take_length]; rfl
  have eW : (csG (K ++ [(x, p :: r)] ++ Z)).set K.length (bytesG x.1 ++ [.slice (hsG r) .none]) = csG (K ++ [(x, r)] ++ Z) := by
    rw [csG_app, csG_app, csG_app, csG_app, List.append_assoc, List.set_append_right _ _ (by rw [csG_len]; omega), csG_len, Nat.sub_self, List.append_assoc]
    rfl
  have cP := gPushY y1 y2 m hm p st s sq sw sv so (K.length + 1) F caps dn hd (K ++ [(x, r)]) Z S out (by simp; omega) (by simp)
  refine GCalls.dropTo ?_
  refine h74.calls mixS (by simp) ?_
  simp only [gstart, s74, List.cons_append, List.nil_append, List.length_cons, List.length_nil, reduceAdd, reduceSub, List.replicate_succ, List.replicate_zero]
  simp +contextual -implicitDefEqProofs (maxSteps := 2000000) (disch := omega) only [drawC, drawK, keepT, ↓lenV, binV, optV, ↓loadV, ↓storeV, ↓fieldAddrV, ↓indexAddrV, ↓allocV, ↓buildSliceV, ↓sliceV, ↓nilV, ↓appendV, ↓srcV, bound, cutTag, hiTag, fillE, GVal.cells, GVal.ofConst, ↓resV, resG, ↓reduceIte, reduceEqDiff, reduceAdd, reduceSub, reduceLeDiff, reduceCtorEq, ↓asrcV, Tag.cap, GVal.solid, Nat.reduceBEq, reduceMul, reduceLT, vcA, ↓vcB, vcC, fbFy, e74, kfind_h, csG_len, all_csG, eS, eH, d1, d2, eD, eW, all_hsG, toNat0, setO_3, setO_4, setO_5, setO_6, setO_7, setO_8, true_imp_iff, Nat.sub_zero, List.drop_zero, hsG_len, List.length_append, List.length_cons, List.length_nil, List.length_singleton, vcD, v33, v32]
  refine ⟨by omega, by omega, by omega, by omega, by omega, by omega, fun u => ⟨by omega, by omega, by omega, by omega, by omega, ?_⟩⟩
  refine (GCalls.tail cP (by rintro g O' ⟨_, _, rfl, rfl⟩; split <;> exact ⟨rfl, by simp⟩) rfl (by simp) [.row u 32 [bytesG p.1]]).mono ?_
  rintro g O' ⟨_, ⟨sv', Z', rfl, rfl⟩, rfl⟩
  simp +contextual -implicitDefEqProofs (maxSteps := 2000000) (disch := omega) only [drawC, drawK, keepT, ↓lenV, binV, optV, ↓loadV, ↓storeV, ↓fieldAddrV, ↓indexAddrV, ↓allocV, ↓buildSliceV, ↓sliceV, ↓nilV, ↓appendV, ↓srcV, bound, cutTag, hiTag, fillE, GVal.cells, GVal.ofConst, ↓resV, resG, ↓reduceIte, reduceEqDiff, reduceAdd, reduceSub, reduceLeDiff, reduceCtorEq, ↓asrcV, Tag.cap, GVal.solid, Nat.reduceBEq, reduceMul, reduceLT, vcA, ↓vcB, vcC, fbFy, e74, vcD]
  exact ⟨_, _, _, rfl, leA_refl _, sv', Z', rfl, rfl⟩
theorem gStep0Y (y1 y2 : GObj) (m : GM) (st s sq sw sv so n : Nat) (dg : GVal) (K Z : List Cm) (x : Hs) (S out : List Hs) (hK : K.length ≤ 999999) (ho : out.length ≤ 1000000) (hn : n = K.length) :
    GCalls Tryz.prog 74 [.ptr 5 sw 0 0] (wObjY y1 y2 st s m sq sw sv so (n + 1) dg (K ++ [(x, [])]) Z S out) (fun g O' => ∃ so', g = .tuple [] ∧ O' = wObjY y1 y2 st s m sq sw sv so' n dg K ((x, []) :: Z) S (out ++ [x])) := by
  subst hn
  have eS : (csG (K ++ [(x, [])] ++ Z)).getD K.length [] = bytesG x.1 ++ [.slice (hsG []) .none] := by
    rw [csG_at _ _ (by simp)]
    simp [List.getD, comG]
  have d1 : ((K.length : Int) + 1 - 1).toNat = K.length := by omega
  refine h74.calls mixS (by simp) ?_
  simp only [gstart, s74, List.cons_append, List.nil_append, List.length_cons, List.length_nil, reduceAdd, reduceSub, List.replicate_succ, List.replicate_zero]
  simp +contextual -implicitDefEqProofs (maxSteps := 2000000) (disch := omega) only [drawC, drawK, keepT, ↓lenV, binV, optV, ↓loadV, ↓storeV, ↓fieldAddrV, ↓indexAddrV, ↓allocV, ↓buildSliceV, ↓sliceV, ↓nilV, ↓appendV, ↓srcV, bound, cutTag, hiTag, fillE, GVal.cells, GVal.ofConst, ↓resV, resG, ↓reduceIte, reduceEqDiff, reduceAdd, reduceSub, reduceLeDiff, reduceCtorEq, ↓asrcV, Tag.cap, GVal.solid, Nat.reduceBEq, reduceMul, reduceLT, vcA, ↓vcB, vcC, fbFy, e74, kfind_h, csG_len, all_csG, eS, d1, toNat0, setO_3, setO_4, setO_5, setO_6, setO_7, setO_8, Int.lt_irrefl, false_imp_iff, true_and, Nat.sub_zero, List.drop_zero, hsG_len, all_hsG, List.length_append, List.length_cons, List.length_nil, List.length_singleton, vcD, v33, v32]
  refine ⟨by omega, by omega, by omega, by omega, by omega, by omega, by omega, fun so' => ⟨by omega, by omega, by omega, so', ?_⟩⟩
  simp [hsG_app, hsG]
end Gv.Tryz
